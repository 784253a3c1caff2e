/-
  A part of the proof of PrintScans: S22, S23, S24, S25, S26, S27, S28, S29, S30, S31, S32, S33, S34, S35, S36, S37.
-/
import Derived.Test.YtocbgffdpfiidaaGreatDoorP11
set_option linter.unusedSimpArgs false
set_option linter.unusedVariables false
set_option linter.defProp false
set_option maxHeartbeats 1000000
set_option maxRecDepth 100000
namespace Go.Proofs.YtocbgffdpfiidaaGreatDoor
open Go Go.Abs Go.Proofs
section
theorem rA{p:List aV × Int}{k:Int} : (pC p k).length<=p.1.length+2:=by
 unfold pC
 split
 ·simp
 ·omega
section
variable {t:Tm}{h:Nat}(hF:GZ h t)(hO:wS t)(hK:∀ u∈t.kids,oe u)(H:ag)
include hF hO hK
theorem tk4(hk:t.kind=4):aB A 33 [.agg (gd t)] H=some (.slice (strs (aj t)) true,none):=by
 have _:=hF
 have hs:=Av t.n H
 by_cases s0:(fm t.n).1=[]
 ·exact absurd rfl (fi hO (c1:=-2) (c2:=0) (by rw[hk];simp[bN,s0])).1
 by_cases s7:(fm t.n).2=7
 ·have hc:=fi hO (c1:=1) (c2:=0) (by rw[hk];simp[bN,s0,s7])
  have hl:=hc.2.1 (by omega)
  obtain⟨x,kA⟩:=R5 (show t.kids.length=1 by omega)
  have hx:=hK x (by rw[kA];simp)
  have dx:=NT hx 7 H
  have lx:=hx.len
  have kl:=rA (p:=(aj x,dc x)) (k:=7)
  simp only at kl
  have kt:aK t.kids=[[.int .i64 x.kind,.int .i64 x.n,.str x.name,.str x.field,.str x.wn,.slice (aO x.wk) false,.slice (aK x.kids) false,.slice (strs x.names) false]]:=by
   rw[kA,aK,aK,ax]
  rw[ax] at dx
  have e:aj t=[(fm t.n).1]++pC (aj x,dc x) 7:=by rw[dZ,hk,kA];rfl
  rw[e,ax]
  generalize pC (aj x,dc x) 7=kx at dx kl ⊢
  generalize (fm t.n).1=sg at hs ⊢
  have a1:an false 1 16 (.slice [[.str sg]] true) (.slice (strs kx) true)=some (.slice (strs ([sg]++kx)) true):=bG (l:=[sg]) (by simp;omega)
  generalize [sg]++kx=q1 at a1 ⊢
  refine ba (fn:=jc) rfl rfl rfl ?_
  unfold jc
  rw[kt]
  simp(disch:=omega)only[aX,aa,simprocAttr,hk,hs,s7,dx,a1]
 ·have hc:=fi hO (c1:=2) (c2:=0) (by rw[hk];simp[bN,s0,s7])
  have hl:=hc.2.1 (by omega)
  obtain⟨x,y,kA⟩:=N1 (show t.kids.length=2 by omega)
  have hx:=hK x (by rw[kA];simp)
  have hy:=hK y (by rw[kA];simp)
  have lx:=hx.len
  have ly:=hy.len
  obtain⟨lv,Dw⟩:∃ lv,lv=(fm t.n).2:=⟨_,rfl⟩
  have hlr:0<=lv/\lv<=7:=by
   rw[Dw]
   unfold fm
   split
   ·exact⟨by decide,by decide⟩
   ·rename_i hn
    rcases OY (x:=t.n) (by omega) (by omega) with e|e|e|e|e|e|e|e|e|e|e|e<;>rw[e]<;>exact⟨by decide,by decide⟩
  have dx:=fun l=>NT hx l H
  have dy:=NT hy (lv+1) H
  have kt:aK t.kids=[[.int .i64 x.kind,.int .i64 x.n,.str x.name,.str x.field,.str x.wn,.slice (aO x.wk) false,.slice (aK x.kids) false,.slice (strs x.names) false],
    [.int .i64 y.kind,.int .i64 y.n,.str y.name,.str y.field,.str y.wn,.slice (aO y.wk) false,.slice (aK y.kids) false,.slice (strs y.names) false]]:=by
   rw[kA,aK,aK,aK,ax,ax]
  rw[ax] at dx dy
  have e:aj t=pC (aj x,dc x) (if lv=3 then 4 else lv)++[(fm t.n).1]++pC (aj y,dc y) (lv+1):=by rw[dZ,hk,kA,Dw];rfl
  rw[e,ax]
  rw[<- Dw] at hs s7
  have klx:=rA (p:=(aj x,dc x)) (k:=if lv=3 then 4 else lv)
  have kly:=rA (p:=(aj y,dc y)) (k:=lv+1)
  simp only at klx kly
  have dx:=dx (if lv=3 then 4 else lv)
  generalize pC (aj x,dc x) (if lv=3 then 4 else lv)=kx at dx klx ⊢
  generalize pC (aj y,dc y) (lv+1)=ky at dy kly ⊢
  generalize (fm t.n).1=sg at hs ⊢
  have a1:an false 1 16 (.slice (strs kx) true) (.slice [[.str sg]] true)=some (.slice (strs (kx++[sg])) true):=dC (by omega)
  have a2:an false 1 16 (.slice (strs (kx++[sg])) true) (.slice (strs ky) true)=some (.slice (strs (kx++[sg]++ky)) true):=bG (by simp;omega)
  generalize kx++[sg]++ky=q2 at a2 ⊢
  generalize kx++[sg]=q1 at a1 a2
  refine ba (fn:=jc) rfl rfl rfl ?_
  unfold jc
  rw[kt]
  by_cases l3:lv=3
  ·rw[if_pos l3] at dx
   rw[l3] at hs dy
   rw[show (3:Int)+1=4 from rfl] at dy
   simp(disch:=omega)only[aX,aa,simprocAttr,hk,hs,dx,dy,a1,a2]
  ·rw[if_neg l3] at dx
   simp(disch:=omega)only[aX,aa,simprocAttr,hk,hs,dx,dy,a1,a2]
end
end
section
section
variable {t:Tm}{h:Nat}(hF:GZ h t)(hO:wS t)(hK:∀ u∈t.kids,oe u)(H:ag)
include hF hO hK
theorem tk7(hk:t.kind=7):aB A 33 [.agg (gd t)] H=some (.slice (strs (aj t)) true,none):=by
 have hc:=fi hO (c1:=-1) (c2:=t.kids.length) (by rw[hk];rfl)
 have n7:=hc.2.2
 have uc:=hF.kl
 have hq:=po t.name H (by have:=hF.a;omega)
 have hql:=iJ t.name
 obtain⟨ws,hws⟩:∃ ws,ws=List.zipWith (fun s (x:List aV × Int)=>[s,[61]]++x.1) t.names (t.kids.map fun t=>(aj t,dc t)):=⟨_,rfl⟩
 have hwl:ws.length=t.kids.length:=by rw[hws,List.length_zipWith,aie];omega
 have kE:∀ (i:Nat) (s:aV) (u:Tm),t.names[i]?=some s->t.kids[i]?=some u->ws[i]?=some ([s,[61]]++aj u):=by
  intro i s u h1 h2
  rw[hws,List.getElem?_zipWith,ah2,h1,h2]
  rfl
 have hwb:∀ x∈ws,x.length<=100002:=by
  intro x hx
  obtain⟨i,hi⟩:=aif hx
  have aZ:=(ahO.1 hi).1
  have h1:=ahP (l:=t.names) (i:=i) (by omega)
  have h2:=ahP (l:=t.kids) (i:=i) (by omega)
  have h3:=kE i _ _ h1 h2
  rw[hi] at h3
  injection h3 with h3
  rw[h3]
  have:=(hK _ (aiQ (l:=t.kids) (n:=i) (by omega))).len
  simp only[List.length_append,List.length_cons,ahX];omega
 have B6:∀ i,(aG (ws.take i)).length<=3*100003:=fun i=>by
  have h1:=fS (ws.take i) 100002 (fun x hx=>hwb x (aiO hx))
  have h2:(ws.take i).length<=3:=by rw[List.length_take];omega
  exact ait h1 (ah7 _ h2)
 have hb:=jh (cq t.name) (aG ws) [123] [125] H (by omega) (by have:=B6 ws.length;rw[aiZ] at this;omega) true true
 have e:aj t=cq t.name++[[123]]++aG ws++[[125]]:=by rw[dZ,hk,hws];rfl
 rw[e,ax]
 generalize cq t.name++[[123]]++aG ws++[[125]]=out at hb ⊢
 refine ba (fn:=jc) rfl rfl rfl ?_
 unfold jc
 simp(disch:=omega)only[aX,aa,simprocAttr,hk]
 refine bP t.kids.length 1 (fun i s=>∃ T,s=⟨T,H,H.length,1⟩/\T 1=.lbox 0 [.int .i64 7,.int .i64 t.n,.str t.name,.str t.field,.str t.wn,.slice (aO t.wk) false,.slice (aK t.kids) false,.slice (strs t.names) false]/\T 8=.slice (strs (aG (ws.take i))) true/\T 9=.int .i64 i)
  (fun s=>∃ T,s=⟨T,H,H.length,1⟩/\T 1=.lbox 0 [.int .i64 7,.int .i64 t.n,.str t.name,.str t.field,.str t.wn,.slice (aO t.wk) false,.slice (aK t.kids) false,.slice (strs t.names) false]/\T 8=.slice (strs (aG ws)) true) (fun _=>False) ?_ ?_ (fun _ h=>h.elim) 0 _ (aiB _) ?_
 ·rintro i st hi ⟨T,rfl,e1,e8,e9⟩
  by_cases aZ:i<t.kids.length
  ·obtain⟨u,hu⟩:∃ u,t.kids[i]?=some u:=⟨_,ahP aZ⟩
   obtain⟨s,hs⟩:∃ s,t.names[i]?=some s:=⟨_,ahP (by omega)⟩
   have hw:=kE i s u hs hu
   have hm:=hK u (ahZ hu)
   have du:=hm.d H
   have lu:=hm.len
   have T1:=Dj hu
   have atn:=bB hs
   rw[ax] at du T1
   have FV:ws.take (i+1)=ws.take i++[[s,[61]]++aj u]:=by rw[ajw,hw];rfl
   have x7:=kB ([s,[61]]++aj u) (ws.take i)
   rw[<- FV] at x7
   have B0:=B6 i
   by_cases h0:i=0
   ·subst h0
    simp only[aiN,ai3] at x7 e8
    have a1:an false 1 16 (.slice (strs (aG [])) true) (.slice [[.str s],[.str [61]]] true)=some (.slice (strs [s,[61]]) true):=bG (l:=[]) (m:=[s,[61]]) (by simp)
    have a2:an false 1 16 (.slice (strs [s,[61]]) true) (.slice (strs (aj u)) true)=some (.slice (strs ([s,[61]]++aj u)) true):=bG (by simp;omega)
    generalize [s,[61]]++aj u=q2 at a2 x7
    generalize [s,[61]]=q1 at a1 a2
    simp(disch:=omega)only[aX,aa,simprocAttr,e1,e8,e9,b8,T1,atn,du,a1,a2]
    exact⟨aZ,_,rfl,by simp(disch:=omega)only[aM,aa,simprocAttr,e1],by rw[x7];simp(disch:=omega)only[aM,aa,simprocAttr],by simp(disch:=omega)only[aM,aa,simprocAttr]⟩
   ·have cS:¬ (ws.take i=[]):=fun e=>by
     have:=aj8 List.length e
     rw[List.length_take,ahX] at this
     omega
    rw[if_neg cS,<- ajf] at x7
    generalize aG (ws.take i)=acc at e8 B0 x7
    have a0:an false 1 16 (.slice (strs acc) true) (.slice [[.str [44]]] true)=some (.slice (strs (acc++[[44]])) true):=dC (by omega)
    have a1:an false 1 16 (.slice (strs (acc++[[44]])) true) (.slice [[.str s],[.str [61]]] true)=some (.slice (strs (acc++[[44]]++[s,[61]])) true):=bG (m:=[s,[61]]) (by simp;omega)
    have a2:an false 1 16 (.slice (strs (acc++[[44]]++[s,[61]])) true) (.slice (strs (aj u)) true)=some (.slice (strs (acc++[[44]]++[s,[61]]++aj u)) true):=bG (by simp;omega)
    generalize acc++[[44]]++[s,[61]]++aj u=q2 at a2 x7
    generalize acc++[[44]]++[s,[61]]=q1 at a1 a2
    generalize acc++[[44]]=q0 at a0 a1
    simp(disch:=omega)only[aX,aa,simprocAttr,e1,e8,e9,b8,T1,atn,du,a0,a1,a2]
    exact⟨aZ,_,rfl,by simp(disch:=omega)only[aM,aa,simprocAttr,e1],by rw[x7];simp(disch:=omega)only[aM,aa,simprocAttr],by simp(disch:=omega)only[aM,aa,simprocAttr]⟩
  ·rw[aiA (by omega)] at e8
   simp(disch:=omega)only[aX,aa,simprocAttr,e1,e8,e9,b8]
   exact⟨_,rfl,by simp(disch:=omega)only[aM,aa,simprocAttr,e1],by simp(disch:=omega)only[aM,aa,simprocAttr,e8]⟩
 ·rintro st ⟨T,rfl,e1,e8⟩
  simp(disch:=omega)only[aX,aa,simprocAttr,e1,e8,hq,hb]
 ·exact⟨_,rfl,by simp(disch:=omega)only[aM,aa,simprocAttr],by simp(disch:=omega)only[aM,aa,simprocAttr,aiN,aG,strs,ah3],by simp(disch:=omega)only[aM,aa,simprocAttr]⟩
end
end
section
section
variable {t:Tm}{h:Nat}(hF:GZ h t)(hO:wS t)(hK:∀ u∈t.kids,oe u)(H:ag)
include hF hO hK
theorem ack(hk:t.kind=10):∃ (ws:List (List aV)) (x:Tm),t.kids[0]?=some x/\2<=t.kids.length/\ws.length+1=t.kids.length/\t.names.length=2*ws.length /\
  (∀ (j:Nat) (p q:aV) (u:Tm),t.names[2*j]?=some p->t.names[2*j+1]?=some q->t.kids[j+1]?=some u->ws[j]?=some ([p,q,[45,62]]++aj u)) /\
  aj t=[[109,97,116,99,104]]++cq t.name++[[40]]++aj x++[[41]]++[[123]]++aG ws++[[125]]:=by
 have _:=hK
 have uc:=hF.kl
 have h2:¬ t.kids.length<2:=fun aZ=>absurd rfl (fi hO (c1:=-2) (c2:=0) (by rw[hk];simp[bN,aZ])).1
 have hc:=fi hO (c1:=-1) (c2:=2*((t.kids.length:Int)-1)) (by rw[hk];simp[bN,h2])
 have n7:=hc.2.2
 by_cases h3:t.kids.length=2
 ·obtain⟨x,y,kA⟩:=N1 h3
  obtain⟨p,q,pA⟩:=N1 (show t.names.length=2 by omega)
  refine⟨[[p,q,[45,62]]++aj y],x,by rw[kA];rfl,by omega,by simp;omega,by simp;omega,?_,?_⟩
  ·intro j a b u e1 e2 e3
   rw[pA] at e1 e2
   rw[kA] at e3
   cases j with
   | zero=>injection e1 with e1;injection e2 with e2;injection e3 with e3;subst e1 e2 e3;rfl
   | succ j=>simp at e3
  ·rw[dZ,hk,kA,pA];rfl
 ·obtain⟨x,y,z,kA⟩:=Xk (show t.kids.length=3 by omega)
  obtain⟨p,q,r,s,pA⟩:∃ p q r s,t.names=[p,q,r,s]:=by
   have h4:t.names.length=4:=by omega
   match hn:t.names,h4 with
   | [p,q,r,s],_=>exact⟨p,q,r,s,rfl⟩
  refine⟨[[p,q,[45,62]]++aj y,[r,s,[45,62]]++aj z],x,by rw[kA];rfl,by omega,by simp;omega,by simp;omega,?_,?_⟩
  ·intro j a b u e1 e2 e3
   rw[pA] at e1 e2
   rw[kA] at e3
   match j with
   | 0=>injection e1 with e1;injection e2 with e2;injection e3 with e3;subst e1 e2 e3;rfl
   | 1=>injection e1 with e1;injection e2 with e2;injection e3 with e3;subst e1 e2 e3;rfl
   | j+2=>simp at e3
  ·rw[dZ,hk,kA,pA]
   show [[109,97,116,99,104]]++cq t.name++[[40]]++aj x++[[41]]++[[123]]++([p,q,[45,62]]++aj y++[[44]]++[r,s,[45,62]]++aj z)++[[125]]=_
   simp[aG]
theorem ad9(hk:t.kind=10):aB A 33 [.agg (gd t)] H=some (.slice (strs (aj t)) true,none):=by
 obtain⟨ws,x,qE,h2,hwl,n7,kE,e⟩:=ack hF hO hK hk
 have uc:=hF.kl
 have hq:=po t.name H (by have:=hF.a;omega)
 have hql:=iJ t.name
 have hxK:=hK x (ahZ qE)
 have dx:=hxK.d H
 have lx:=hxK.len
 have atx:=Dj qE
 rw[ax] at dx atx
 have aay:∀ i,i<ws.length->∃ p q u,t.names[2*i]?=some p/\t.names[2*i+1]?=some q/\t.kids[i+1]?=some u/\ws[i]?=some ([p,q,[45,62]]++aj u):=by
  intro i hi
  have h1:=ahP (l:=t.names) (i:=2*i) (by omega)
  have h3:=ahP (l:=t.names) (i:=2*i+1) (by omega)
  have h4:=ahP (l:=t.kids) (i:=i+1) (by omega)
  exact⟨_,_,_,h1,h3,h4,kE i _ _ _ h1 h3 h4⟩
 have hwb:∀ x∈ws,x.length<=100003:=by
  intro y hy
  obtain⟨i,hi⟩:=aif hy
  obtain⟨p,q,u,_,_,h4,h5⟩:=aay i (ahO.1 hi).1
  rw[hi] at h5
  injection h5 with h5
  rw[h5]
  have:=(hK u (ahZ h4)).len
  simp only[List.length_append,List.length_cons,ahX];omega
 have B6:∀ i,(aG (ws.take i)).length<=3*100004:=fun i=>by
  have h1:=fS (ws.take i) 100003 (fun x hx=>hwb x (aiO hx))
  have h2:(ws.take i).length<=3:=by rw[List.length_take];omega
  exact ait h1 (ah7 _ h2)
 have hlw:(aG ws).length<=3*100004:=by have:=B6 ws.length;rwa [aiZ] at this
 have a1:an false 1 16 (.slice [[.str [109,97,116,99,104]]] true) (.slice (strs (cq t.name)) true)=some (.slice (strs ([[109,97,116,99,104]]++cq t.name)) true):=bG (l:=[[109,97,116,99,104]]) (by simp;omega)
 have b1:=jh ([[109,97,116,99,104]]++cq t.name) (aj x) [40] [41] H (by simp;omega) (by omega) true true
 have b2:=jh ([[109,97,116,99,104]]++cq t.name++[[40]]++aj x++[[41]]) (aG ws) [123] [125] H (by simp;omega) (by omega) true true
 rw[e,ax]
 generalize [[109,97,116,99,104]]++cq t.name++[[40]]++aj x++[[41]]++[[123]]++aG ws++[[125]]=out at b2 ⊢
 generalize [[109,97,116,99,104]]++cq t.name++[[40]]++aj x++[[41]]=o1 at b1 b2
 generalize [[109,97,116,99,104]]++cq t.name=o0 at a1 b1
 refine ba (fn:=jc) rfl rfl rfl ?_
 unfold jc
 simp(disch:=omega)only[aX,aa,simprocAttr,hk]
 refine bP ws.length 3 (fun i s=>∃ T,s=⟨T,H,H.length,1⟩/\T 1=.lbox 0 [.int .i64 10,.int .i64 t.n,.str t.name,.str t.field,.str t.wn,.slice (aO t.wk) false,.slice (aK t.kids) false,.slice (strs t.names) false]/\T 10=.slice (strs (aG (ws.take i))) true/\T 11=.int .i64 ((i+1:Nat):Int))
  (fun s=>∃ T,s=⟨T,H,H.length,1⟩/\T 1=.lbox 0 [.int .i64 10,.int .i64 t.n,.str t.name,.str t.field,.str t.wn,.slice (aO t.wk) false,.slice (aK t.kids) false,.slice (strs t.names) false]/\T 10=.slice (strs (aG ws)) true) (fun _=>False) ?_ ?_ (fun _ h=>h.elim) 0 _ (aiB _) ?_
 ·rintro i st hi ⟨T,rfl,e1,e8,e9⟩
  by_cases aZ:i<ws.length
  ·obtain⟨p,q,u,n1,n2,k1,hw⟩:=aay i aZ
   have hm:=hK u (ahZ k1)
   have du:=hm.d H
   have lu:=hm.len
   have T1:=Dj k1
   have U0:=bB n1
   have U1:=bB n2
   rw[ax] at du T1
   have x1:(2:Int)*((i+1:Nat):Int)-2=((2*i:Nat):Int):=by omega
   have x2:(2:Int)*((i+1:Nat):Int)-1=((2*i+1:Nat):Int):=by omega
   have x3:((i+1:Nat):Int)+1=((i+1+1:Nat):Int):=by omega
   have hi1:1<=i+1:=by omega
   generalize Ql:i+1=i1 at e9 x1 x2 x3 k1 T1 hi1 ⊢
   generalize YZ:2*i+1=i2 at x2 n2 U1
   generalize hm3:2*i=i3 at x1 n1 U0
   have FV:ws.take (i+1)=ws.take i++[[p,q,[45,62]]++aj u]:=by rw[ajw,hw];rfl
   have x7:=kB ([p,q,[45,62]]++aj u) (ws.take i)
   rw[<- FV] at x7
   have B0:=B6 i
   rw[Ql] at FV x7
   by_cases h0:i=0
   ·subst h0
    simp only[aiN,ai3] at x7 e8
    have a1:an false 1 16 (.slice (strs (aG [])) true) (.slice [[.str p],[.str q],[.str [45,62]]] true)=some (.slice (strs [p,q,[45,62]]) true):=bG (l:=[]) (m:=[p,q,[45,62]]) (by simp)
    have a2:an false 1 16 (.slice (strs [p,q,[45,62]]) true) (.slice (strs (aj u)) true)=some (.slice (strs ([p,q,[45,62]]++aj u)) true):=bG (by simp;omega)
    generalize [p,q,[45,62]]++aj u=q2 at a2 x7
    generalize [p,q,[45,62]]=q1 at a1 a2
    simp(disch:=omega)only[aX,aa,simprocAttr,e1,e8,e9,b8,x1,x2,T1,U0,U1,du,a1,a2]
    exact⟨by omega,_,rfl,by simp(disch:=omega)only[aM,aa,simprocAttr,e1],by rw[x7];simp(disch:=omega)only[aM,aa,simprocAttr],by first|(simp(disch:=omega)only[aM,aa,simprocAttr];done)|(simp(disch:=omega)only[aM,aa,simprocAttr];rw[<- x3])|(rw[<- x3];simp(disch:=omega)only[aM,aa,simprocAttr])⟩
   ·have cS:¬ (ws.take i=[]):=fun e=>by
     have:=aj8 List.length e
     rw[List.length_take,ahX] at this
     omega
    rw[if_neg cS,<- ajf] at x7
    generalize aG (ws.take i)=acc at e8 B0 x7
    have a0:an false 1 16 (.slice (strs acc) true) (.slice [[.str [44]]] true)=some (.slice (strs (acc++[[44]])) true):=dC (by omega)
    have a1:an false 1 16 (.slice (strs (acc++[[44]])) true) (.slice [[.str p],[.str q],[.str [45,62]]] true)=some (.slice (strs (acc++[[44]]++[p,q,[45,62]])) true):=bG (m:=[p,q,[45,62]]) (by simp;omega)
    have a2:an false 1 16 (.slice (strs (acc++[[44]]++[p,q,[45,62]])) true) (.slice (strs (aj u)) true)=some (.slice (strs (acc++[[44]]++[p,q,[45,62]]++aj u)) true):=bG (by simp;omega)
    generalize acc++[[44]]++[p,q,[45,62]]++aj u=q2 at a2 x7
    generalize acc++[[44]]++[p,q,[45,62]]=q1 at a1 a2
    generalize acc++[[44]]=q0 at a0 a1
    simp(disch:=omega)only[aX,aa,simprocAttr,e1,e8,e9,b8,x1,x2,T1,U0,U1,du,a0,a1,a2]
    exact⟨by omega,_,rfl,by simp(disch:=omega)only[aM,aa,simprocAttr,e1],by rw[x7];simp(disch:=omega)only[aM,aa,simprocAttr],by first|(simp(disch:=omega)only[aM,aa,simprocAttr];done)|(simp(disch:=omega)only[aM,aa,simprocAttr];rw[<- x3])|(rw[<- x3];simp(disch:=omega)only[aM,aa,simprocAttr])⟩
  ·rw[aiA (by omega)] at e8
   simp(disch:=omega)only[aX,aa,simprocAttr,e1,e8,e9,b8]
   exact⟨_,rfl,by simp(disch:=omega)only[aM,aa,simprocAttr,e1],by simp(disch:=omega)only[aM,aa,simprocAttr,e8]⟩
 ·rintro st ⟨T,rfl,e1,e8⟩
  simp(disch:=omega)only[aX,aa,simprocAttr,e1,e8,hq,a1,atx,dx,b1,b2]
 ·exact⟨_,rfl,by simp(disch:=omega)only[aM,aa,simprocAttr],by simp(disch:=omega)only[aM,aa,simprocAttr,aiN,aG,strs,ah3],by simp(disch:=omega)only[aM,aa,simprocAttr];first|done|rfl⟩
end
end
theorem YB{t:Tm}{h:Nat}(hF:GZ h t)(hO:wS t)(hK:∀ u∈t.kids,oe u)(H:ag):aB A 33 [.agg (gd t)] H=some (.slice (strs (aj t)) true,none):=by
 have hk:=Og hO
 rcases F6 t.kind with e|e|e|e|e|e|e|e|e|e|e|e|e|e
 ·exact tk0 hF hO hK H e
 ·exact tk1 hF hO hK H e
 ·exact tk2 hF hO hK H e
 ·exact tk3 hF hO hK H e
 ·exact tk4 hF hO hK H e
 ·exact tk5 hF hO hK H e
 ·exact tk6 hF hO hK H e
 ·exact tk7 hF hO hK H e
 ·exact tk8 hF hO hK H e
 ·exact tk9 hF hO hK H e
 ·exact ad9 hF hO hK H e
 ·exact aea hF hO hK H e
 ·exact aeb hF hO hK H e
 ·omega
theorem vI{p:List aV × Int}{k:Int}{B:Nat}(h:p.1.length<=B):(pC p k).length<=B+2:=ait rA (by omega)
theorem TU{B:Nat}(ns:List aV)(tl:List (List aV × Int))(h:∀ p∈tl,p.1.length<=B):(aG (List.zipWith (fun s (x:List aV × Int)=>[s,[61]]++x.1) ns tl)).length<=tl.length*(B+3):=by
 have h1:=fS (List.zipWith (fun s (x:List aV × Int)=>[s,[61]]++x.1) ns tl) (B+2) (fun y hy=>by
  obtain⟨i,hi⟩:=aif hy
  rw[List.getElem?_zipWith] at hi
  cases hs:ns[i]? with
  | none=>rw[hs] at hi;cases hi
  | some s =>
   cases hx:tl[i]? with
   | none=>rw[hs,hx] at hi;cases hi
   | some x =>
    rw[hs,hx] at hi
    injection hi with hi
    rw[<- hi]
    have:=h x (ahZ hx)
    simp only[List.length_append,List.length_cons,ahX];omega)
 have h2:(List.zipWith (fun s (x:List aV × Int)=>[s,[61]]++x.1) ns tl).length<=tl.length:=by rw[List.length_zipWith];omega
 exact ait h1 (ah7 _ h2)
theorem Qb{B:Nat}(tl:List (List aV × Int))(h:∀ p∈tl,p.1.length<=B):(aG (tl.map (·.1))).length<=tl.length*(B+1):=by
 have h1:=fS (tl.map (·.1)) B (fun y hy=>by obtain⟨x,hx,rfl⟩:=aia.1 hy;exact h x hx)
 rwa [aie] at h1
theorem H9{k n:Int}{a f:aV}{w:Wd}{ns:List aV}{tl:List (List aV × Int)}{B:Nat}(h:∀ p∈tl,p.1.length<=B)(hl:tl.length<=3)(hw:(dh w).length<=12):(jC k n a f w ns tl).length<=3*B+60:=by
 have hq:=iJ a
 have h1:=Qb tl h
 have h2:=TU ns tl h
 have m1:tl.length*(B+1)<=3*(B+1):=ah7 _ hl
 have m2:tl.length*(B+3)<=3*(B+3):=ah7 _ hl
 unfold jC
 by_cases h0:k=0
 rw[if_pos h0]
 rotate_left
 rw[if_neg h0]
 by_cases Qd:k=1
 rw[if_pos Qd]
 rotate_left
 rw[if_neg Qd]
 by_cases Ub:k=2
 rw[if_pos Ub]
 rotate_left
 rw[if_neg Ub]
 by_cases h3:k=3
 rw[if_pos h3]
 rotate_left
 rw[if_neg h3]
 by_cases h4:k=4
 rw[if_pos h4]
 rotate_left
 rw[if_neg h4]
 by_cases h5:k=5
 rw[if_pos h5]
 rotate_left
 rw[if_neg h5]
 by_cases h6:k=6
 rw[if_pos h6]
 rotate_left
 rw[if_neg h6]
 by_cases h7:k=7
 rw[if_pos h7]
 rotate_left
 rw[if_neg h7]
 by_cases h8:k=8
 rw[if_pos h8]
 rotate_left
 rw[if_neg h8]
 by_cases h9:k=9
 rw[if_pos h9]
 rotate_left
 rw[if_neg h9]
 by_cases ZJ:k=10
 rw[if_pos ZJ]
 rotate_left
 rw[if_neg ZJ]
 by_cases YR:k=11
 rw[if_pos YR]
 rotate_left
 rw[if_neg YR]
 by_cases Ua:k=12
 rw[if_pos Ua]
 rotate_left
 rw[if_neg Ua]
 simp
 all_goals first|(split<;>first
   | (simp only[List.length_append,List.length_cons,ahX];omega)
   | (rename_i x;have hx:=h x (by simp);have hk7:=vI (k:=7) hx;simp only[List.length_append,List.length_cons,ahX];omega)
   | (rename_i x y;have hx:=h x (by simp);have hy:=h y (by simp);have hky:=vI (k:=(fm n).2+1) hy;have Pn:=vI (k:=if (fm n).2=3 then 4 else (fm n).2) hx;simp only[List.length_append,List.length_cons,ahX];omega)
   | (rename_i x y z;have hx:=h x (by simp);have hy:=h y (by simp);have hz:=h z (by simp);simp only[List.length_append,List.length_cons,ahX];omega)
   | (rename_i x y z a;have hx:=h x (by simp);have hy:=h y (by simp);simp only[List.length_append,List.length_cons,ahX];omega)
   | (rename_i x y p q;have hx:=h x (by simp);have hy:=h y (by simp);simp only[List.length_append,List.length_cons,ahX];omega)
   | (rename_i x y z p q;have hx:=h x (by simp);have hy:=h y (by simp);have hz:=h z (by simp);simp only[List.length_append,List.length_cons,ahX];omega)
   | (rename_i x y z p q r u;have hx:=h x (by simp);have hy:=h y (by simp);have hz:=h z (by simp);simp only[List.length_append,List.length_cons,ahX];omega)
   | (rename_i x y s;have hx:=h x (by simp);have hy:=h y (by simp);simp only[List.length_append,List.length_cons,ahX];omega))|(simp only[List.length_append,List.length_cons,ahX];omega)
def bT:Nat->Nat
 | 0=>0
 | h+1=>3*bT h+60
theorem oX:∀ (h:Nat) (t:Tm),J' h t->(aj t).length<=bT h
 | 0,t,hb=>by cases hb
 | h+1,t,hb=>by
  have hF:=hb.out
  rw[dZ]
  refine H9 (B:=bT h) (fun p hp=>?_) (by rw[aie];exact hF.kl) (iK 3 _ hF.w)
  obtain⟨u,hu,rfl⟩:=aia.1 hp
  exact oX h u (hF.kb u hu)
theorem Kr{h:Nat}(hh:h<=6):bT h<=100000:=by
 have:h=0\/h=1\/h=2\/h=3\/h=4\/h=5\/h=6:=by omega
 rcases this with rfl|rfl|rfl|rfl|rfl|rfl|rfl<;>decide
theorem Di:∀ (h:Nat) (t:Tm),h<=6->J' h t->bD t=true->oe t
 | 0,t,_,hb,_=>by cases hb
 | h+1,t,hh,hb,hp=>by
  have hF:=hb.out
  have hO:=HC hp
  have hK:∀ u∈t.kids,oe u:=fun u hu=>Di h u (by omega) (hF.kb u hu) (hO.kids u hu)
  exact⟨fun H=>YB hF hO hK H,ait (oX _ t hb) (Kr hh)⟩
theorem Yp(a b:List aV)(H:ag)(o o' : Bool)(ha:a.length<=1000000):aB A 26 [.slice (strs a) false,.slice (strs b) false] H=some (.bool (a==b),none):=by
 refine ba (fn:=Nn) rfl rfl rfl ?_
 unfold Nn
 simp(disch:=omega)only[fV,aa,simprocAttr,aJ]
 refine kn ?_ ?_<;>intro hlen
 ·have cS:a≠b:=fun e=>by subst e;simp at hlen
  simp(disch:=omega)only[fV,aa,simprocAttr,show (a==b)=false by simpa using cS]
 have xZ:a.length=b.length:=by
  have:(a.length:Int)=b.length:=by simpa using hlen
  omega
 simp(disch:=omega)only[fV,aa,simprocAttr]
 refine yV a.length (fun i=>Hd (fun T=>T 0=.slice (strs a) false/\T 1=.slice (strs b) false/\T 5=.int .i64 i/\(a==b)=(a.drop i==b.drop i)) H H.length 0) ?_ 0 _ (aiB _) ?_
 ·rintro i s hi hs
  obtain⟨T,rfl,h0,h1,h5,hc⟩:=hs.out
  simp(disch:=omega)only[fV,aa,simprocAttr,h0,h5,aJ]
  refine iH ?_ ?_<;>intro h
  ·have ku:i<a.length:=by omega
   have uw:i<b.length:=by omega
   simp(disch:=omega)only[fV,aa,simprocAttr,h0,h1,h5,bB (ahP ku),bB (ahP uw)]
   refine kn ?_ ?_<;>intro hb
   ·simp(disch:=omega)only[fV,aa,simprocAttr,hc,aij ku,aij uw,akl,show (a[i]==b[i])=false by simpa using hb]
   ·simp(disch:=omega)only[fV,aa,simprocAttr,h0,h1,h5]
    exact⟨ku,by rw[hc,aij ku,aij uw,akl,show (a[i]==b[i])=true by simpa using hb,ais]⟩
  ·have:i=a.length:=by omega
   subst this
   simp(disch:=omega)only[fV,aa,simprocAttr,hc,ajy,show b.drop a.length=[] by rw[xZ,ajy]]
 ·simp(disch:=omega)only[fV,aa,simprocAttr,ai2,aio]
def kM(a b:aV):Bool:=b==[41] || b==[93] || b==[44] || b==[46] || a==[40] || a==[91] || a==[46]
theorem TJ(a b:aV)(H:ag):aB A 65 [.str a,.str b] H=some (.bool (kM a b),none):=by
 refine ba (fn:=NC) rfl rfl rfl ?_
 unfold NC kM
 cases h1:(b==[41]) with
 | true=>simp(disch:=omega)only[fV,aa,simprocAttr,h1]
 | false =>
 cases h2:(b==[93]) with
 | true=>simp(disch:=omega)only[fV,aa,simprocAttr,h1,h2]
 | false =>
 cases h3:(b==[44]) with
 | true=>simp(disch:=omega)only[fV,aa,simprocAttr,h1,h2,h3]
 | false =>
 cases h4:(b==[46]) with
 | true=>simp(disch:=omega)only[fV,aa,simprocAttr,h1,h2,h3,h4]
 | false =>
 cases h5:(a==[40]) with
 | true=>simp(disch:=omega)only[fV,aa,simprocAttr,h1,h2,h3,h4,h5]
 | false =>
 cases h6:(a==[91]) with
 | true=>simp(disch:=omega)only[fV,aa,simprocAttr,h1,h2,h3,h4,h5,h6]
 | false=>simp(disch:=omega)only[fV,aa,simprocAttr,h1,h2,h3,h4,h5,h6]
def dk(l:List aV)(i:Nat):aV:=if 1<=i/\i<l.length/\kM (l.getD (i-1) []) (l.getD i [])=false then [32] else []
def dB(l:List aV):List aV:=(List.range (l.length+1)).map (dk l)
def part(l:List aV)(i:Nat):List AV:=(List.range (l.length+1)).map fun j=>AV.str (if j<i then dk l j else [])
theorem CL(l:List aV)(i:Nat):(part l i).length=l.length+1:=by simp[part]
theorem Oi(l:List aV)(i:Nat)(h:l.length<=i):part l i=(dB l).map .str:=by
 simp only[part,dB,ajh]
 refine aib fun j hj=>?_
 simp only[List.mem_range] at hj
 simp only[Function.comp]
 by_cases my:j<i
 ·rw[if_pos my]
 ·rw[if_neg my]
  have:j=l.length:=by omega
  simp[dk,this]
theorem yz(l:List aV):(List.replicate (l.length+1) [AV.str []]).flatten=part l 1:=by
 refine ajo fun j=>?_
 have e:(List.replicate (l.length+1) [AV.str []]).flatten=List.replicate (l.length+1) (AV.str []):=by
  generalize l.length+1=n
  induction n with
  | zero=>rfl
  | succ n ih=>rw[List.replicate_succ,aiz,ih,List.replicate_succ];rfl
 rw[e,aj9]
 simp only[part,ah2]
 by_cases hj:j<l.length+1
 ·rw[if_pos hj,ai8 hj]
  simp only[ah0,ahM,AV.str.injEq]
  split
  ·have:j=0:=by omega
   subst this;simp[dk]
  ·rfl
 ·rw[if_neg hj,air (by simpa using ajY hj)];rfl
theorem Oj(l:List aV)(i:Nat)(h1:1<=i)(h:i<l.length)(ht:kM (l.getD (i-1) []) (l.getD i [])=false):(part l i).take i++([AV.str [32]]++(part l i).drop (i+1))=part l (i+1):=by
 refine ajo fun j=>?_
 have hp:(part l i).length=l.length+1:=CL l i
 rw[aiw]
 simp only[List.length_take,hp,show min i (l.length+1)=i by omega]
 split
 ·rename_i hj
  rw[ah5,if_pos hj]
  simp only[part,ah2,ai8 (show j<l.length+1 by omega),ah0]
  rw[if_pos hj,if_pos (by omega)]
 ·rename_i hj
  by_cases my:j=i
  ·subst my
   simp only[ajO,part,ah2,ai8 (show j<l.length+1 by omega),ah0]
   rw[if_pos (by omega)]
   rw[dk,if_pos ⟨h1,h,ht⟩];rfl
  ·rw[aic (by simp;omega),ail]
   simp only[List.length_cons,ahX]
   rw[show i+1+(j-i-(0+1))=j by omega]
   simp only[part,ah2]
   by_cases hj2:j<l.length+1
   ·rw[ai8 hj2]
    simp only[ah0]
    rw[if_neg (by omega),if_neg (by omega)]
   ·rw[air (by simpa using ajY hj2)];rfl
theorem Js(l:List aV)(i:Nat)(ht:dk l i=[]):part l i=part l (i+1):=by
 simp only[part]
 refine aib fun j hj=>?_
 by_cases my:j<i
 ·rw[if_pos my,if_pos (by omega)]
 ·rw[if_neg my]
  by_cases h2:j=i
  ·subst h2;rw[if_pos (by omega),ht]
  ·rw[if_neg (by omega)]
theorem dO{H:ag}{o:dm} : (H++[o])[H.length]?=some o:=by simp
theorem heap_set{H:ag}{o o' : dm} : (H++[o]).set H.length o'=H++[o']:=by simp
theorem IX{H:ag}{o:dm} : (H++[o]).take H.length=H:=by simp
theorem cA{n:Nat} : Nat.blt n n=false:=by simp[<- ajS,aih]
theorem getD_at{α:Type}{l:List α}{i:Nat}{d:α}(h:i<l.length):l.getD i d=l[i]:=by simp[List.getD,ahP h]
theorem tq{base t l off n z:Nat}{fn:au}{s:AS}{ty:TypeId}{cs:List AV}(hr:fn.results=[.tmp t])(hm:fn.muts.elem 888888=true)(hT:s.T t=.sref l off n z)(hH:s.H[l]?=some (.box ty cs))(hl:base<=l)(hp:cs.all AV.plain=true)(wQ:s.lo=base)(hn:fn.muts.elem 777777=false:=by rfl) :
  finish base fn s=some (.sref base off n z,some ⟨s.H.take base++[.dM cs],s.lo⟩):=by
 have h1:mA base s=true:=by simp[mA,wQ]
 have h2:Nat.ble base l=true:=by simpa [aiq] using hl
 have h3:kT base fn s=some (.sref base off n z,some ⟨s.H.take base++[.dM cs],s.lo⟩):=by
  unfold kT qW nA
  rw[h1,hm,hr]
  simp only[cond_true,oC,iz,hT,aq,ahV,hH,h2,hp,ai1]
 unfold finish
 rw[h3,ah0,rH hn]
theorem wC{l:List aV} : (l.map AV.str).all AV.plain=true:=by simp[AV.plain]
theorem TM(l:List aV)(H:ag)(hl:l.length<=1000000) :
  aB A 34 [.slice (strs l) false] H=some (.sref H.length 0 (l.length+1) 1,some ⟨H++[.dM ((dB l).map .str)],H.length⟩):=by
 have key:∃ r,aB A 34 [.slice (strs l) false] H=some r/\r=(.sref H.length 0 (l.length+1) 1,some ⟨H++[.dM ((dB l).map .str)],H.length⟩):=by
  refine o4 (fn:=Nq) rfl rfl rfl ?_
  unfold Nq
  simp(disch:=omega)only[aX,aa,simprocAttr,aJ,yz]
  refine bP (l.length+1) 0 (fun i s=>1<=i/\HR (fun T=>T 0=.slice (strs l) false/\T 3=.sref H.length 0 (l.length+1) 1/\T 4=.int .i64 i) (H++[.box cN (part l i)]) H.length s)
   (HR (fun T=>T 3=.sref H.length 0 (l.length+1) 1) (H++[.box cN ((dB l).map .str)]) H.length) (fun _=>False) ?_ ?_ ?_ 1 _ (by omega) ?_
  ·rintro i s hi ⟨h1i,hs⟩
   obtain⟨T,g,rfl,h0,h3,h4⟩:=hs.out
   simp(disch:=omega)only[aX,aa,simprocAttr,h0,h3,h4,aJ]
   refine iH ?_ ?_<;>intro h
   ·have ku:i<l.length:=by omega
    have e1:=ahP ku
    have e2:=ahP (show i-1<l.length by omega)
    have en:asNat (.int .i64 ((i:Int)-1))=some (i-1):=by rw[dD (by omega)];congr 1;omega
    simp(disch:=omega)only[aX,aa,simprocAttr,h0,h3,h4,en,bB e1,bB e2,TJ]
    cases ht:kM l[i-1] l[i] with
    | true =>
     have hu:dk l i=[]:=by
      rw[dk,if_neg]
      rintro ⟨_,_,h⟩
      rw[getD_at ku,getD_at (show i-1<l.length by omega),ht] at h
      cases h
     simp(disch:=omega)only[aX,aa,simprocAttr,h0,h3,h4]
     exact⟨by omega,by rw[Js l i hu]⟩
    | false =>
     have hu:kM (l.getD (i-1) []) (l.getD i [])=false:=by rw[getD_at ku,getD_at (show i-1<l.length by omega),ht]
     simp(disch:=omega)only[evA,lp,iX,oR,lA,Gr,bO,ai,dX,ak.eval,AS.b9,↓reduceIte,Nat.reduceEqDiff,Option.isSome,Option.isNone,cond_true,ahW,Nat.reduceBEq,Nat.reduceAdd,Nat.reduceMul,aa,jB,eq_self,reduceCtorEq,AD,jH,jE,gz,bound,nX,AS.cm,bM,fK,dJ,Nat.reduceLeDiff,jV,putAt,Int.reduceEq,Int.reduceLT,Int.reduceLE,Int.reduceBEq,Int.reduceBNe,Int.reduceAdd,Int.reduceNeg,Int.reduceSub,Int.reduceMul,LS,LR,LQ,LP,LO,LN,LW,LV,a8,dD,Int.toNat_natCast,ajl,h0,h3,h4,dO,heap_set,CL,cA]
     exact⟨by omega,by rw[aji,ajf,Oj l i h1i ku hu]⟩
   ·simp(disch:=omega)only[aX,aa,simprocAttr,h3]
    rw[Oi l i (by omega)]
  ·intro s hs
   obtain⟨T,g,rfl,h3⟩:=hs.out
   simp(disch:=omega)only[aX,aa,simprocAttr,h3]
   exact⟨_,tq (t:=2) (off:=0) (n:=l.length+1) (z:=1) rfl (by decide) (by simp[aA.put]) dO (ahQ _) wC rfl,by simp[IX]⟩
  ·intro s hs;exact hs.elim
  ·simp(disch:=omega)only[aX,aa,simprocAttr]
   rw[show ((l.length:Int)+1).toNat=l.length+1 by omega,yz];exact⟨rfl,rfl⟩
 obtain⟨r,h,rfl⟩:=key
 exact h
theorem yO{l:List aV}{i:Nat}(h:i<l.length+1):(dB l)[i]?=some (dk l i):=by simp[dB,ai8 h]
theorem jv{l:List aV} : (dB l).length=l.length+1:=by simp[dB]
theorem wL{l:List aV}{i:Nat}(h:i<l.length+1):(dB l).take (i+1)=(dB l).take i++[dk l i]:=by
 rw[ajw,yO h];rfl
theorem GR{l:List aV}{i:Nat}(h1:1<=i)(h:i<=l.length):dk l i=if i=l.length\/l.getD (i-1) []=[40]\/l.getD (i-1) []=[91]\/l.getD (i-1) []=[46]\/l.getD i []=[41]\/l.getD i []=[93]\/l.getD i []=[44]\/l.getD i []=[46] then [] else [32]:=by
 unfold dk kM
 by_cases hi:i=l.length
 ·rw[if_neg (by omega),if_pos (.inl hi)]
 ·have aZ:i<l.length:=by omega
  generalize l.getD (i-1) []=a
  generalize l.getD i []=b
  by_cases c1:a=[40]
  ·simp[c1,hi]
  by_cases c2:a=[91]
  ·simp[c2,hi]
  by_cases c3:a=[46]
  ·simp[c3,hi]
  by_cases c4:b=[41]
  ·simp[c4,hi]
  by_cases c5:b=[93]
  ·simp[c5,hi]
  by_cases c6:b=[44]
  ·simp[c6,hi]
  by_cases c7:b=[46]
  ·simp[c7,hi]
  simp[c1,c2,c3,c4,c5,c6,c7,hi,h1,aZ]
theorem Pc(l:List aV)(H:ag)(hl:l.length<=1000000):aB A 15 [.slice (strs l) false] H=some (.sref H.length 0 (l.length+1) 1,some ⟨H++[.dM ((dB l).map .str)],H.length⟩):=by
 have key:∃ r,aB A 15 [.slice (strs l) false] H=some r/\r=(.sref H.length 0 (l.length+1) 1,some ⟨H++[.dM ((dB l).map .str)],H.length⟩):=by
  refine o4 (fn:=M6) rfl rfl rfl ?_
  unfold M6
  simp(disch:=omega)only[aX,aa,simprocAttr,aJ,show fg [[AV.str []]]=true from rfl,aiz,aiY,ain,List.length_cons,ahX]
  refine bP (l.length+1) 0 (fun i s=>1<=i/\∃ T D g,s=⟨T,D++[.box cN (((dB l).take i).map .str)],H.length,g⟩/\H.length<=D.length/\D.take H.length=H/\T 0=.slice (strs l) false/\T 3=.sref D.length 0 i 1/\T 4=.int .i64 i)
   (fun s=>∃ T D g,s=⟨T,D++[.box cN ((dB l).map .str)],H.length,g⟩/\H.length<=D.length/\D.take H.length=H/\T 3=.sref D.length 0 (l.length+1) 1) (fun _=>False) ?_ ?_ ?_ 1 _ (by omega) ?_
  ·rintro i s hi ⟨h1i,T,D,g,rfl,hD,hDt,h0,h3,h4⟩
   simp(disch:=omega)only[aX,aa,simprocAttr,h0,h4,aJ]
   refine iH ?_ ?_<;>intro h
   ·have ku:i<=l.length:=by omega
    have e2:=ahP (show i-1<l.length by omega)
    have en:asNat (.int .i64 ((i:Int)-1))=some (i-1):=by rw[dD (by omega)];congr 1;omega
    have hu:=GR h1i ku
    have ht:=wL (l:=l) (i:=i) (by omega)
    have hlen:(((dB l).take i).map AV.str).length=i*1:=by rw[aie,List.length_take,jv];omega
    have sF:decide (D.length<H.length)=false:=by simp;omega
    have JW:=fun (x:aV) (os:List az) (T0:aA) (lo gen:Nat) (Q:AS->Prop)=>Py (A:=A) (T:=T0) (lo:=lo) (gen:=gen) (K:=Q) (os:=os) (t:=64) (H:=D++[.box cN (((dB l).take i).map .str)]) (sz:=1) (bytes:=16) (n:=i) (l:=D.length) (ty:=cN) (cs:=((dB l).take i).map .str) (f:=[[.str x]]) (own:=true) dO hlen (by simp only[List.length_cons,ahX];omega) (by simp only[List.length_cons,ahX];omega) rfl rfl
    rw[getD_at (show i-1<l.length by omega)] at hu
    have UC:=fun h=>hu.trans (if_pos h)
    have mk1:=fun h=>hu.trans (if_neg h)
    have fin:∀ (T' : aA) (g' : Nat) (x:aV),(dB l).take (i+1)=(dB l).take i++[x]->T' 0=.slice (strs l) false->T' 3=.sref (D.length+1) 0 (i+1) 1->T' 4=.int .i64 ((i:Int)+1) ->
      i<l.length+1/\∃ T D0 g,(⟨T',D++[dm.dead,dm.box cN (((dB l).take i).map .str++[.str x])],H.length,g'⟩:AS)=⟨T,D0++[.box cN (((dB l).take (i+1)).map .str)],H.length,g⟩/\H.length<=D0.length/\D0.take H.length=H/\T 0=.slice (strs l) false/\T 3=.sref D0.length 0 (i+1) 1/\T 4=.int .i64 ((i:Int)+1):=by
     intro T' g' x hx q0 q3 q4
     refine⟨by omega,T',D++[.dead],g',?_,by rw[List.length_append];omega,by rw[aki hD,hDt],q0,by rw[q3,List.length_append];rfl,q4⟩
     rw[hx,List.map_append,ajf];rfl
    cases c0:((i:Int)==(l.length:Int)) with
    | true =>
     rw[UC (.inl (by have:=aiF.1 c0;omega))] at ht
     simp(disch:=omega)only[aX,aa,simprocAttr,h0,h3,h4,en,bB e2,aJ,c0,JW,List.length_cons,ahX,aiz,aiY,ain,sF]
     refine fin _ _ _ ht ?_ ?_ ?_
     ·simp(disch:=omega)only[aM,aa,simprocAttr,h0]
     ·simp(disch:=omega)only[aM,aa,simprocAttr,List.length_append,List.length_cons,ahX]
     ·simp(disch:=omega)only[aM,aa,simprocAttr]
    | false =>
    cases c1:(l[i-1]==[40]) with
    | true =>
     rw[UC (.inr (.inl (aiF.1 c1)))] at ht
     simp(disch:=omega)only[aX,aa,simprocAttr,h0,h3,h4,en,bB e2,aJ,c0,c1,JW,List.length_cons,ahX,aiz,aiY,ain,sF]
     refine fin _ _ _ ht ?_ ?_ ?_
     ·simp(disch:=omega)only[aM,aa,simprocAttr,h0]
     ·simp(disch:=omega)only[aM,aa,simprocAttr,List.length_append,List.length_cons,ahX]
     ·simp(disch:=omega)only[aM,aa,simprocAttr]
    | false =>
    cases c2:(l[i-1]==[91]) with
    | true =>
     rw[UC (.inr (.inr (.inl (aiF.1 c2))))] at ht
     simp(disch:=omega)only[aX,aa,simprocAttr,h0,h3,h4,en,bB e2,aJ,c0,c1,c2,JW,List.length_cons,ahX,aiz,aiY,ain,sF]
     refine fin _ _ _ ht ?_ ?_ ?_
     ·simp(disch:=omega)only[aM,aa,simprocAttr,h0]
     ·simp(disch:=omega)only[aM,aa,simprocAttr,List.length_append,List.length_cons,ahX]
     ·simp(disch:=omega)only[aM,aa,simprocAttr]
    | false =>
    cases c3:(l[i-1]==[46]) with
    | true =>
     rw[UC (.inr (.inr (.inr (.inl (aiF.1 c3)))))] at ht
     simp(disch:=omega)only[aX,aa,simprocAttr,h0,h3,h4,en,bB e2,aJ,c0,c1,c2,c3,JW,List.length_cons,ahX,aiz,aiY,ain,sF]
     refine fin _ _ _ ht ?_ ?_ ?_
     ·simp(disch:=omega)only[aM,aa,simprocAttr,h0]
     ·simp(disch:=omega)only[aM,aa,simprocAttr,List.length_append,List.length_cons,ahX]
     ·simp(disch:=omega)only[aM,aa,simprocAttr]
    | false =>
    have cS:¬ (i:Int)=l.length:=by
     intro e;rw[e] at c0;simp at c0
    have aZ:i<l.length:=by omega
    have e1:=ahP aZ
    have eb:=getD_at (d:=([]:aV)) aZ
    cases c4:(l[i]==[41]) with
    | true =>
     rw[UC (.inr (.inr (.inr (.inr (.inl (eb.trans (aiF.1 c4)))))))] at ht
     simp(disch:=omega)only[aX,aa,simprocAttr,h0,h3,h4,en,bB e2,aJ,bB e1,c0,c1,c2,c3,c4,JW,List.length_cons,ahX,aiz,aiY,ain,sF]
     refine fin _ _ _ ht ?_ ?_ ?_
     ·simp(disch:=omega)only[aM,aa,simprocAttr,h0]
     ·simp(disch:=omega)only[aM,aa,simprocAttr,List.length_append,List.length_cons,ahX]
     ·simp(disch:=omega)only[aM,aa,simprocAttr]
    | false =>
    cases c5:(l[i]==[93]) with
    | true =>
     rw[UC (.inr (.inr (.inr (.inr (.inr (.inl (eb.trans (aiF.1 c5))))))))] at ht
     simp(disch:=omega)only[aX,aa,simprocAttr,h0,h3,h4,en,bB e2,aJ,bB e1,c0,c1,c2,c3,c4,c5,JW,List.length_cons,ahX,aiz,aiY,ain,sF]
     refine fin _ _ _ ht ?_ ?_ ?_
     ·simp(disch:=omega)only[aM,aa,simprocAttr,h0]
     ·simp(disch:=omega)only[aM,aa,simprocAttr,List.length_append,List.length_cons,ahX]
     ·simp(disch:=omega)only[aM,aa,simprocAttr]
    | false =>
    cases c6:(l[i]==[44]) with
    | true =>
     rw[UC (.inr (.inr (.inr (.inr (.inr (.inr (.inl (eb.trans (aiF.1 c6)))))))))] at ht
     simp(disch:=omega)only[aX,aa,simprocAttr,h0,h3,h4,en,bB e2,aJ,bB e1,c0,c1,c2,c3,c4,c5,c6,JW,List.length_cons,ahX,aiz,aiY,ain,sF]
     refine fin _ _ _ ht ?_ ?_ ?_
     ·simp(disch:=omega)only[aM,aa,simprocAttr,h0]
     ·simp(disch:=omega)only[aM,aa,simprocAttr,List.length_append,List.length_cons,ahX]
     ·simp(disch:=omega)only[aM,aa,simprocAttr]
    | false =>
    cases c7:(l[i]==[46]) with
    | true =>
     rw[UC (.inr (.inr (.inr (.inr (.inr (.inr (.inr (eb.trans (aiF.1 c7)))))))))] at ht
     simp(disch:=omega)only[aX,aa,simprocAttr,h0,h3,h4,en,bB e2,aJ,bB e1,c0,c1,c2,c3,c4,c5,c6,c7,JW,List.length_cons,ahX,aiz,aiY,ain,sF]
     refine fin _ _ _ ht ?_ ?_ ?_
     ·simp(disch:=omega)only[aM,aa,simprocAttr,h0]
     ·simp(disch:=omega)only[aM,aa,simprocAttr,List.length_append,List.length_cons,ahX]
     ·simp(disch:=omega)only[aM,aa,simprocAttr]
    | false =>
    have c1':=ai0.1 c1;have c2':=ai0.1 c2;have c3':=ai0.1 c3;have c4':=ai0.1 c4;have c5':=ai0.1 c5;have c6':=ai0.1 c6;have c7':=ai0.1 c7
    rw[mk1 (by rw[eb];simp[show ¬ i=l.length by omega,c1',c2',c3',c4',c5',c6',c7'])] at ht
    simp(disch:=omega)only[aX,aa,simprocAttr,h0,h3,h4,en,bB e2,aJ,bB e1,c0,c1,c2,c3,c4,c5,c6,c7,JW,List.length_cons,ahX,aiz,aiY,ain,sF]
    refine fin _ _ _ ht ?_ ?_ ?_
    ·simp(disch:=omega)only[aM,aa,simprocAttr,h0]
    ·simp(disch:=omega)only[aM,aa,simprocAttr,List.length_append,List.length_cons,ahX]
    ·simp(disch:=omega)only[aM,aa,simprocAttr]
   ·simp(disch:=omega)only[aX,aa,simprocAttr,h3]
    exact⟨_,D,_,by rw[aiA (by rw[jv];omega)],hD,hDt,by simp(disch:=omega)only[aM,aa,simprocAttr,h3,show i=l.length+1 by omega]⟩
  ·rintro s ⟨T,D,g,rfl,hD,hDt,h3⟩
   simp(disch:=omega)only[aX,aa,simprocAttr,h3]
   exact⟨_,tq (t:=2) (off:=0) (n:=l.length+1) (z:=1) rfl (by decide) (by simp[aA.put]) dO hD wC rfl,by rw[aki hD,hDt]⟩
  ·intro s hs;exact hs.elim
  ·simp(disch:=omega)only[aX,aa,simprocAttr]
   have e1:(dB l).take 1=[[]]:=by rw[show (1:Nat)=0+1 from rfl,wL (by omega)];simp[dk]
   refine⟨_,H,_,by rw[e1];rfl,ahQ _,aiZ,?_,?_,?_⟩
   ·simp(disch:=omega)only[aM,aa,simprocAttr]
   ·simp(disch:=omega)only[aM,aa,simprocAttr]
   ·simp(disch:=omega)only[aM,aa,simprocAttr]
 obtain⟨r,h,rfl⟩:=key
 exact h
def D4(p:Nat->Bool):Nat->Nat
 | 0=>0
 | n+1=>if D4 p n=n/\p n=true then n+1 else D4 p n
theorem uQ(p:Nat->Bool):∀ n,D4 p n<=n
 | 0=>ahQ _
 | n+1=>by
  unfold D4
  split
  ·exact ahQ _
  ·have:=uQ p n;omega
theorem qM(p:Nat->Bool):∀ n j,j<D4 p n->p j=true
 | 0,j,h=>by simp[D4] at h
 | n+1,j,h=>by
  unfold D4 at h
  split at h
  ·rename_i hc
   by_cases hj:j=n
   ·rw[hj];exact hc.2
   ·exact qM p n j (by omega)
  ·exact qM p n j h
theorem Be(p:Nat->Bool):∀ n,D4 p n<n->p (D4 p n)=false
 | 0,h=>by omega
 | n+1,h=>by
  unfold D4 at h ⊢
  split at h
  ·omega
  ·rename_i hc
   rw[if_neg hc]
   by_cases hn:D4 p n=n
   ·rw[hn]
    cases hp:p n with
    | false=>rfl
    | true=>exact absurd ⟨hn,hp⟩ hc
   ·exact Be p n (by have:=uQ p n;omega)
theorem sn(p:Nat->Bool){n i:Nat}(h1:i<=n)(h2:∀ j,j<i->p j=true)(h3:i<n->p i=false):D4 p n=i:=by
 rcases ajJ (D4 p n) i with h|h|h
 ·have:=Be p n (by omega)
  rw[h2 _ h] at this;cases this
 ·exact h
 ·have:=qM p n i h
  rw[h3 (by have:=uQ p n;omega)] at this;cases this
def cW(old now:List aV):Nat:=D4 (fun i=>old.getD i []==now.getD i []) (min old.length now.length)
def bJ(old now:List aV):Nat:=D4 (fun i=>old.getD (old.length-1-i) []==now.getD (now.length-1-i) []) (min old.length now.length-cW old now)
theorem lF(old now:List aV):cW old now<=min old.length now.length:=uQ _ _
theorem ph(old now:List aV):bJ old now<=min old.length now.length-cW old now:=uQ _ _
structure Fd where
 name:aV
 wn:aV
 wk:List Wd
 iP:Int
structure Fm where
 kind:Int
 name:aV
 bu:List Fd
 rn:aV
 rk:List Wd
 body:Tm
 layout:List aV
structure So where
 name:aV
 mF:List aV
 defs:List Fm
 head:List aV
 fin:aV
def gk(f:Fd):List AV:=[.str f.name,.str f.wn,.slice (aO f.wk) false,.int .i64 f.iP]
def jR(f:Fm):List AV:=[.int .i64 f.kind,.str f.name,.slice (f.bu.map gk) false,.str f.rn,.slice (aO f.rk) false,
 .int .i64 f.body.kind,.int .i64 f.body.n,.str f.body.name,.str f.body.field,.str f.body.wn,.slice (aO f.body.wk) false,.slice (aK f.body.kids) false,.slice (strs f.body.names) false,.slice (strs f.layout) false]
def PN(s:So):List AV:=[.str s.name,.slice (strs s.mF) false,.slice (s.defs.map jR) false,.slice (strs s.head) false,.str s.fin]
structure FdB (f:Fd):Prop where
 a:f.name.length<=20
 w:wP 3 (.mk f.wn f.wk)
 m:-2199023255552<=f.iP/\f.iP<=2199023255552
structure Pl (f:Fm):Prop where
 k:0<=f.kind/\f.kind<=5
 a:f.name.length<=20
 sl:f.bu.length<=3
 sb:∀ s∈f.bu,FdB s
 w:wP 3 (.mk f.rn f.rk)
 b:J' 5 f.body
 ll:f.layout.length<=20000
 lb:∀ s∈f.layout,s.length<=20
theorem T6{l:List Fd}{i:Nat}{e:Fd}(h:l[i]?=some e):(l.map gk)[i]?=some (gk e):=by simp[h]
theorem T7{l:List Fm}{i:Nat}{e:Fm}(h:l[i]?=some e):(l.map jR)[i]?=some (jR e):=by simp[h]
theorem jT{l:List Fd} : (l.map gk).length=l.length:=aie _
theorem sE{l:List Fm} : (l.map jR).length=l.length:=aie _
def pT(n:aV)(ks:List Wd):Bool:=n==[]&&ks.isEmpty
def fB(t:Tm):Bool:=t.kind==0&&(t.n==0&&(t.name==[]&&(t.field==[]&&(pT t.wn t.wk&&(t.names==[]&&t.kids.isEmpty)))))
def gb(k:Int)(f:Fd):Bool:=isWord f.name&&bE (.mk f.wn f.wk)&&decide (0<=f.iP)&&decide (f.iP<=1099511627776)&&(decide (k=4) || decide (f.iP=0))
def dw(f:Fm):Bool:=isWord f.name&&f.bu.all (gb f.kind)&&bif decide (f.kind=0) || decide (f.kind=1) then pT f.rn f.rk&&fB f.body else bE (.mk f.rn f.rk)&&bD f.body
def cZ(k:Int)(f:Fd):List aV:=[f.name]++dh (.mk f.wn f.wk)++(if k=4 then [qR f.iP.toNat] else [])
def dL(f:Fm):List aV:=[qp.getD f.kind.toNat [],f.name,[40]]++aG (f.bu.map (cZ f.kind))++[[41]]++(if f.kind=0\/f.kind=1 then [] else dh (.mk f.rn f.rk)++[[61]]++aj f.body)
theorem YD:aO []=[]:=by simp[aO]
theorem OP(n:aV)(ks:List Wd)(H:ag):aB A 92 [.agg [.str n,.slice (aO ks) false],.agg [.str [],.slice [] false]] H=some (.bool (pT n ks),none):=by
 refine ba (fn:=NJ) rfl rfl rfl ?_
 unfold NJ
 cases h1:(n==[]) with
 | false=>simp(disch:=omega)only[aX,aa,simprocAttr,h1,pT,aiu]
 | true =>
 cases ks with
 | cons k r =>
  have e:¬ (((aO (k :: r)).length:Int)=0):=by rw[qC,List.length_cons];omega
  simp(disch:=omega)only[aX,aa,simprocAttr,h1,e,ahX,aio,pT,List.isEmpty_cons,Bool.and_false]
 | nil =>
  simp(disch:=omega)only[aX,aa,simprocAttr,h1,YD,ahX,aio,pT,List.isEmpty_nil,aka,ais]
  refine bP 0 0 (fun i s=>HR (fun T=>T 2=.lbox 0 [.str n,.slice [] false]/\T 5=.int .i64 0) H H.length s) (HR (fun T=>True) H H.length) (fun _=>False) ?_ ?_ (fun _ h=>h.elim) 0 _ (ahQ _) ?_
  ·rintro i s hi hs
   obtain⟨T,g,rfl,e2,e5⟩:=hs.out
   simp(disch:=omega)only[aX,aa,simprocAttr,e2,e5,ahX,aio]
  ·intro s hs
   obtain⟨T,g,rfl, -⟩:=hs.out
   simp(disch:=omega)only[aX,aa,simprocAttr]
  ·simp(disch:=omega)only[aX,aa,simprocAttr]
theorem OO(t:Tm)(n7:t.names.length<=1000000)(H:ag):aB A 58 [.agg (gd t),.agg [.int .i64 0,.int .i64 0,.str [],.str [],.str [],.slice [] false,.slice [] false,.slice [] false]] H=some (.bool (fB t),none):=by
 have hw:=OP t.wn t.wk H
 have hs:=Yp t.names [] H false false n7
 rw[oW] at hs
 refine ba (fn:=Nw) rfl rfl rfl ?_
 unfold Nw
 rw[ax]
 cases c1:(t.kind==0) with
 | false=>simp(disch:=omega)only[aX,aa,simprocAttr,c1,hw,hs,bne,n7,fB,aiu,ais,aiH,aiW]
 | true =>
 cases c2:(t.n==0) with
 | false=>simp(disch:=omega)only[aX,aa,simprocAttr,c1,c2,hw,hs,bne,n7,fB,aiu,ais,aiH,aiW]
 | true =>
 cases c3:(t.name==[]) with
 | false=>simp(disch:=omega)only[aX,aa,simprocAttr,c1,c2,c3,hw,hs,bne,n7,fB,aiu,ais,aiH,aiW]
 | true =>
 cases c4:(t.field==[]) with
 | false=>simp(disch:=omega)only[aX,aa,simprocAttr,c1,c2,c3,c4,hw,hs,bne,n7,fB,aiu,ais,aiH,aiW]
 | true =>
 cases c5:pT t.wn t.wk with
 | false=>simp(disch:=omega)only[aX,aa,simprocAttr,c1,c2,c3,c4,c5,hw,hs,bne,n7,fB,aiu,ais,aiH,aiW]
 | true =>
 cases c6:(t.names==[]) with
 | false=>simp(disch:=omega)only[aX,aa,simprocAttr,c1,c2,c3,c4,c5,c6,hw,hs,bne,n7,fB,aiu,ais,aiH,aiW]
 | true =>
 cases hk:t.kids.isEmpty with
 | false =>
  have e:((t.kids.length:Int)==0)=false:=by
   cases h:t.kids with
   | nil=>rw[h] at hk;cases hk
   | cons a r=>simp;omega
  simp(disch:=omega)only[aX,aa,simprocAttr,c1,c2,c3,c4,c5,c6,hw,hs,bne,n7,hk,e,b8,ahX,aio,fB,aiu,ais,aiH,aiW]
 | true =>
  have e:t.kids=[]:=ajW.1 hk
  rw[e]
  simp(disch:=omega)only[aX,aa,simprocAttr,c1,c2,c3,c4,c5,c6,hw,hs,bne,n7,hk,aK,b8,ahX,aio,fB,aiu,ais,aiH,aiW]
  refine bP 0 0 (fun i s=>HR (fun T=>T 2=.lbox 0 [.int .i64 t.kind,.int .i64 t.n,.str t.name,.str t.field,.str t.wn,.slice (aO t.wk) false,.slice [] false,.slice (strs t.names) false]/\T 5=.int .i64 0) H H.length s) (HR (fun T=>True) H H.length) (fun _=>False) ?_ ?_ (fun _ h=>h.elim) 0 _ (ahQ _) ?_
  ·rintro i s hi hs
   obtain⟨T,g,rfl,e2,e5⟩:=hs.out
   simp(disch:=omega)only[aX,aa,simprocAttr,e2,e5,ahX,aio]
  ·intro s hs
   obtain⟨T,g,rfl, -⟩:=hs.out
   simp(disch:=omega)only[aX,aa,simprocAttr]
  ·simp(disch:=omega)only[aX,aa,simprocAttr]
theorem yL{α:Type}{l:List α}{i:Nat}{u:α}(h:l[i]?=some u):l.take (i+1)=l.take i++[u]:=by rw[ajw,h];rfl
theorem Sv{f:Fm}(hb:Pl f)(H:ag):aB A 30 [.agg (jR f)] H=some (.bool (dw f),none):=by
 have hw:=nP f.name H (by have:=hb.a;omega)
 obtain⟨k0,k5⟩:=hb.k
 have hr:=sP 3 (.mk f.rn f.rk) H hb.w
 rw[jK] at hr
 have hpt:=yB 5 f.body H hb.b
 have n7:f.body.names.length<=1000000:=by have:=hb.b.out.nl;omega
 have hz:=OO f.body n7 H
 rw[ax] at hpt hz
 refine ba (fn:=No) rfl rfl rfl ?_
 rw[jR]
 unfold No
 cases hn:isWord f.name with
 | false =>
  have e:dw f=false:=by unfold dw;rw[hn];rfl
  simp(disch:=omega)only[aX,aa,simprocAttr,hw,hn,e]
 | true =>
 simp(disch:=omega)only[aX,aa,simprocAttr,hw,hn]
 refine bP f.bu.length 0 (fun i s=>∃ T g,s=⟨T,H,H.length,g⟩/\T 1=.lbox 0 [.int .i64 f.kind,.str f.name,.slice (f.bu.map gk) false,.str f.rn,.slice (aO f.rk) false,.int .i64 f.body.kind,.int .i64 f.body.n,.str f.body.name,.str f.body.field,.str f.body.wn,.slice (aO f.body.wk) false,.slice (aK f.body.kids) false,.slice (strs f.body.names) false,.slice (strs f.layout) false]/\T 3=.int .i64 i/\(f.bu.take i).all (gb f.kind)=true)
  (fun s=>∃ T g,s=⟨T,H,H.length,g⟩/\T 1=.lbox 0 [.int .i64 f.kind,.str f.name,.slice (f.bu.map gk) false,.str f.rn,.slice (aO f.rk) false,.int .i64 f.body.kind,.int .i64 f.body.n,.str f.body.name,.str f.body.field,.str f.body.wn,.slice (aO f.body.wk) false,.slice (aK f.body.kids) false,.slice (strs f.body.names) false,.slice (strs f.layout) false]/\f.bu.all (gb f.kind)=true) (fun s=>fin H.length [.tmp 2] s=some (.bool (dw f),none)) ?_ ?_ ?_ 0 _ (aiB _) ?_
 ·rintro i s hi ⟨T,g,rfl,e1,e3,fh⟩
  by_cases aZ:i<f.bu.length
  ·have hx:=ahP aZ
   have hm:=aiQ aZ
   have FV:=yL hx
   generalize f.bu[i]=u at hx hm FV
   have kE:=T6 hx
   rw[gk] at kE
   have hu:=hb.sb u hm
   obtain⟨m0,m1⟩:=hu.m
   have Wn:=nP u.name H (by have:=hu.a;omega)
   have FQ:=sP 3 (.mk u.wn u.wk) H hu.w
   rw[jK] at FQ
   have tY:gb f.kind u=false->dw f=false:=by
    intro h
    have:f.bu.all (gb f.kind)=false:=by rw[List.all_eq_false];exact⟨u,hm,by rw[h];decide⟩
    unfold dw;rw[this,Bool.and_false];rfl
   have Uj:gb f.kind u=true->(f.bu.take (i+1)).all (gb f.kind)=true:=by
    intro h;rw[FV,akq,fh,ajb,h];rfl
   unfold gb at tY Uj
   have hf4:f.bu.length<=3:=hb.sl
   cases a1:isWord u.name with
   | false =>
    have e:=tY (by simp[a1])
    simp(disch:=omega)only[aX,aa,simprocAttr,e1,e3,jT,kE,Wn,FQ,a1,e]
   | true =>
   cases a2:bE (.mk u.wn u.wk) with
   | false =>
    have e:=tY (by simp[a1,a2])
    simp(disch:=omega)only[aX,aa,simprocAttr,e1,e3,jT,kE,Wn,FQ,a1,a2,e]
   | true =>
   by_cases a3:u.iP<0
   ·have e:=tY (by simp[show ¬ 0<=u.iP by omega])
    simp(disch:=omega)only[aX,aa,simprocAttr,e1,e3,jT,kE,Wn,FQ,a1,a2,e]
   by_cases a4:1099511627776<u.iP
   ·have e:=tY (by simp[show ¬ u.iP<=1099511627776 by omega])
    simp(disch:=omega)only[aX,aa,simprocAttr,e1,e3,jT,kE,Wn,FQ,a1,a2,e]
   by_cases a5:f.kind=4
   ·have e:=Uj (by simp[a1,a2,a5];omega)
    simp(disch:=omega)only[aX,aa,simprocAttr,e1,e3,jT,kE,Wn,FQ,a1,a2]
    exact⟨aZ,_,_,rfl,by simp(disch:=omega)only[aM,aa,simprocAttr,e1],by simp(disch:=omega)only[aM,aa,simprocAttr],e⟩
   by_cases a6:u.iP=0
   ·have e:=Uj (by simp[a1,a2,a6])
    simp(disch:=omega)only[aX,aa,simprocAttr,e1,e3,jT,kE,Wn,FQ,a1,a2]
    exact⟨aZ,_,_,rfl,by simp(disch:=omega)only[aM,aa,simprocAttr,e1],by simp(disch:=omega)only[aM,aa,simprocAttr],e⟩
   ·have e:=tY (by simp[a5,a6])
    simp(disch:=omega)only[aX,aa,simprocAttr,e1,e3,jT,kE,Wn,FQ,a1,a2,e]
  ·simp(disch:=omega)only[aX,aa,simprocAttr,e1,e3,jT]
   exact⟨_,_,rfl,by simp(disch:=omega)only[aM,aa,simprocAttr,e1],by rw[<- fh,aiA (by omega)]⟩
 ·rintro s ⟨T,g,rfl,e1,fh⟩
  have hp:dw f=bif decide (f.kind=0) || decide (f.kind=1) then pT f.rn f.rk&&fB f.body else bE (.mk f.rn f.rk)&&bD f.body:=by
   unfold dw;rw[hn,fh];rfl
  by_cases b0:f.kind=0\/f.kind=1
  ·have e:dw f=(pT f.rn f.rk&&fB f.body):=by
    rw[hp];rcases b0 with b|b<;>simp[b]
   rw[e]
   unfold pT
   have hk:(f.kind==0)=true\/(f.kind==0)=false/\(f.kind==1)=true:=by
    rcases b0 with b|b
    ·exact .inl (by simp[b])
    ·exact .inr (by simp[b])
   rcases hk with hk|⟨hk,Pn⟩
   ·cases d1:(f.rn==[]) with
    | false=>simp(disch:=omega)only[aX,aa,simprocAttr,e1,hk,d1,aiu]
    | true =>
    cases d2:f.rk.isEmpty with
    | false =>
     have e2:((f.rk.length:Int)==0)=false:=by
      cases h:f.rk with
      | nil=>rw[h] at d2;cases d2
      | cons a r=>simp;omega
     simp(disch:=omega)only[aX,aa,simprocAttr,e1,hk,d1,d2,e2,qC,aiu,ais]
    | true =>
     have e2:((f.rk.length:Int)==0)=true:=by rw[ajW.1 d2];rfl
     simp(disch:=omega)only[aX,aa,simprocAttr,e1,hk,d1,d2,e2,hz,qC,ais,cD]
   ·cases d1:(f.rn==[]) with
    | false=>simp(disch:=omega)only[aX,aa,simprocAttr,e1,hk,Pn,d1,aiu]
    | true =>
    cases d2:f.rk.isEmpty with
    | false =>
     have e2:((f.rk.length:Int)==0)=false:=by
      cases h:f.rk with
      | nil=>rw[h] at d2;cases d2
      | cons a r=>simp;omega
     simp(disch:=omega)only[aX,aa,simprocAttr,e1,hk,Pn,d1,d2,e2,qC,aiu,ais]
    | true =>
     have e2:((f.rk.length:Int)==0)=true:=by rw[ajW.1 d2];rfl
     simp(disch:=omega)only[aX,aa,simprocAttr,e1,hk,Pn,d1,d2,e2,hz,qC,ais,cD]
  ·have e:dw f=(bE (.mk f.rn f.rk)&&bD f.body):=by
    rw[hp,show (decide (f.kind=0) || decide (f.kind=1))=false by simpa using b0];rfl
   rw[e]
   have c0:f.kind≠0:=fun h=>b0 (.inl h)
   have c1:f.kind≠1:=fun h=>b0 (.inr h)
   cases a1:bE (.mk f.rn f.rk) with
   | false=>simp(disch:=omega)only[aX,aa,simprocAttr,e1,hr,a1,aiu]
   | true=>simp(disch:=omega)only[aX,aa,simprocAttr,e1,hr,hpt,a1,ais]
 ·intro s hs;exact hs
 ·exact⟨_,_,rfl,by simp(disch:=omega)only[aM,aa,simprocAttr],by simp(disch:=omega)only[aM,aa,simprocAttr,aio],by simp⟩
def wa(f:Fm):List aV:=if dw f=true then dL f else []
theorem NU{f:Fm}(hb:Pl f):([[.str [114,101,99]],[.str [99,97,115,101]],[.str [102,117,110]],[.str [111,110]],[.str [116,101,115,116]],[.str [99,111,110,118]]]:List (List AV))[f.kind.toNat]?=some [.str (qp.getD f.kind.toNat [])]:=by
 obtain⟨k0,k5⟩:=hb.k
 have:f.kind.toNat=0\/f.kind.toNat=1\/f.kind.toNat=2\/f.kind.toNat=3\/f.kind.toNat=4\/f.kind.toNat=5:=by omega
 rcases this with h|h|h|h|h|h<;>rw[h]<;>rfl
theorem qc{k:Int}{u:Fd}(h:FdB u):(cZ k u).length<=14:=by
 have:=iK 3 _ h.w
 unfold cZ
 split<;>simp only[List.length_append,List.length_cons,ahX]<;>omega
theorem GA{f:Fm}(h:dw f=true):(∀ u∈f.bu,gb f.kind u=true)/\(f.kind=0\/f.kind=1\/(bE (.mk f.rn f.rk)=true/\bD f.body=true)):=by
 unfold dw at h
 simp only[ahR] at h
 obtain⟨⟨_,h1⟩,h2⟩:=h
 refine⟨ahU.1 h1,?_⟩
 by_cases b0:f.kind=0
 ·exact .inl b0
 by_cases b1:f.kind=1
 ·exact .inr (.inl b1)
 simp[b0,b1] at h2
 exact .inr (.inr h2)
theorem xT{f:Fm}(hb:Pl f):(dL f).length<=10000:=by
 have h1:=fS (f.bu.map (cZ f.kind)) 14 (fun x hx=>by
  obtain⟨u,hu,rfl⟩:=aia.1 hx
  exact qc (hb.sb u hu))
 have h2:=iK 3 _ hb.w
 have h3:(aj f.body).length<=7260:=oX 5 f.body hb.b
 have h4:=hb.sl
 rw[aie] at h1
 have h5:f.bu.length*(14+1)<=45:=by omega
 unfold dL
 split<;>simp only[List.length_append,List.length_cons,ahX]<;>omega
theorem Ar{f:Fm}(hb:Pl f)(H:ag):aB A 8 [.agg (jR f)] H=some (.slice (strs (wa f)) (!(dw f) || !(decide (f.kind=0) || decide (f.kind=1))),none):=by
 have hp:=Sv hb H
 obtain⟨k0,k5⟩:=hb.k
 refine ba (fn:=ir8) rfl rfl rfl ?_
 rw[jR] at hp ⊢
 unfold ir8 wa
 cases hpf:dw f with
 | false =>
  rw[if_neg (by decide)]
  simp(disch:=omega)only[aX,aa,simprocAttr,hp,hpf,oW,aiH,ajL]
 | true =>
 rw[if_pos rfl]
 obtain⟨tC,aas⟩:=GA hpf
 have ac4:=NU hb
 simp(disch:=omega)only[aX,aa,simprocAttr,hp,hpf,ac4]
 generalize uf:([qp.getD f.kind.toNat [],f.name,[40]]:List aV)=pre
 have aeQ:pre.length=3:=by rw[<- uf];rfl
 have hpc:([[.str (qp.getD f.kind.toNat [])],[.str f.name],[.str [40]]]:List (List AV))=strs pre:=by rw[<- uf];rfl
 simp only[hpc]
 have Ls:dL f=pre++aG (f.bu.map (cZ f.kind))++[[41]]++(if f.kind=0\/f.kind=1 then [] else dh (.mk f.rn f.rk)++[[61]]++aj f.body):=by unfold dL;rw[uf]
 have hlen:=xT hb
 have hf4:f.bu.length<=3:=hb.sl
 refine bP f.bu.length 0 (fun i s=>∃ T g,s=⟨T,H,H.length,g⟩/\T 1=.lbox 0 [.int .i64 f.kind,.str f.name,.slice (f.bu.map gk) false,.str f.rn,.slice (aO f.rk) false,.int .i64 f.body.kind,.int .i64 f.body.n,.str f.body.name,.str f.body.field,.str f.body.wn,.slice (aO f.body.wk) false,.slice (aK f.body.kids) false,.slice (strs f.body.names) false,.slice (strs f.layout) false]/\T 4=.int .i64 i/\T 3=.slice (strs (pre++aG ((f.bu.take i).map (cZ f.kind)))) true)
  (fun s=>∃ T g,s=⟨T,H,H.length,g⟩/\T 1=.lbox 0 [.int .i64 f.kind,.str f.name,.slice (f.bu.map gk) false,.str f.rn,.slice (aO f.rk) false,.int .i64 f.body.kind,.int .i64 f.body.n,.str f.body.name,.str f.body.field,.str f.body.wn,.slice (aO f.body.wk) false,.slice (aK f.body.kids) false,.slice (strs f.body.names) false,.slice (strs f.layout) false]/\T 3=.slice (strs (pre++aG (f.bu.map (cZ f.kind)))) true) (fun _=>False) ?_ ?_ (fun _ h=>h.elim) 0 _ (aiB _) ?_
 ·rintro i s hi ⟨T,g,rfl,e1,e4,e3⟩
  by_cases aZ:i<f.bu.length
  ·have hx:=ahP aZ
   have hm:=aiQ aZ
   have FV:=yL hx
   generalize f.bu[i]=u at hx hm FV
   have kE:=T6 hx
   rw[gk] at kE
   have hu:=hb.sb u hm
   have FQ:=tC u hm
   unfold gb at FQ
   simp only[ahR,ah8,ajk] at FQ
   obtain⟨⟨⟨⟨u1,u2⟩,u3⟩,u4⟩,u5⟩:=FQ
   have Qy:=AE 3 (.mk u.wn u.wk) H (by omega) hu.w u2
   have hwl:=iK 3 _ hu.w
   rw[jK] at Qy
   have Qj:aB A 32 [.int .i64 u.iP] H=some (.str (qR u.iP.toNat),none):=by
    have:=uT u.iP.toNat H (by omega)
    rwa [ajA u3] at this
   have hs:=kB (cZ f.kind u) ((f.bu.take i).map (cZ f.kind))
   have mb:(f.bu.take (i+1)).map (cZ f.kind)=(f.bu.take i).map (cZ f.kind)++[cZ f.kind u]:=by rw[FV];simp
   rw[<- mb] at hs
   have B0:(aG ((f.bu.take i).map (cZ f.kind))).length<=45:=by
    have h1:=fS ((f.bu.take i).map (cZ f.kind)) 14 (fun x hx=>by
     obtain⟨v,hv,rfl⟩:=aia.1 hx
     exact qc (hb.sb v (aiO hv)))
    rw[aie,List.length_take] at h1
    have:min i f.bu.length<=3:=by omega
    have:min i f.bu.length*(14+1)<=45:=by omega
    omega
   have step:∀ (base:List aV),base.length<=100->base++cZ f.kind u=pre++aG ((f.bu.take (i+1)).map (cZ f.kind)) ->
     an false 1 16 (.slice (strs base) true) (.slice [[.str u.name]] true)=some (.slice (strs (base++[u.name])) true) /\
     an false 1 16 (.slice (strs (base++[u.name])) true) (.slice (strs (dh (.mk u.wn u.wk))) true)=some (.slice (strs (base++[u.name]++dh (.mk u.wn u.wk))) true) /\
     (f.kind=4->an false 1 16 (.slice (strs (base++[u.name]++dh (.mk u.wn u.wk))) true) (.slice [[.str (qR u.iP.toNat)]] true)=some (.slice (strs (pre++aG ((f.bu.take (i+1)).map (cZ f.kind)))) true)) /\
     (f.kind≠4->base++[u.name]++dh (.mk u.wn u.wk)=pre++aG ((f.bu.take (i+1)).map (cZ f.kind))):=by
    intro base Lj he
    refine⟨dC (by omega),bG (by simp;omega),fun h4=>?_,fun h4=>?_⟩
    ·rw[<- he];unfold cZ;rw[if_pos h4]
     simp only[<- ajf]
     exact dC (by simp;omega)
    ·rw[<- he];unfold cZ;rw[if_neg h4]
     simp only[<- ajf,ain]
   have IG:∀ (T' : aA) (g' : Nat),T' 1=.lbox 0 [.int .i64 f.kind,.str f.name,.slice (f.bu.map gk) false,.str f.rn,.slice (aO f.rk) false,.int .i64 f.body.kind,.int .i64 f.body.n,.str f.body.name,.str f.body.field,.str f.body.wn,.slice (aO f.body.wk) false,.slice (aK f.body.kids) false,.slice (strs f.body.names) false,.slice (strs f.layout) false]->T' 4=.int .i64 ((i:Int)+1)->T' 3=.slice (strs (pre++aG ((f.bu.take (i+1)).map (cZ f.kind)))) true ->
     i<f.bu.length/\∃ T g,(⟨T',H,H.length,g'⟩:AS)=⟨T,H,H.length,g⟩/\T 1=.lbox 0 [.int .i64 f.kind,.str f.name,.slice (f.bu.map gk) false,.str f.rn,.slice (aO f.rk) false,.int .i64 f.body.kind,.int .i64 f.body.n,.str f.body.name,.str f.body.field,.str f.body.wn,.slice (aO f.body.wk) false,.slice (aK f.body.kids) false,.slice (strs f.body.names) false,.slice (strs f.layout) false]/\T 4=.int .i64 ((i:Int)+1)/\T 3=.slice (strs (pre++aG ((f.bu.take (i+1)).map (cZ f.kind)))) true :=
    fun T' g' q1 q2 q3=>⟨aZ,_,_,rfl,q1,q2,q3⟩
   by_cases h0:i=0
   ·subst h0
    simp only[aiN,ah3] at hs e3
    rw[if_pos trivial] at hs
    rw[show aG ([]:List (List aV))=[] from rfl,ain] at e3
    obtain⟨a1,a2,a3,a4⟩:=step pre (by omega) (by rw[hs])
    generalize pre++aG ((f.bu.take (0+1)).map (cZ f.kind))=out at a3 a4 IG ⊢
    generalize pre++[u.name]++dh (.mk u.wn u.wk)=b2 at a2 a3 a4
    generalize pre++[u.name]=b1 at a1 a2
    by_cases h4:f.kind=4
    ·have a3:=a3 h4
     simp(disch:=omega)only[aX,aa,simprocAttr,e1,e3,e4,jT,kE,Qy,Qj,a1,a2,a3]
     refine IG _ _ ?_ ?_ ?_
     ·simp(disch:=omega)only[aM,aa,simprocAttr,e1]
     ·simp(disch:=omega)only[aM,aa,simprocAttr,e4]
     ·simp(disch:=omega)only[aM,aa,simprocAttr]
    ·have a4:=a4 h4
     simp(disch:=omega)only[aX,aa,simprocAttr,e1,e3,e4,jT,kE,Qy,Qj,a1,a2]
     refine IG _ _ ?_ ?_ ?_
     ·simp(disch:=omega)only[aM,aa,simprocAttr,e1]
     ·simp(disch:=omega)only[aM,aa,simprocAttr,e4]
     ·simp(disch:=omega)only[aM,aa,simprocAttr,a4]
   ·have cS:¬ ((f.bu.take i).map (cZ f.kind)=[]):=fun e=>by
     have:=aj8 List.length e
     rw[aie,List.length_take,ahX] at this
     omega
    rw[if_neg cS] at hs
    generalize aG ((f.bu.take i).map (cZ f.kind))=acc at e3 B0 hs
    have a0:an false 1 16 (.slice (strs (pre++acc)) true) (.slice [[.str [44]]] true)=some (.slice (strs (pre++acc++[[44]])) true):=dC (by simp;omega)
    obtain⟨a1,a2,a3,a4⟩:=step (pre++acc++[[44]]) (by simp;omega) (by rw[hs];simp)
    generalize pre++aG ((f.bu.take (i+1)).map (cZ f.kind))=out at a3 a4 IG ⊢
    generalize pre++acc++[[44]]++[u.name]++dh (.mk u.wn u.wk)=b2 at a2 a3 a4
    generalize pre++acc++[[44]]++[u.name]=b1 at a1 a2
    generalize pre++acc++[[44]]=b0 at a0 a1
    by_cases h4:f.kind=4
    ·have a3:=a3 h4
     simp(disch:=omega)only[aX,aa,simprocAttr,e1,e3,e4,jT,kE,Qy,Qj,a0,a1,a2,a3]
     refine IG _ _ ?_ ?_ ?_
     ·simp(disch:=omega)only[aM,aa,simprocAttr,e1]
     ·simp(disch:=omega)only[aM,aa,simprocAttr,e4]
     ·simp(disch:=omega)only[aM,aa,simprocAttr]
    ·have a4:=a4 h4
     simp(disch:=omega)only[aX,aa,simprocAttr,e1,e3,e4,jT,kE,Qy,Qj,a0,a1,a2]
     refine IG _ _ ?_ ?_ ?_
     ·simp(disch:=omega)only[aM,aa,simprocAttr,e1]
     ·simp(disch:=omega)only[aM,aa,simprocAttr,e4]
     ·simp(disch:=omega)only[aM,aa,simprocAttr,a4]
  ·rw[aiA (by omega)] at e3
   simp(disch:=omega)only[aX,aa,simprocAttr,e1,e3,e4,jT]
   exact⟨_,_,rfl,by simp(disch:=omega)only[aM,aa,simprocAttr,e1],by simp(disch:=omega)only[aM,aa,simprocAttr,e3]⟩
 ·rintro s ⟨T,g,rfl,e1,e3⟩
  have Pq:(pre++aG (f.bu.map (cZ f.kind))).length<=10000:=by
   rw[Ls,List.length_append,List.length_append] at hlen;omega
  have a1:an false 1 16 (.slice (strs (pre++aG (f.bu.map (cZ f.kind)))) true) (.slice [[.str [41]]] true)=some (.slice (strs (pre++aG (f.bu.map (cZ f.kind))++[[41]])) true):=dC (by omega)
  by_cases b0:f.kind=0\/f.kind=1
  ·rw[if_pos b0,ain] at Ls
   rw[<- Ls] at a1
   have eo:(!(decide (f.kind=0) || decide (f.kind=1)))=false:=by rcases b0 with b|b<;>simp[b]
   rw[eo]
   rcases b0 with b|b<;>simp(disch:=omega)only[aX,aa,simprocAttr,e1,e3,a1]
  ·rw[if_neg b0] at Ls
   have eo:(!(decide (f.kind=0) || decide (f.kind=1)))=true:=by simpa using b0
   rw[eo]
   have c0:f.kind≠0:=fun h=>b0 (.inl h)
   have c1:f.kind≠1:=fun h=>b0 (.inr h)
   obtain⟨r1,r2⟩:bE (.mk f.rn f.rk)=true/\bD f.body=true:=by
    rcases aas with h|h|h
    ·exact absurd h c0
    ·exact absurd h c1
    ·exact h
   have Qy:=AE 3 (.mk f.rn f.rk) H (by omega) hb.w r1
   have htt:=(Di 5 f.body (by omega) hb.b r2).d H
   rw[jK] at Qy
   rw[ax] at htt
   have hwl:=iK 3 _ hb.w
   have Y3:(aj f.body).length<=7260:=oX 5 f.body hb.b
   generalize dh (.mk f.rn f.rk)=w at Qy hwl Ls
   generalize aj f.body=tt at htt Y3 Ls
   generalize pre++aG (f.bu.map (cZ f.kind))=b0 at a1 e3 Pq Ls
   have a2:an false 1 16 (.slice (strs (b0++[[41]])) true) (.slice (strs w) true)=some (.slice (strs (b0++[[41]]++w)) true):=bG (by simp;omega)
   have a3:an false 1 16 (.slice (strs (b0++[[41]]++w)) true) (.slice [[.str [61]]] true)=some (.slice (strs (b0++[[41]]++w++[[61]])) true):=dC (by simp;omega)
   have a4:an false 1 16 (.slice (strs (b0++[[41]]++w++[[61]])) true) (.slice (strs tt) true)=some (.slice (strs (b0++[[41]]++w++[[61]]++tt)) true):=bG (by simp;omega)
   rw[show dL f=b0++[[41]]++w++[[61]]++tt by rw[Ls];simp]
   generalize b0++[[41]]++w++[[61]]++tt=b5 at a4 ⊢
   generalize b0++[[41]]++w++[[61]]=b4 at a3 a4
   generalize b0++[[41]]++w=b3 at a2 a3
   generalize b0++[[41]]=b1 at a1 a2
   simp(disch:=omega)only[aX,aa,simprocAttr,e1,e3,a1,a2,a3,a4,Qy,htt]
 ·exact⟨_,_,rfl,by simp(disch:=omega)only[aM,aa,simprocAttr],by simp(disch:=omega)only[aM,aa,simprocAttr,aio],by simp(disch:=omega)only[aM,aa,simprocAttr,aiN,ah3,aG,ain]⟩
theorem Ha{l:List Fd} : tc 4 (l.map gk):=⟨fun r hr=>by obtain⟨t,_,rfl⟩:=aia.1 hr;rfl,sM fun r hr=>by obtain⟨t,_,rfl⟩:=aia.1 hr;rfl⟩
theorem Kj{l:List Fd}{u:Fd}{o:Bool}(h:l.length<=10000000):an false 4 64 (.slice (l.map gk) true) (.slice [[.str u.name,.str u.wn,.slice (aO u.wk) false,.int .i64 u.iP]] o)=some (.slice ((l++[u]).map gk) true):=by
 have e:([[.str u.name,.str u.wn,.slice (aO u.wk) false,.int .i64 u.iP]]:List (List AV))=[u].map gk:=rfl
 rw[e,se Ha Ha (by simp;omega) (by simp;omega),List.map_append]
theorem Hf{l:List Fm} : tc 14 (l.map jR):=⟨fun r hr=>by obtain⟨t,_,rfl⟩:=aia.1 hr;rfl,sM fun r hr=>by obtain⟨t,_,rfl⟩:=aia.1 hr;rfl⟩
theorem Kk{l:List Fm}{f:Fm}{o:Bool}(h:l.length<=10000000):an false 14 248 (.slice (l.map jR) true) (.slice [[.int .i64 f.kind,.str f.name,.slice (f.bu.map gk) false,.str f.rn,.slice (aO f.rk) false,
  .int .i64 f.body.kind,.int .i64 f.body.n,.str f.body.name,.str f.body.field,.str f.body.wn,.slice (aO f.body.wk) false,.slice (aK f.body.kids) false,.slice (strs f.body.names) false,.slice (strs f.layout) false]] o)=some (.slice ((l++[f]).map jR) true):=by
 have e:([[.int .i64 f.kind,.str f.name,.slice (f.bu.map gk) false,.str f.rn,.slice (aO f.rk) false,
  .int .i64 f.body.kind,.int .i64 f.body.n,.str f.body.name,.str f.body.field,.str f.body.wn,.slice (aO f.body.wk) false,.slice (aK f.body.kids) false,.slice (strs f.body.names) false,.slice (strs f.layout) false]]:List (List AV))=[f].map jR:=rfl
 rw[e,se Hf Hf (by simp;omega) (by simp;omega),List.map_append]
theorem UE{l:List Fm} : ((l.map jR).map fun r=>r.map n1)=l.map jR:=by
 rw[ajh]
 exact aib fun w _=>rfl
theorem kj:∀ L:List aV,chunks 1 L.length (L.map AV.str)=strs L
 | []=>rfl
 | a :: r=>by
  have:=kj r
  simp only[strs,List.length_cons,ah1,chunks,aiU,aiN,ajr,ai2] at this ⊢
  rw[this]
theorem BL{base t l n:Nat}{fn:au}{s:AS}{L:List aV}{o:dm}(hr:fn.results=[.tmp t])(m8:fn.muts.elem 888888=false)(m7:fn.muts.elem 777777=false)(hT:s.T t=.sref l 0 n 1)
  (hH:s.H[l]?=some o) (ho:mW o=some (L.map .str)) (hl:base<=l) (hn:n=L.length) (wQ:s.lo=base):finish base fn s=some (.slice (strs L) false,none):=by
 have h1:mA base s=true:=by simp[mA,wQ]
 have hb:Nat.blt l base=false:=by rw[<- ajS,aih];omega
 have iV:Nat.ble base l=true:=by simpa [aiq] using hl
 have h0:jF base [.tmp t] s=none:=by
  simp only[jF,lV,nJ,iz,hT,aq,cond_true,ahV,AV.leaves,AV.bf,AV.aN,hb,ahW]
 have hp:qe base [.tmp t] s=none:=by simp only[qe,List.length_cons,ahX];rfl
 have hc:(L.map AV.str).all (fun x=>(n6 s.H base 2 x.drop).plain&&pk x)=true:=by
  rw[ahU]
  intro x hx
  obtain⟨a,_,rfl⟩:=aia.1 hx
  rfl
 have hm:(L.map AV.str).map (fun x=>n6 s.H base 2 x.drop)=L.map AV.str:=by
  rw[ajh]
  exact aib fun a _=>rfl
 have Lj:Nat.ble (0+n*1) (L.map AV.str).length=true:=by rw[aiq,aie];omega
 have hz:n6 s.H base 3 (.sref l 0 n 1)=.slice (strs L) false:=by
  rw[n6]
  simp only[iV,cond_true,hH,ahV,ho,hc,hm,Lj,ai2,aka,show Nat.blt 0 1=true from rfl]
  rw[hn,kj]
 have hf:qd base [.tmp t] s=some (.slice (strs L) false,none):=by
  simp only[qd,uB,iz,hT,aq,cond_true,ah0,AV.bc,AV.drop,K',hz,ahV,AV.leaves,wQ,aj6]
 have h3:kT base fn s=some (.slice (strs L) false,none):=by
  unfold kT qW nA
  rw[h1,m8,hr]
  simp only[cond_true,ahW,h0,hp,hf]
 unfold finish
 rw[h3,ah0,rH m7]
def gO(l:List aV):List aV:=(dB l).take l.length++[[10]]
theorem qA{l:List aV} : (gO l).length=l.length+1:=by unfold gO;rw[List.length_append,List.length_take,jv];simp
theorem JB(l:List aV):((dB l).map AV.str).take l.length++([AV.str [10]]++((dB l).map AV.str).drop (l.length+1))=(gO l).map AV.str:=by
 have:((dB l).map AV.str).drop (l.length+1)=[]:=aiX (by rw[aie,jv];omega)
 rw[this,ain,<- List.map_take,gO,List.map_append];rfl
theorem Dk(l:List aV)(H:ag)(hl:l.length<=1000000):aB A 9 [.slice (strs l) false] H=some (.slice (strs (gO l)) false,none):=by
 have key:∃ r,aB A 9 [.slice (strs l) false] H=some r/\r=(.slice (strs (gO l)) false,none):=by
  refine o4 (fn:=ir9) rfl rfl rfl ?_
  have hu:=Pc l H hl
  unfold ir9
  have en:asNat (.int .i64 ((l.length:Int)+1-1))=some l.length:=by rw[dD (by omega)];congr 1;omega
  have jb:((dB l).map AV.str).length=l.length+1:=by rw[aie,jv]
  simp(disch:=omega)only[evA,lp,iX,oR,lA,Gr,bO,ai,dX,ak.eval,AS.b9,↓reduceIte,Nat.reduceEqDiff,Option.isSome,Option.isNone,cond_true,ahW,Nat.reduceBEq,Nat.reduceAdd,Nat.reduceMul,aa,jB,eq_self,reduceCtorEq,AD,jH,jE,gz,bound,nX,AS.cm,bM,fK,dJ,Nat.reduceLeDiff,jV,putAt,Int.reduceEq,Int.reduceLT,Int.reduceLE,Int.reduceBEq,Int.reduceBNe,Int.reduceAdd,Int.reduceNeg,Int.reduceSub,Int.reduceMul,LS,LR,LQ,LP,LO,LN,LW,LV,a8,dD,Int.toNat_natCast,ajl,hu,en,dO,heap_set,jb,cA]
  exact⟨_,BL (t:=2) (l:=H.length) (n:=l.length+1) (L:=gO l) (o:=.dM ((gO l).map .str)) rfl (by decide) (by decide) (by simp[aA.put]) (by rw[<- JB];simp) rfl (ahQ _) qA.symm rfl,rfl⟩
 obtain⟨r,h,rfl⟩:=key
 exact h
def kP(l lay:List aV)(i:Nat):aV:=((List.range i).map fun j=>lay.getD j []++l.getD j []).flatten
theorem vG{l lay:List aV}{i:Nat} : kP l lay (i+1)=kP l lay i++(lay.getD i []++l.getD i []):=by
 unfold kP;rw[List.range_succ,List.map_append,List.flatten_append];simp
theorem ye{l lay:List aV}{B:Nat}(h1:∀ s∈l,s.length<=B)(h2:∀ s∈lay,s.length<=B):∀ i,(kP l lay i).length<=i*(2*B)
 | 0=>by simp[kP]
 | i+1=>by
  have ih:=ye h1 h2 i
  have a1:(lay.getD i []).length<=B:=by
   by_cases h:i<lay.length
   ·rw[getD_at h];exact h2 _ (aiQ h)
   ·simp[List.getD,air (ajY h)]
  have a2:(l.getD i []).length<=B:=by
   by_cases h:i<l.length
   ·rw[getD_at h];exact h1 _ (aiQ h)
   ·simp[List.getD,air (ajY h)]
  rw[vG,List.length_append,List.length_append,aip]
  omega
def rD(l lay:List aV):List aV:=if lay.length=l.length+1 then lay else gO l
def Ci(l lay:List aV):aV:=kP l (rD l lay) l.length++(rD l lay).getD l.length []
theorem NY{l lay:List aV} : (rD l lay).length=l.length+1:=by
 unfold rD
 split
 ·assumption
 ·exact qA
theorem TN{l:List aV} : ∀ s∈gO l,s.length<=40:=by
 intro s hs
 unfold gO at hs
 rcases ahS.1 hs with h|h
 ·have h:=aiO h
  unfold dB at h
  obtain⟨i,_,rfl⟩:=aia.1 h
  unfold dk
  split<;>simp
 ·rw[ah4.1 h];simp
theorem Xj{l lay:List aV}(h:∀ s∈lay,s.length<=40):∀ s∈rD l lay,s.length<=40:=by
 unfold rD;split
 ·exact h
 ·exact TN
theorem zG{l:List aV}{B:Nat}(h:∀ s∈l,s.length<=B)(i:Nat):(l.getD i []).length<=B:=by
 by_cases hi:i<l.length
 ·rw[getD_at hi];exact h _ (aiQ hi)
 ·simp[List.getD,air (ajY hi)]
theorem ju{l:List aV}{i:Nat}(h:i<l.length):(strs l)[i]?=some [.str (l.getD i [])]:=by rw[getD_at h];exact bB (ahP h)
theorem Hv(l lay:List aV)(H:ag)(hl:l.length<=20000)(hb:∀ s∈l,s.length<=40)(iV:∀ s∈lay,s.length<=40)(Uq:lay.length<=1000000) :
  aB A 12 [.slice (strs l) false,.slice (strs lay) false] H=some (.str (Ci l lay),none):=by
 refine ba (fn:=F0) rfl rfl rfl ?_
 have hu:=Dk l H (by omega)
 have hy:=Xj (l:=l) iV
 have hyl:=NY (l:=l) (lay:=lay)
 unfold F0
 have main:∀ (s:AS),(∃ T,s=⟨T,H,H.length,0⟩/\T 0=.slice (strs l) false/\T 1=.slice (strs (rD l lay)) false) ->
   W A (F0.body.post 1) s (done H.length [.tmp 4] (.str (Ci l lay),none)):=by
  rintro s ⟨T,rfl,e0,e1⟩
  unfold F0 Ci
  simp only[a7.post]
  generalize rD l lay=y at e1 hy hyl
  have y0:=ju (l:=y) (i:=0) (by omega)
  simp(disch:=omega)only[aX,aa,simprocAttr,e0,e1,y0]
  refine bP l.length 0 (fun i s=>∃ T,s=⟨T,H,H.length,0⟩/\T 0=.slice (strs l) false/\T 1=.slice (strs y) false/\T 6=.int .i64 i/\T 5=.str (kP l y i++y.getD i []))
   (fun s=>∃ T,s=⟨T,H,H.length,0⟩/\T 5=.str (kP l y l.length++y.getD l.length [])) (fun _=>False) ?_ ?_ (fun _ h=>h.elim) 0 _ (aiB _) ?_
  ·rintro i s hi ⟨T,rfl,e0,e1,e6,e5⟩
   by_cases aZ:i<l.length
   ·have q1:=ju aZ
    have q2:=ju (l:=y) (i:=i+1) (by omega)
    have j1:=ye hb hy i
    have j1' : i*(2*40)<=20000*(2*40):=ah7 _ (by omega)
    have j2:=zG hy i
    have j3:=zG hb i
    have j4:=zG hy (i+1)
    have en:asNat (.int .i64 ((i:Int)+1))=some (i+1):=by rw[dD (by omega)];rfl
    have hs:kP l y i++y.getD i []++l.getD i []++y.getD (i+1) []=kP l y (i+1)++y.getD (i+1) []:=by rw[vG];simp
    have Z8:(kP l y i++y.getD i []).length<=2000000:=by rw[List.length_append];omega
    generalize kP l y i++y.getD i []=acc at e5 hs Z8
    have vx:(acc++l.getD i []).length<=3000000:=by rw[List.length_append];omega
    simp(disch:=omega)only[aX,aa,simprocAttr,e0,e1,e5,e6,aJ,q1,q2,en]
    exact⟨aZ,_,rfl,by simp(disch:=omega)only[aM,aa,simprocAttr,e0],by simp(disch:=omega)only[aM,aa,simprocAttr,e1],by simp(disch:=omega)only[aM,aa,simprocAttr],by simp(disch:=omega)only[aM,aa,simprocAttr,hs]⟩
   ·obtain rfl:i=l.length:=by omega
    simp(disch:=omega)only[aX,aa,simprocAttr,e0,e5,e6,aJ]
    exact⟨_,rfl,by simp(disch:=omega)only[aM,aa,simprocAttr,e5]⟩
  ·rintro s ⟨T,rfl,e5⟩
   simp(disch:=omega)only[aX,aa,simprocAttr,e5]
  ·exact⟨_,rfl,by simp(disch:=omega)only[aM,aa,simprocAttr,e0],by simp(disch:=omega)only[aM,aa,simprocAttr,e1],by simp(disch:=omega)only[aM,aa,simprocAttr,aio],by simp(disch:=omega)only[aM,aa,simprocAttr,kP,List.range_zero,ah3,aiY,ajg]⟩
 refine gI 1 (R:=fun s=>∃ T,s=⟨T,H,H.length,0⟩/\T 0=.slice (strs l) false/\T 1=.slice (strs (rD l lay)) false) ?_ main
 simp only[a7.pre]
 by_cases hc:lay.length=l.length+1
 ·have e:rD l lay=lay:=by unfold rD;rw[if_pos hc]
  simp(disch:=omega)only[aX,aa,simprocAttr,aJ]
  exact⟨_,rfl,by simp(disch:=omega)only[aM,aa,simprocAttr],by rw[e];simp(disch:=omega)only[aM,aa,simprocAttr]⟩
 ·have e:rD l lay=gO l:=by unfold rD;rw[if_neg hc]
  simp(disch:=omega)only[aX,aa,simprocAttr,aJ,hu]
  exact⟨_,rfl,by simp(disch:=omega)only[aM,aa,simprocAttr],by rw[e];simp(disch:=omega)only[aM,aa,simprocAttr]⟩
theorem uU:∀ (k f n:Nat) (acc:aV),n<10 ^ (k+1)->(da f n acc).length<=acc.length+k+1
 | _,0,n,acc,_=>by rw[da];omega
 | 0,f+1,n,acc,h=>by
  have:Nat.blt n 10=true:=by simp[aih];omega
  rw[da,this,cond_true];simp
 | k+1,f+1,n,acc,h=>by
  rw[da]
  cases hb:Nat.blt n 10 with
  | true=>simp only[cond_true,List.length_cons];omega
  | false =>
   simp only[ahW]
   have h2:n / 10<10 ^ (k+1):=by rw[Nat.pow_succ] at h;omega
   have:=uU k f (n / 10) (UInt8.ofNat (48+n % 10) :: acc) h2
   rw[List.length_cons] at this
   omega
theorem KG{n:Nat}(h:n<=2199023255552):(qR n).length<=14:=by
 have:=uU 12 (n+1) n [] (by omega)
 unfold qR
 rw[ahX] at this
 omega
theorem JF{f:Fm}(h:Pl f):(wa f).length<=10000:=by
 unfold wa;split
 ·exact xT h
 ·simp
structure GW (m:Nat) (f:Fm):Prop where
 k:0<=f.kind/\f.kind<=5
 a:f.name.length<=20
 sl:f.bu.length<=3
 sb:∀ s∈f.bu,FdB s
 w:wP 3 (.mk f.rn f.rk)
 b:yU m 5 f.body
 ll:f.layout.length<=19000+m
 lb:∀ s∈f.layout,s.length<=20
structure HS (m:Nat) (s:So):Prop where
 a:s.name.length<=20
 ul:s.mF.length<=2+m
 ub:∀ u∈s.mF,u.length<=20
 dl:s.defs.length<=3
 db:∀ f∈s.defs,GW m f
 hl:s.head.length<=19000
 hb:∀ u∈s.head,u.length<=20
 e:s.fin.length<=20
theorem GW.B{m:Nat}{f:Fm}(hm:m<=8)(h:GW m f):Pl f:=⟨h.k,h.a,h.sl,h.sb,h.w,h.b.le hm _ _ _ (ahQ _),by have:=h.ll;omega,h.lb⟩
structure SA (c:Cc) (so:So) (b:Bool) (T:aA):Prop where
 t2:T 2=.lbox 0 [.str [],.slice [] true,.slice [] true,.slice [] true,.str []]
 t3:T 3=.ref c.mm 0
 t5:T 5=.bool b
 t4:∃ g,T 4=.lbox g [.str so.name,.slice (strs so.mF) true,.slice (so.defs.map jR) true,.slice (strs so.head) true,.str so.fin]
def TX(c:Cc)(K:ag)(b:Bool)(P:So->Prop)(s:AS):Prop:=∃ T p g so,s=⟨T,bY c p K,c.mm,g⟩/\SA c so b T/\HS 4 so/\P so
structure FA (c:Cc) (so:So) (b:Bool) (many i:Int) (f:Fm) (T:aA):Prop where
 sa:SA c so b T
 t7:T 7=.int .i64 many
 t8:T 8=.int .i64 i
 t9:∃ g o1 o2 o3,T 9=.lbox g [.int .i64 f.kind,.str f.name,.slice (f.bu.map gk) true,.str f.rn,.slice (aO f.rk) o1,.int .i64 f.body.kind,.int .i64 f.body.n,.str f.body.name,.str f.body.field,.str f.body.wn,.slice (aO f.body.wk) o2,.slice (aK f.body.kids) o2,.slice (strs f.body.names) o2,.slice (strs f.layout) o3]
def TV(c:Cc)(K:ag)(so:So)(b:Bool)(many i:Int)(P:Fm->aA->Prop)(s:AS):Prop:=∃ T p g f,s=⟨T,bY c p K,c.mm,g⟩/\FA c so b many i f T/\GW 4 f/\P f T
theorem z7{c:Cc}{p0:Int}{K:ag}(h:CH c p0 K)(p n:Int)(hn:0<n):∃ x p',0<=x/\x<n/\aB A 19 [.ref c.mm 0,.int .i64 n] (bY c p K)=some (.int .i64 x,some ⟨bY c p' K,c.mm⟩):=by
 obtain⟨x,p',a,b,e⟩:=jo (h.set (p':=p)) n hn
 rw[aL] at e
 exact⟨x,p',a,b,e⟩
theorem Hy{c:Cc}{p0:Int}{K:ag}(h:CH c p0 K)(p:Int):∃ s p',(s.length<=20/\isWord s=true)/\aB A 18 [.ref c.mm 0] (bY c p K)=some (.str s,some ⟨bY c p' K,c.mm⟩):=by
 obtain⟨s,p',a,e⟩:=kJ (h.set (p':=p))
 rw[aL] at e
 exact⟨s,p',⟨by have:=ff s a;omega,ft s a⟩,e⟩
theorem UA{c:Cc}{p0:Int}{K:ag}(h:CH c p0 K)(p:Int):∃ w p',(wP 3 w/\bE w=true)/\aB A 22 [.ref c.mm 0,.int .i64 2] (bY c p K)=some (.agg [.str w.name,.slice (aO w.kids) false],some ⟨bY c p' K,c.mm⟩):=by
 obtain⟨w,p',a,e⟩:=Ck 2 p (bY c p K) (by omega) h.set
 rw[aL,kR] at e
 exact⟨w,p',⟨Pf (by omega) a.1,a.2⟩,e⟩
theorem yJ{c:Cc} : ∀ d:Nat,d<=101->uF c d
 | 0,_=>abN
 | d+1,h=>abP (by omega) (yJ d (by omega))
theorem UN{c:Cc}{p0:Int}{K:ag}(h:CH c p0 K)(p:Int)(d:Nat)(hd:d<=4):∃ t p',(yU 4 5 t/\bD t=true/\yU 4 (d+1) t)/\aB A 23 [.ref c.mm 0,.int .i64 d] (bY c p K)=some (.agg [.int .i64 t.kind,.int .i64 t.n,.str t.name,.str t.field,.str t.wn,.slice (aO t.wk) false,.slice (aK t.kids) false,.slice (strs t.names) false],some ⟨bY c p' K,c.mm⟩):=by
 obtain⟨t,p',a,e⟩:=yJ d (by omega) p (bY c p K) h.set
 rw[aL,ax] at e
 exact⟨t,p',⟨a.1.up (ahQ _) _ _ _ (by omega),a.2,a.1⟩,e⟩
theorem aaN{c:Cc}{p0:Int}{K:ag}(h:CH c p0 K)(p:Int)(n:Nat)(hn:n<=12000):∃ (x:Int) (b:aV) (out:List aV) (p1 p2:Int),(out.length<=19000/\out.length=max n 1+1/\tS out)/\(∀ s∈out,s.length<=20) /\
  aB A 19 [.ref c.mm 0,.int .i64 1000] (bY c p K)=some (.int .i64 x,some ⟨bY c p1 K,c.mm⟩) /\
  aB A 21 [.int .i64 x,.int .i64 0] (bY c p1 K)=some (.str b,none)/\aB A 20 [.ref c.mm 0,.int .i64 n,.str b] (bY c p1 K)=some (.slice (strs out) true,some ⟨bY c p2 K,c.mm⟩):=by
 obtain⟨x,p1,x0,x1,e1⟩:=z7 h p 1000 (by omega)
 obtain⟨b,⟨hb,VK, -⟩,e2⟩:=T8 x 0 (bY c p1 K) (x8 x0 (by omega))
 obtain⟨out,p2,ol,ob,e3⟩:=N0 (h.set (p':=p1)) n (by omega) b VK hb
 rw[aL] at e3
 exact⟨x,b,out,p1,p2,⟨by omega,ol,ob⟩,fun s hs=>(ob.w s hs).2,e1,e2,e3⟩
theorem Ts{c:Cc}{p0:Int}{K:ag}(h:CH c p0 K){so:So}{b:Bool}{T:aA}{p:Int}{g:Nat}{Q:bw->AS->Prop}(hs:SA c so b T)(hG:HS 4 so)(hu:so.mF=[])(hd:so.defs=[]) :
  W A ((yd.body.post 3).pre 0) ⟨T,bY c p K,c.mm,g⟩ (andThen (TX c K b (fun Tt=>Tt.defs=[])) Q):=by
 obtain⟨q2,q3,q5,g4,q4⟩:=hs
 unfold yd
 simp only[a7.post,a7.pre]
 simp(disch:=omega)only[aX,aa,simprocAttr,q2,q3,q4,q5]
 refine bP 2 0 (fun i s=>∃ T p g so,s=⟨T,bY c p K,c.mm,g⟩/\SA c so b T/\HS 4 so/\so.defs=[]/\T 6=.int .i64 i/\so.mF.length=i)
  (TX c K b (fun Tt=>Tt.defs=[])) (fun _=>False) ?_ (fun s hs=>hs) (fun _ h=>h.elim) 0 _ (by omega) ?_
 ·rintro i s hi ⟨T,p,g,so,rfl,⟨q2,q3,q5,g4,q4⟩,hG,hd,q6,hl⟩
  obtain⟨x,p1,x0,x1,e1⟩:=z7 h p 3 (by omega)
  by_cases hc:(i:Int)<x
  ·obtain⟨u,p2,ul,e2⟩:=Hy h p1
   have a1:an false 1 16 (.slice (strs so.mF) true) (.slice [[.str u]] true)=some (.slice (strs (so.mF++[u])) true):=dC (by omega)
   simp(disch:=omega)only[aX,aa,simprocAttr,q2,q3,q4,q5,q6,e1,e2,a1,cO,bV,aix,aiy,ar,cA,aiJ,aiG,ahW,aH]
   refine⟨by omega,_,_,_,{ so with mF:=so.mF++[u] },rfl,⟨?_,?_,?_,g4,?_⟩,⟨hG.a,by simp;omega,fun v hv=>?_,hG.dl,hG.db,hG.hl,hG.hb,hG.e⟩,hd,?_,by simp[hl]⟩
   ·simp(disch:=omega)only[aM,aa,simprocAttr,q2]
   ·simp(disch:=omega)only[aM,aa,simprocAttr,q3]
   ·simp(disch:=omega)only[aM,aa,simprocAttr,q5]
   ·simp(disch:=omega)only[aM,aa,simprocAttr]
   ·rcases ahS.1 hv with hv|hv
    ·exact hG.ub v hv
    ·rw[ah4.1 hv];exact ul.1
   ·simp(disch:=omega)only[aM,aa,simprocAttr]
  ·simp(disch:=omega)only[aX,aa,simprocAttr,q2,q3,q4,q5,q6,e1,cA,aiJ,aiG,ahW,aH]
   refine⟨_,_,_,so,rfl,⟨?_,?_,?_,g4,?_⟩,hG,hd⟩
   ·simp(disch:=omega)only[aM,aa,simprocAttr,q2]
   ·simp(disch:=omega)only[aM,aa,simprocAttr,q3]
   ·simp(disch:=omega)only[aM,aa,simprocAttr,q5]
   ·simp(disch:=omega)only[aM,aa,simprocAttr,q4]
 ·refine⟨_,_,_,so,rfl,⟨?_,?_,?_,g4,?_⟩,hG,hd,?_,by rw[hu];rfl⟩
  ·simp(disch:=omega)only[aM,aa,simprocAttr,q2]
  ·simp(disch:=omega)only[aM,aa,simprocAttr,q3]
  ·simp(disch:=omega)only[aM,aa,simprocAttr,q5]
  ·simp(disch:=omega)only[aM,aa,simprocAttr,q4]
  ·simp(disch:=omega)only[aM,aa,simprocAttr,aio]
theorem Tr{c:Cc}{p0:Int}{K:ag}(h:CH c p0 K){b:Bool}{s:AS}{Q:bw->AS->Prop}(hs:TX c K b (fun Tt=>Tt.defs=[]) s) :
  W A ((yd.body.post 4).pre 1) s (andThen (fun s=>∃ n:Nat,n<=3/\s.T 7=.int .i64 n/\TX c K b (fun Tt=>Tt.defs=[]) s) Q):=by
 obtain⟨T,p,g,so,rfl,⟨q2,q3,q5,g4,q4⟩,hG,hd⟩:=hs
 unfold yd
 simp only[a7.post,a7.pre]
 have hul:=hG.ul
 cases b with
 | true =>
  obtain⟨x,bs,out,p1,p2,ol,ob,e1,e2,e3⟩:=aaN h p (2+2*so.mF.length) (by omega)
  have en:((2+2*so.mF.length:Nat):Int)=2+2*(so.mF.length:Int):=by omega
  rw[en] at e3
  obtain⟨n,p3,n0,n1,e4⟩:=z7 h p2 4 (by omega)
  simp(disch:=omega)only[aX,aa,simprocAttr,q2,q3,q4,q5,e1,e2,e3,e4,aJ,cO,bV,aix,aiy,ar,cA,aiJ,aiG,ahW,aH]
  refine⟨n.toNat,by omega,?_,_,_,_,{ so with head:=out },rfl,⟨?_,?_,?_,g4,?_⟩,⟨hG.a,hG.ul,hG.ub,hG.dl,hG.db,ol.1,ob,hG.e⟩,hd⟩
  ·rw[ajA n0]
  ·simp(disch:=omega)only[aM,aa,simprocAttr,q2]
  ·simp(disch:=omega)only[aM,aa,simprocAttr,q3]
  ·simp(disch:=omega)only[aM,aa,simprocAttr,q5]
  ·simp(disch:=omega)only[aM,aa,simprocAttr]
 | false =>
  obtain⟨n,p3,n0,n1,e4⟩:=z7 h p 4 (by omega)
  simp(disch:=omega)only[aX,aa,simprocAttr,q2,q3,q4,q5,e4,cA,aiJ,aiG,ahW,aH]
  refine⟨n.toNat,by omega,?_,_,_,_,so,rfl,⟨?_,?_,?_,g4,?_⟩,hG,hd⟩
  ·rw[ajA n0]
  ·simp(disch:=omega)only[aM,aa,simprocAttr,q2]
  ·simp(disch:=omega)only[aM,aa,simprocAttr,q3]
  ·simp(disch:=omega)only[aM,aa,simprocAttr,q5]
  ·simp(disch:=omega)only[aM,aa,simprocAttr,q4]
abbrev pF:a7:=yd.body.sub [true,true,true,true,true,true,true,false,true,false,false,true,false,false]
abbrev AF:Tm:=.mk 0 0 [] [] [] [] [] []
structure J8 (f:Fm):Prop where
 n:isWord f.name=true
 s:∀ u∈f.bu,gb f.kind u=true
 rn:f.rn=[]
 rk:f.rk=[]
 bd:f.body=AF
 ly:f.layout=[]
structure TW (f:Fm):Prop where
 pr:dw f=true
 ln:(dL f).length<=200
 ly:f.layout=[]
structure Dz (f:Fm):Prop where
 pr:dw f=true
 ln:(dL f).length<=200
 ly:f.layout=[]\/(f.layout.length=(dL f).length+1/\tS f.layout)
theorem xU(f:Fm):1<=(dL f).length:=by unfold dL;simp only[List.length_append,List.length_cons];omega
theorem wc{f:Fm}(h:dw f=true):wa f=dL f:=by unfold wa;rw[if_pos h]
theorem wx{f:Fm}(hF:GW 4 f):(aG (f.bu.map (cZ f.kind))).length<=44:=by
 have h1:∀ u∈f.bu,(cZ f.kind u).length<=14:=fun u hu=>qc (hF.sb u hu)
 have h2:=hF.sl
 revert h1 h2
 generalize f.bu=l
 intro h1 h2
 match l with
 | []=>simp[aG]
 | [a]=>have:=h1 a (by simp);simp only[ah1,ah3,aG];omega
 | [a,b] =>
  have:=h1 a (by simp);have:=h1 b (by simp)
  simp only[ah1,ah3,aG,List.length_append,List.length_cons,ahX];omega
 | [a,b,c] =>
  have:=h1 a (by simp);have:=h1 b (by simp);have:=h1 c (by simp)
  simp only[ah1,ah3,aG,List.length_append,List.length_cons,ahX];omega
 | a :: b :: c :: d :: r=>simp at h2
theorem J8.zero{f:Fm}(h:J8 f)(hF:GW 4 f)(hk:f.kind=0\/f.kind=1):TW f where
 pr:=by
  have e:(decide (f.kind=0) || decide (f.kind=1))=true:=by simpa using hk
  unfold dw
  rw[e,h.n,h.rn,h.rk,h.bd,ahU.2 h.s]
  rfl
 ln:=by
  have:=wx hF
  unfold dL
  rw[if_pos hk]
  simp only[List.length_append,List.length_cons,ahX]
  omega
 ly:=h.ly
theorem J8.full{f:Fm}(h:J8 f)(hk:¬ (f.kind=0\/f.kind=1)){w:Wd}{t:Tm}(hw:bE w=true)(ht:bD t=true)(hl:(dL { f with rn:=w.name,rk:=w.kids,body:=t }).length<=200):TW { f with rn:=w.name,rk:=w.kids,body:=t } where
 pr:=by
  have e:(decide (f.kind=0) || decide (f.kind=1))=false:=by
   cases e:(decide (f.kind=0) || decide (f.kind=1)) with
   | false=>rfl
   | true=>exact absurd (by simpa using e) hk
  have ew:bE (.mk w.name w.kids)=true:=by cases w;exact hw
  unfold dw
  simp only
  rw[e,h.n,ahU.2 h.s,ew,ht]
  rfl
 ln:=hl
 ly:=h.ly
theorem yh{f:Fm}(hF:GW 4 f){w:Wd}{u:Tm}(hw:wP 3 w)(hu:yU 4 1 u):(dL { f with rn:=w.name,rk:=w.kids,body:=u }).length<=200:=by
 have h1:=wx hF
 have h2:=oX 1 u (yU.le (by omega) 1 1 u (ahQ _) hu)
 have h3:=iK 3 w hw
 have e:dh (.mk w.name w.kids)=dh w:=by cases w;rfl
 have hb:bT 1=60:=rfl
 unfold dL
 simp only
 split
 ·simp only[List.length_append,List.length_cons,ahX];omega
 ·simp only[List.length_append,List.length_cons,ahX,e];omega
theorem YM:yU 4 5 AF:=HO (by omega) (by omega) (by decide)
theorem K8{c:Cc}{p0:Int}{K:ag}(h:CH c p0 K){so:So}{b:Bool}{many i:Int}{T:aA}{p:Int}{g:Nat}{Q:bw->AS->Prop}(hs:SA c so b T)(h7:T 7=.int .i64 many)(h8:T 8=.int .i64 i) :
  W A (pF.pre 1) ⟨T,bY c p K,c.mm,g⟩ (andThen (TV c K so b many i (fun f T=>J8 f/\f.bu=[]/\∃ n:Nat,n<=3/\T 10=.int .i64 n)) Q):=by
 obtain⟨q2,q3,q5,g4,q4⟩:=hs
 unfold pF yd
 simp only[a7.sub,a7.pre]
 obtain⟨k,p1,k0,k1,e1⟩:=z7 h p 6 (by omega)
 obtain⟨u,p2,ul,e2⟩:=Hy h p1
 obtain⟨n,p3,n0,n1,e3⟩:=z7 h p2 4 (by omega)
 simp(disch:=omega)only[aX,aa,simprocAttr,q2,q3,q4,q5,e1,e2,e3,cD,cA,aiJ,aiG,ahW,aH]
 refine⟨_,_,_,⟨k,u,[],[],[],AF,[]⟩,rfl,⟨⟨?_,?_,?_,g4,?_⟩,?_,?_,g,true,true,true,?_⟩,⟨by simp only;omega,ul.1,by simp,by simp,iM,YM,by simp,by simp⟩,⟨ul.2,by simp,rfl,rfl,rfl,rfl⟩,rfl,n.toNat,by omega,?_⟩
 ·simp(disch:=omega)only[aM,aa,simprocAttr,q2]
 ·simp(disch:=omega)only[aM,aa,simprocAttr,q3]
 ·simp(disch:=omega)only[aM,aa,simprocAttr,q5]
 ·simp(disch:=omega)only[aM,aa,simprocAttr,q4]
 ·simp(disch:=omega)only[aM,aa,simprocAttr,h7]
 ·simp(disch:=omega)only[aM,aa,simprocAttr,h8]
 ·simp(disch:=omega)only[aM,aa,simprocAttr,AF,Tm.kind,Tm.n,Tm.name,Tm.field,Tm.wn,Tm.wk,Tm.kids,Tm.names,aO,aK,oW,ah3]
 ·simp(disch:=omega)only[aM,aa,simprocAttr,ajA n0]
theorem K7{c:Cc}{p0:Int}{K:ag}(h:CH c p0 K){so:So}{b:Bool}{many i:Int}{s:AS}{Q:bw->AS->Prop}(hs:TV c K so b many i (fun f T=>J8 f/\f.bu=[]/\∃ n:Nat,n<=3/\T 10=.int .i64 n) s) :
  W A ((pF.post 1).pre 0) s (andThen (TV c K so b many i (fun f _=>J8 f)) Q):=by
 obtain⟨T,p,g,f,rfl,⟨⟨q2,q3,q5,g4,q4⟩,q7,q8,g9,o1,o2,o3,q9⟩,hF,hW,tC,n,hn,XE⟩:=hs
 unfold pF yd
 simp only[a7.sub,a7.pre,a7.post]
 simp(disch:=omega)only[aX,aa,simprocAttr,q2,q3,q4,q5]
 refine bP n 4 (fun j s=>∃ T p g f,s=⟨T,bY c p K,c.mm,g⟩/\FA c so b many i f T/\GW 4 f/\J8 f/\T 10=.int .i64 n/\T 11=.int .i64 j/\f.bu.length=j)
  (TV c K so b many i (fun f _=>J8 f)) (fun _=>False) ?_ (fun s hs=>hs) (fun _ h=>h.elim) 0 _ (by omega) ?_
 ·rintro j s hj ⟨T,p,g,f,rfl,⟨⟨q2,q3,q5,g4,q4⟩,q7,q8,g9,o1,o2,o3,q9⟩,hF,hW,XE,q11,hl⟩
  by_cases hc:j<n
  ·obtain⟨u,p1,ul,e1⟩:=Hy h p
   obtain⟨w,p2,wb,e2⟩:=UA h p1
   obtain⟨m,p3,m0,m1,e3⟩:=z7 h p2 12 (by omega)
   have fin:∀ (T' : aA) (p' : Int) (g' : Nat) (x:Int),0<=x->x<12->(f.kind=4\/x=0)->SA c so b T'->T' 7=.int .i64 many->T' 8=.int .i64 i->T' 10=.int .i64 n->T' 11=.int .i64 ((j:Int)+1) ->
     T' 9=.lbox g9 [.int .i64 f.kind,.str f.name,.slice ((f.bu++[Fd.mk u w.name w.kids x]).map gk) true,.str f.rn,.slice (aO f.rk) o1,.int .i64 f.body.kind,.int .i64 f.body.n,.str f.body.name,.str f.body.field,.str f.body.wn,.slice (aO f.body.wk) o2,.slice (aK f.body.kids) o2,.slice (strs f.body.names) o2,.slice (strs f.layout) o3] ->
     j<n/\∃ T p g f,(⟨T',bY c p' K,c.mm,g'⟩:AS)=⟨T,bY c p K,c.mm,g⟩/\FA c so b many i f T/\GW 4 f/\J8 f/\T 10=.int .i64 n/\T 11=.int .i64 ((j:Int)+1)/\f.bu.length=j+1:=by
    intro T' p' g' x x0 x1 x4 Ps r7 r8 r10 r11 r9
    refine⟨hc,_,_,_,{ f with bu:=f.bu++[Fd.mk u w.name w.kids x] },rfl,⟨Ps,r7,r8,g9,o1,o2,o3,r9⟩,⟨hF.k,hF.a,by simp;omega,fun v hv=>?_,hF.w,hF.b,hF.ll,hF.lb⟩,⟨hW.n,fun v hv=>?_,hW.rn,hW.rk,hW.bd,hW.ly⟩,r10,r11,by simp[hl]⟩
    ·rcases ahS.1 hv with hv|hv
     ·exact hF.sb v hv
     ·rw[ah4.1 hv];exact⟨ul.1,by cases w;exact wb.1,by simp only;omega⟩
    ·rcases ahS.1 hv with hv|hv
     ·exact hW.s v hv
     ·rw[ah4.1 hv]
      have ew:bE (.mk w.name w.kids)=true:=by cases w;exact wb.2
      unfold gb
      simp only
      rw[ul.2,ew,decide_eq_true x0,decide_eq_true (show x<=1099511627776 by omega)]
      simpa using x4
   by_cases h4:f.kind=4
   ·have a1:an false 4 64 (.slice (f.bu.map gk) true) (.slice [[.str u,.str w.name,.slice (aO w.kids) false,.int .i64 m]] true)=some (.slice ((f.bu++[Fd.mk u w.name w.kids m]).map gk) true):=Kj (l:=f.bu) (u:=Fd.mk u w.name w.kids m) (by omega)
    simp(disch:=omega)only[aX,aa,simprocAttr,q2,q3,q4,q5,q7,q8,q9,XE,q11,e1,e2,e3,a1,cD,cO,bV,aix,aiy,ar,cA,aiJ,aiG,ahW,aH]
    refine fin _ _ _ m m0 m1 (.inl h4) ⟨?_,?_,?_,g4,?_⟩ ?_ ?_ ?_ ?_ ?_
    ·simp(disch:=omega)only[aM,aa,simprocAttr,q2]
    ·simp(disch:=omega)only[aM,aa,simprocAttr,q3]
    ·simp(disch:=omega)only[aM,aa,simprocAttr,q5]
    ·simp(disch:=omega)only[aM,aa,simprocAttr,q4]
    ·simp(disch:=omega)only[aM,aa,simprocAttr,q7]
    ·simp(disch:=omega)only[aM,aa,simprocAttr,q8]
    ·simp(disch:=omega)only[aM,aa,simprocAttr,XE]
    ·simp(disch:=omega)only[aM,aa,simprocAttr]
    ·simp(disch:=omega)only[aM,aa,simprocAttr]
   ·have a1:an false 4 64 (.slice (f.bu.map gk) true) (.slice [[.str u,.str w.name,.slice (aO w.kids) false,.int .i64 0]] true)=some (.slice ((f.bu++[Fd.mk u w.name w.kids 0]).map gk) true):=Kj (l:=f.bu) (u:=Fd.mk u w.name w.kids 0) (by omega)
    simp(disch:=omega)only[aX,aa,simprocAttr,q2,q3,q4,q5,q7,q8,q9,XE,q11,e1,e2,a1,cD,cO,bV,aix,aiy,ar,cA,aiJ,aiG,ahW,aH]
    refine fin _ _ _ 0 (by omega) (by omega) (.inr rfl) ⟨?_,?_,?_,g4,?_⟩ ?_ ?_ ?_ ?_ ?_
    ·simp(disch:=omega)only[aM,aa,simprocAttr,q2]
    ·simp(disch:=omega)only[aM,aa,simprocAttr,q3]
    ·simp(disch:=omega)only[aM,aa,simprocAttr,q5]
    ·simp(disch:=omega)only[aM,aa,simprocAttr,q4]
    ·simp(disch:=omega)only[aM,aa,simprocAttr,q7]
    ·simp(disch:=omega)only[aM,aa,simprocAttr,q8]
    ·simp(disch:=omega)only[aM,aa,simprocAttr,XE]
    ·simp(disch:=omega)only[aM,aa,simprocAttr]
    ·simp(disch:=omega)only[aM,aa,simprocAttr]
  ·simp(disch:=omega)only[aX,aa,simprocAttr,q2,q3,q4,q5,XE,q11,cA,aiJ,aiG,ahW,aH]
   refine⟨_,_,_,f,rfl,⟨⟨?_,?_,?_,g4,?_⟩,?_,?_,g9,o1,o2,o3,?_⟩,hF,hW⟩
   ·simp(disch:=omega)only[aM,aa,simprocAttr,q2]
   ·simp(disch:=omega)only[aM,aa,simprocAttr,q3]
   ·simp(disch:=omega)only[aM,aa,simprocAttr,q5]
   ·simp(disch:=omega)only[aM,aa,simprocAttr,q4]
   ·simp(disch:=omega)only[aM,aa,simprocAttr,q7]
   ·simp(disch:=omega)only[aM,aa,simprocAttr,q8]
   ·simp(disch:=omega)only[aM,aa,simprocAttr,q9]
 ·refine⟨_,_,_,f,rfl,⟨⟨?_,?_,?_,g4,?_⟩,?_,?_,g9,o1,o2,o3,?_⟩,hF,hW,?_,?_,by rw[tC];rfl⟩
  ·simp(disch:=omega)only[aM,aa,simprocAttr,q2]
  ·simp(disch:=omega)only[aM,aa,simprocAttr,q3]
  ·simp(disch:=omega)only[aM,aa,simprocAttr,q5]
  ·simp(disch:=omega)only[aM,aa,simprocAttr,q4]
  ·simp(disch:=omega)only[aM,aa,simprocAttr,q7]
  ·simp(disch:=omega)only[aM,aa,simprocAttr,q8]
  ·simp(disch:=omega)only[aM,aa,simprocAttr,q9]
  ·simp(disch:=omega)only[aM,aa,simprocAttr,XE]
  ·simp(disch:=omega)only[aM,aa,simprocAttr,aio]
theorem P'{c:Cc}{p0:Int}{K:ag}(h:CH c p0 K){so:So}{b:Bool}{many i:Int}{s:AS}{Q:bw->AS->Prop}(hs:TV c K so b many i (fun f _=>J8 f) s) :
  W A ((pF.post 2).pre 0) s (andThen (TV c K so b many i (fun f _=>TW f)) Q):=by
 obtain⟨T,p,g,f,rfl,⟨⟨q2,q3,q5,g4,q4⟩,q7,q8,g9,o1,o2,o3,q9⟩,hF,hW⟩:=hs
 unfold pF yd
 simp only[a7.sub,a7.pre,a7.post]
 have fin:∀ (T' : aA) (p' : Int) (g' : Nat) (f' : Fm) (o1 o2:Bool),T' 2=.lbox 0 [.str [],.slice [] true,.slice [] true,.slice [] true,.str []]->T' 3=.ref c.mm 0->T' 5=.bool b->T' 4=.lbox g4 [.str so.name,.slice (strs so.mF) true,.slice (so.defs.map jR) true,.slice (strs so.head) true,.str so.fin]->T' 7=.int .i64 many->T' 8=.int .i64 i ->
   T' 9=.lbox g9 [.int .i64 f'.kind,.str f'.name,.slice (f'.bu.map gk) true,.str f'.rn,.slice (aO f'.rk) o1,.int .i64 f'.body.kind,.int .i64 f'.body.n,.str f'.body.name,.str f'.body.field,.str f'.body.wn,.slice (aO f'.body.wk) o2,.slice (aK f'.body.kids) o2,.slice (strs f'.body.names) o2,.slice (strs f'.layout) o3]->GW 4 f'->TW f'->TV c K so b many i (fun f _=>TW f) ⟨T',bY c p' K,c.mm,g'⟩ :=
  fun T' p' g' f' o1 o2 r2 r3 r5 r4 r7 r8 r9 hf hx=>⟨_,_,_,f',rfl,⟨⟨r2,r3,r5,g4,r4⟩,r7,r8,g9,o1,o2,o3,r9⟩,hf,hx⟩
 by_cases k0:f.kind=0
 ·simp(disch:=omega)only[aX,aa,simprocAttr,q2,q3,q4,q5,q9,cO,bV,aix,aiy,ar,cA,aiJ,aiG,ahW,aH]
  refine fin _ _ _ f o1 o2 ?_ ?_ ?_ ?_ ?_ ?_ ?_ hF (hW.zero hF (.inl k0))
  all_goals simp(disch:=omega)only[aM,aa,simprocAttr,q2,q3,q4,q5,q7,q8,q9]
 by_cases k1:f.kind=1
 ·simp(disch:=omega)only[aX,aa,simprocAttr,q2,q3,q4,q5,q9,cO,bV,aix,aiy,ar,cA,aiJ,aiG,ahW,aH]
  refine fin _ _ _ f o1 o2 ?_ ?_ ?_ ?_ ?_ ?_ ?_ hF (hW.zero hF (.inr k1))
  all_goals simp(disch:=omega)only[aM,aa,simprocAttr,q2,q3,q4,q5,q7,q8,q9]
 obtain⟨w,p1,wb,e1⟩:=UA h p
 obtain⟨t,p2,tb,e2⟩:=UN h p1 4 (by omega)
 rw[show ((4:Nat):Int)=4 from rfl] at e2
 obtain⟨u,p3,ub,e3⟩:=UN h p2 0 (by omega)
 rw[show ((0:Nat):Int)=0 from rfl] at e3
 have tX:GW 4 { f with rn:=w.name,rk:=w.kids,body:=t }:=⟨hF.k,hF.a,hF.sl,hF.sb,by cases w;exact wb.1,tb.1,hF.ll,hF.lb⟩
 have BZ:GW 4 { f with rn:=w.name,rk:=w.kids,body:=u }:=⟨hF.k,hF.a,hF.sl,hF.sb,by cases w;exact wb.1,ub.1,hF.ll,hF.lb⟩
 have e4:=Ar (tX.B (by omega)) (bY c p2 K)
 rw[jR] at e4
 simp only at e4
 simp(disch:=omega)only[aX,aa,simprocAttr,q2,q3,q4,q5,q9,e1,e2,e4,aJ,cO,bV,aix,aiy,ar,cA,aiJ,aiG,ahW,aH]
 refine iH ?_ ?_<;>intro hlen
 ·simp(disch:=omega)only[aX,aa,simprocAttr,q2,q3,q4,q5,q9,e3,cO,bV,aix,aiy,ar,cA,aiJ,aiG,ahW,aH]
  refine fin _ _ _ { f with rn:=w.name,rk:=w.kids,body:=u } false false ?_ ?_ ?_ ?_ ?_ ?_ ?_ BZ (hW.full (by omega) wb.2 ub.2.1 (yh hF wb.1 ub.2.2))
  all_goals simp(disch:=omega)only[aM,aa,simprocAttr,q2,q3,q4,q5,q7,q8,q9]
 ·simp(disch:=omega)only[aX,aa,simprocAttr,q2,q3,q4,q5,q9,cO,bV,aix,aiy,ar,cA,aiJ,aiG,ahW,aH]
  have hX:TW { f with rn:=w.name,rk:=w.kids,body:=t }:=by
   refine hW.full (by omega) wb.2 tb.2.1 ?_
   have hx:TW { f with rn:=w.name,rk:=w.kids,body:=u }:=hW.full (by omega) wb.2 ub.2.1 (yh hF wb.1 ub.2.2)
   have hp:dw { f with rn:=w.name,rk:=w.kids,body:=t }=true:=by
    have e0:=hx.pr
    unfold dw at e0 ⊢
    have e:(decide (f.kind=0) || decide (f.kind=1))=false:=by simp[k0,k1]
    simp only[e,ahW,ahR] at e0 ⊢
    exact⟨e0.1,e0.2.1,tb.2.1⟩
   rw[wc hp] at hlen
   simp only[Int.not_lt] at hlen
   omega
  refine fin _ _ _ { f with rn:=w.name,rk:=w.kids,body:=t } false false ?_ ?_ ?_ ?_ ?_ ?_ ?_ tX hX
  all_goals simp(disch:=omega)only[aM,aa,simprocAttr,q2,q3,q4,q5,q7,q8,q9]
def J6(c:Cc)(K:ag)(b:Bool)(many i:Int)(nd:Nat)(s:AS):Prop:=∃ T p g so,s=⟨T,bY c p K,c.mm,g⟩/\SA c so b T/\HS 4 so/\(∀ f∈so.defs,Dz f)/\T 7=.int .i64 many/\T 8=.int .i64 i/\so.defs.length=nd
theorem VD{c:Cc}{p0:Int}{K:ag}(h:CH c p0 K){so:So}(hG:HS 4 so)(hV:∀ f∈so.defs,Dz f)(hd:so.defs.length<3){b:Bool}{many i:Int}{s:AS}{R:AS->Prop}{Q:bw->AS->Prop}(hs:TV c K so b many i (fun f _=>TW f) s)
  (hR:∀ s',J6 c K b many i (so.defs.length+1) s'->R s'):W A (pF.post 3) s (andThen R Q):=by
 obtain⟨T,p,g,f,rfl,⟨⟨q2,q3,q5,g4,q4⟩,q7,q8,g9,o1,o2,o3,q9⟩,hF,hX⟩:=hs
 unfold pF yd
 simp only[a7.sub,a7.pre,a7.post]
 have pd:∀ f',GW 4 f'->HS 4 { so with defs:=so.defs++[f'] }:=fun f' hf=>⟨hG.a,hG.ul,hG.ub,by simp;omega,fun v hv=>by
  rcases ahS.1 hv with hv|hv
  ·exact hG.db v hv
  ·rw[ah4.1 hv];exact hf,hG.hl,hG.hb,hG.e⟩
 have fin:∀ (T' : aA) (p' : Int) (g' : Nat) (f' : Fm),GW 4 f'->Dz f'->T' 2=.lbox 0 [.str [],.slice [] true,.slice [] true,.slice [] true,.str []]->T' 3=.ref c.mm 0->T' 5=.bool b->T' 4=.lbox g4 [.str so.name,.slice (strs so.mF) true,.slice ((so.defs++[f']).map jR) true,.slice (strs so.head) true,.str so.fin]->T' 7=.int .i64 many->T' 8=.int .i64 i->R ⟨T',bY c p' K,c.mm,g'⟩ :=
  fun T' p' g' f' hf hv r2 r3 r5 r4 r7 r8=>hR _ ⟨_,_,_,{ so with defs:=so.defs++[f'] },rfl,⟨r2,r3,r5,g4,r4⟩,pd f' hf,fun v nW=>by
   rcases ahS.1 nW with nW|nW
   ·exact hV v nW
   ·rw[ah4.1 nW];exact hv,r7,r8,by simp⟩
 cases b with
 | false =>
  have a1:=Kk (l:=so.defs) (f:=f) (o:=true) (by omega)
  simp(disch:=omega)only[aX,aa,simprocAttr,q2,q3,q4,q5,q9,a1,cO,bV,aix,aiy,ar,cA,aiJ,aiG,ahW,aH]
  refine fin _ _ _ f hF ⟨hX.pr,hX.ln,.inl hX.ly⟩ ?_ ?_ ?_ ?_ ?_ ?_
  all_goals simp(disch:=omega)only[aM,aa,simprocAttr,q2,q3,q4,q5,q7,q8,q9]
 | true =>
  have hB:=hF.B (by omega)
  have e4:=Ar hB (bY c p K)
  rw[jR] at e4
  obtain⟨x,bs,out,p1,p2,ol,ob,e1,e2,e3⟩:=aaN h p (wa f).length (by have:=JF hB;omega)
  have a1:=Kk (l:=so.defs) (f:={ f with layout:=out }) (o:=true) (by omega)
  simp only at a1
  simp(disch:=omega)only[aX,aa,simprocAttr,q2,q3,q4,q5,q9,e1,e2,e3,e4,aJ,a1,cO,bV,aix,aiy,ar,cA,aiJ,aiG,ahW,aH]
  refine fin _ _ _ { f with layout:=out } ⟨hF.k,hF.a,hF.sl,hF.sb,hF.w,hF.b,by simp only;have:=ol.1;omega,ob⟩ ⟨hX.pr,hX.ln,.inr ⟨by rw[wc hX.pr] at ol;have:=xU f;have:=ol.2.1;show out.length=_;rw[show dL { f with layout:=out }=dL f from rfl];omega,ol.2.2⟩⟩ ?_ ?_ ?_ ?_ ?_ ?_
  all_goals simp(disch:=omega)only[aM,aa,simprocAttr,q2,q3,q4,q5,q7,q8,q9]
theorem mZ:∀ (n:Nat) (c:a7),(c.post n).post 0=c.post (n+1)
 | 0,.seq a b=>by cases b<;>rfl
 | n+1,.seq a b=>mZ n b
 | n,.skip|n,.region ..|n,.wU ..|n,.cond ..|n,.block ..|n,.loop ..|n,.exit ..|n,.ret=>by cases n<;>rfl
theorem VC{c:Cc}{p0:Int}{K:ag}(h:CH c p0 K){so:So}(hG:HS 4 so)(hV:∀ f∈so.defs,Dz f)(hd:so.defs.length<3){b:Bool}{many i:Int}{T:aA}{p:Int}{g:Nat}{R:AS->Prop}{Q:bw->AS->Prop}(hs:SA c so b T)(h7:T 7=.int .i64 many)(h8:T 8=.int .i64 i)
  (hR:∀ s',J6 c K b many i (so.defs.length+1) s'->R s'):W A pF ⟨T,bY c p K,c.mm,g⟩ (andThen R Q):=by
 refine gI 1 _ (K8 h hs h7 h8) fun s1 h1=>?_
 refine gI 0 _ (K7 h h1) fun s2 h2=>?_
 rw[mZ]
 refine gI 0 _ (P' h h2) fun s3 h3=>?_
 rw[mZ]
 exact VD h hG hV hd h3 hR
theorem Tq{c:Cc}{p0:Int}{K:ag}(h:CH c p0 K){b:Bool}{s:AS}{Q:bw->AS->Prop}(hs:∃ n:Nat,n<=3/\s.T 7=.int .i64 n/\TX c K b (fun Tt=>Tt.defs=[]) s) :
  W A ((yd.body.post 6).pre 0) s (andThen (TX c K b (fun so=>∀ f∈so.defs,Dz f)) Q):=by
 obtain⟨n,hn,q7,T,p,g,so,rfl,⟨q2,q3,q5,g4,q4⟩,hG,hd⟩:=hs
 unfold yd
 simp only[a7.post,a7.pre]
 simp only at q7
 simp(disch:=omega)only[aX,aa,simprocAttr]
 have NS:∀ {T:aA} {T' : aA},SA c so b T->T' 2=T 2->T' 3=T 3->T' 4=T 4->T' 5=T 5->SA c so b T':=fun h a2 a3 a4 a5=>by
  obtain⟨q2,q3,q5,g4,q4⟩:=h
  exact⟨a2.trans q2,a3.trans q3,a5.trans q5,g4,a4.trans q4⟩
 refine bP n 2 (fun i s=>J6 c K b n i i s) (TX c K b (fun so=>∀ f∈so.defs,Dz f)) (fun _=>False) ?_ (fun s hs=>hs) (fun _ h=>h.elim) 0 _ (by omega) ?_
 ·rintro i s hi ⟨T,p,g,so,rfl,Ps,hG,hV,q7,q8,hl⟩
  have NS:∀ {T T' : aA} {so:So},SA c so b T->T' 2=T 2->T' 3=T 3->T' 4=T 4->T' 5=T 5->SA c so b T':=fun h a2 a3 a4 a5=>by
   obtain⟨q2,q3,q5,g4,q4⟩:=h
   exact⟨a2.trans q2,a3.trans q3,a5.trans q5,g4,a4.trans q4⟩
  by_cases hc:i<n
  ·refine Ka (fun s'=>∃ T g,s'=⟨T,bY c p K,c.mm,g⟩/\SA c so b T/\T 7=.int .i64 n/\T 8=.int .i64 i) ?_ ?_
   ·simp(disch:=omega)only[aX,aa,simprocAttr,q7,q8]
    refine⟨_,_,rfl,NS Ps ?_ ?_ ?_ ?_,?_,?_⟩
    all_goals simp(disch:=omega)only[aM,aa,simprocAttr,q7,q8]
   ·rintro s' ⟨T,g,rfl,Ps,q7,q8⟩
    refine Ka (J6 c K b n i (i+1)) ?_ ?_
    ·rw[G1]
     refine r6 (c:=pF) (VC h hG hV (by omega) Ps q7 q8 (R:=J6 c K b n i (i+1)) (Q:=fun _ _=>False) (fun s h=>by rw[hl] at h;exact h)) ?_
     intro e s hs
     cases e with
     | normal=>exact hs
     | _=>exact hs.elim
    ·rintro s' ⟨T,p,g,so,rfl,Ps,hG,hV,q7,q8,hl⟩
     simp(disch:=omega)only[aX,aa,simprocAttr,q7,q8]
     refine⟨hc,_,_,_,so,rfl,NS Ps ?_ ?_ ?_ ?_,hG,hV,?_,?_,hl⟩
     all_goals simp(disch:=omega)only[aM,aa,simprocAttr,q7,q8]
  ·simp(disch:=omega)only[aX,aa,simprocAttr,q7,q8]
   refine⟨_,_,_,so,rfl,NS Ps ?_ ?_ ?_ ?_,hG,hV⟩
   all_goals simp(disch:=omega)only[aM,aa,simprocAttr]
 ·refine⟨_,_,_,so,rfl,NS ⟨q2,q3,q5,g4,q4⟩ ?_ ?_ ?_ ?_,hG,(by rw[hd];simp),?_,?_,by rw[hd];rfl⟩
  all_goals simp(disch:=omega)only[aM,aa,simprocAttr,q7,aio]
theorem acr{x:Int}(h0:0<=x)(h1:x<4):∃ s:aV,s.length<=20/\([[.str []],[.str [32]],[.str [35,32,101,110,100]],[.str [10,10]]]:List (List AV))[x.toNat]?=some [.str s]:=by
 have:x.toNat=0\/x.toNat=1\/x.toNat=2\/x.toNat=3:=by omega
 rcases this with e|e|e|e<;>rw[e]<;>exact⟨_,by decide,rfl⟩
theorem OQ{c:Cc}{K:ag}(h:CH c 0 K)(hK:K.take c.mm=K.take c.mm){b:Bool}{s:AS}(hs:TX c K b (fun so=>∀ f∈so.defs,Dz f) s) :
  W A (yd.body.post 7) s (uV c.mm [.cell 2 true 5] fun x=>∃ so,(HS 4 so/\∀ f∈so.defs,Dz f)/\(lR x.1,x.2)=(.agg (PN so),none)):=by
 obtain⟨T,p,g,so,rfl,⟨q2,q3,q5,g4,q4⟩,hG,hV⟩:=hs
 unfold yd
 simp only[a7.post]
 have NVr:=@gC
 cases b with
 | true =>
  obtain⟨x,p1,x0,x1,e1⟩:=z7 h p 4 (by omega)
  obtain⟨e,el,ee⟩:=acr x0 x1
  simp(disch:=omega)only[aX,aa,simprocAttr,q2,q3,q4,q5,e1,ee,cO,bV,aix,aiy,ar,cA,aiJ,aiG,ahW,aH,cd,ah1,ah3,cQ,cc,cb,cH,cI,cP,cG,dH,gC,UE]
  exact⟨{ so with fin:=e },⟨⟨hG.a,hG.ul,hG.ub,hG.dl,hG.db,hG.hl,hG.hb,el⟩,hV⟩,rfl⟩
 | false =>
  simp(disch:=omega)only[aX,aa,simprocAttr,q2,q3,q4,q5,cO,bV,aix,aiy,ar,cA,aiJ,aiG,ahW,aH,cd,ah1,ah3,cQ,cc,cb,cH,cI,cP,cG,dH,gC,UE]
  exact⟨so,⟨hG,hV⟩,rfl⟩
theorem C5(l:List Int)(hl:∀ n∈l,AG n)(H:ag):∃ so,(HS 4 so/\∀ f∈so.defs,Dz f)/\aB A 5 [.slice (ints l) false] H=some (.agg (PN so),none):=by
 have key:∃ r,aB A 5 [.slice (ints l) false] H=some r/\∃ so,(HS 4 so/\∀ f∈so.defs,Dz f)/\r=(.agg (PN so),none):=by
  obtain⟨c,hc⟩:∃ c:Cc,c=⟨H.length,l⟩:=⟨_,rfl⟩
  obtain⟨K,hK⟩:∃ K,K=H++[.box 55 [.slice (ints l) false,.int .i64 0]]:=⟨_,rfl⟩
  have YU:c.mm=H.length:=by rw[hc]
  have h:CH c 0 K:=⟨by rw[YU,hK];rw[hc];exact dO,by rw[hc];exact hl,by rw[YU,hK];simp⟩
  have hs0:bY c 0 K=K:=by
   unfold bY
   refine ajo fun j=>?_
   rw[aiI]
   split
   ·rename_i e;subst e;rw[if_pos h.lt,h.h0]
   ·rfl
  obtain⟨u,p1,ul,e1⟩:=Hy h 0
  rw[hs0] at e1
  obtain⟨x,p2,x0,x1,e2⟩:=z7 h p1 2 (by omega)
  refine la (fn:=yd) rfl rfl rfl rfl ?_
  rw[<- YU]
  refine gI 3 (fun s=>∃ T p g b so,s=⟨T,bY c p K,c.mm,g⟩/\SA c so b T/\HS 4 so/\so.mF=[]/\so.defs=[]) ?_ ?_
  ·unfold yd
   simp only[a7.pre]
   have hK' : H++[dm.box 55 [.slice (ints l) false,.int .i64 0]]=K:=hK.symm
   simp(disch:=omega)only[aX,aa,simprocAttr,<- YU,hK',e1,e2,cD,cA,aiJ,aiG,ahW,aH]
   refine⟨_,_,_,x==1,⟨u,[],[],[],[]⟩,rfl,⟨?_,?_,?_,1,?_⟩,⟨ul.1,by simp,by simp,by simp,by simp,by simp,by simp,by simp⟩,rfl,rfl⟩
   all_goals simp(disch:=omega)only[aM,aa,simprocAttr,oW,ah3]
  ·rintro s ⟨T,p,g,b,so,rfl,Ps,hG,hu,hd⟩
   refine gI 0 _ (Ts h Ps hG hu hd) fun s1 h1=>?_
   rw[mZ]
   refine gI 1 _ (Tr h h1) fun s2 h2=>?_
   have e:(yd.body.post 4).post 1=yd.body.post 6:=rfl
   rw[e]
   refine gI 0 _ (Tq h h2) fun s3 h3=>?_
   rw[mZ]
   exact OQ h rfl h3
 obtain⟨r,h1,so,h2,rfl⟩:=key
 exact⟨so,h2,h1⟩
end Go.Proofs.YtocbgffdpfiidaaGreatDoor
