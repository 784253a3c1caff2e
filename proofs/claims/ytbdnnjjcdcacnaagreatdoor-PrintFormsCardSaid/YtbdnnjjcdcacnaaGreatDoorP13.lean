/-
  A part of the proof of PrintForms: F20, F21, F22, F23, F24, F25, F26, F27, F28, F29, F30, F31, F32.
-/
import Derived.Test.YtbdnnjjcdcacnaaGreatDoorP12
set_option linter.unusedSimpArgs false
set_option linter.unusedVariables false
set_option linter.defProp false
set_option maxHeartbeats 1000000
set_option maxRecDepth 100000
namespace Go.Proofs.YtbdnnjjcdcacnaaGreatDoor
open Go Go.Abs Go.Proofs
section
section
variable {t:Tm}{h:Nat}(hF:u9 h t)(hO:zV t)(hK:∀ u∈t.kids,qv u)(H:ah)
include hF hO hK
theorem tk6(hk:t.kind=6):aD A 40 [.agg (cE t)] H=some (.slice (strs (ay t)) true,none):=by
 have _:=hF
 have hc:=fO hO (c1:=2) (c2:=1) (by rw[hk];rfl)
 have hl:=hc.2.1 (by omega)
 have qk:=hc.2.2
 obtain⟨x,y,fV⟩:=GQ (show t.kids.length=2 by omega)
 obtain⟨s,pB⟩:=GP (show t.names.length=1 by omega)
 have hx:=hK x (by rw[fV];simp)
 have dx:=hx.d H
 have lx:=hx.len
 have hy:=hK y (by rw[fV];simp)
 have dy:=hy.d H
 have ly:=hy.len
 have kt:au t.kids=[[.int .i64 x.kind,.int .i64 x.n,.str x.name,.str x.field,.str x.wn,.slice (az x.wk) false,.slice (au x.kids) false,.slice (strs x.names) false],[.int .i64 y.kind,.int .i64 y.n,.str y.name,.str y.field,.str y.wn,.slice (az y.wk) false,.slice (au y.kids) false,.slice (strs y.names) false]]:=by
  rw[fV,au,au,au,an,an]
 have nt:strs t.names=[[.str s]]:=by rw[pB];rfl
 rw[an] at dx dy
 have a1:aC false 1 16 (.slice [[.str [108,101,116]],[.str s],[.str [61]]] true) (.slice (strs (ay x)) true)=some (.slice (strs ([[108,101,116],s,[61]]++ay x)) true):=cb (l:=[[108,101,116],s,[61]]) (by simp;omega)
 have a2:aC false 1 16 (.slice (strs ([[108,101,116],s,[61]]++ay x)) true) (.slice [[.str [105,110]]] true)=some (.slice (strs ([[108,101,116],s,[61]]++ay x++[[105,110]])) true):=fj (by simp;omega)
 have a3:aC false 1 16 (.slice (strs ([[108,101,116],s,[61]]++ay x++[[105,110]])) true) (.slice (strs (ay y)) true)=some (.slice (strs ([[108,101,116],s,[61]]++ay x++[[105,110]]++ay y)) true):=cb (by simp;omega)
 have e:ay t=[[108,101,116],s,[61]]++ay x++[[105,110]]++ay y:=by
  rw[cu,hk,fV,pB];rfl
 rw[e,an]
 generalize [[108,101,116],s,[61]]++ay x++[[105,110]]++ay y=q3 at a3 ⊢
 generalize [[108,101,116],s,[61]]++ay x++[[105,110]]=q2 at a2 a3
 generalize [[108,101,116],s,[61]]++ay x=q1 at a1 a2
 refine aB (fn:=ku) rfl rfl rfl ?_
 unfold ku
 rw[kt,nt]
 simp(disch:=omega)only[aP,aa,simprocAttr,hk,dx,dy,a1,a2,a3]
theorem ajv(hk:t.kind=12):aD A 40 [.agg (cE t)] H=some (.slice (strs (ay t)) true,none):=by
 have _:=hF
 have hc:=fO hO (c1:=3) (c2:=2) (by rw[hk];rfl)
 have hl:=hc.2.1 (by omega)
 have qk:=hc.2.2
 obtain⟨x,y,z,fV⟩:=Rx (show t.kids.length=3 by omega)
 obtain⟨s,u,pB⟩:=GQ (show t.names.length=2 by omega)
 have hx:=hK x (by rw[fV];simp)
 have dx:=hx.d H
 have lx:=hx.len
 have hy:=hK y (by rw[fV];simp)
 have dy:=hy.d H
 have ly:=hy.len
 have hz:=hK z (by rw[fV];simp)
 have dz:=hz.d H
 have lz:=hz.len
 have kt:au t.kids=[[.int .i64 x.kind,.int .i64 x.n,.str x.name,.str x.field,.str x.wn,.slice (az x.wk) false,.slice (au x.kids) false,.slice (strs x.names) false],[.int .i64 y.kind,.int .i64 y.n,.str y.name,.str y.field,.str y.wn,.slice (az y.wk) false,.slice (au y.kids) false,.slice (strs y.names) false],[.int .i64 z.kind,.int .i64 z.n,.str z.name,.str z.field,.str z.wn,.slice (az z.wk) false,.slice (au z.kids) false,.slice (strs z.names) false]]:=by
  rw[fV,au,au,au,au,an,an,an]
 have nt:strs t.names=[[.str s],[.str u]]:=by rw[pB];rfl
 rw[an] at dx dy dz
 have a1:aC false 1 16 (.slice [[.str [102,111,108,100]],[.str s],[.str [44]],[.str u],[.str [61]]] true) (.slice (strs (ay y)) true)=some (.slice (strs ([[102,111,108,100],s,[44],u,[61]]++ay y)) true):=cb (l:=[[102,111,108,100],s,[44],u,[61]]) (by simp;omega)
 have a2:aC false 1 16 (.slice (strs ([[102,111,108,100],s,[44],u,[61]]++ay y)) true) (.slice [[.str [111,118,101,114]]] true)=some (.slice (strs ([[102,111,108,100],s,[44],u,[61]]++ay y++[[111,118,101,114]])) true):=fj (by simp;omega)
 have a3:aC false 1 16 (.slice (strs ([[102,111,108,100],s,[44],u,[61]]++ay y++[[111,118,101,114]])) true) (.slice (strs (ay x)) true)=some (.slice (strs ([[102,111,108,100],s,[44],u,[61]]++ay y++[[111,118,101,114]]++ay x)) true):=cb (by simp;omega)
 have a4:aC false 1 16 (.slice (strs ([[102,111,108,100],s,[44],u,[61]]++ay y++[[111,118,101,114]]++ay x)) true) (.slice [[.str [100,111]]] true)=some (.slice (strs ([[102,111,108,100],s,[44],u,[61]]++ay y++[[111,118,101,114]]++ay x++[[100,111]])) true):=fj (by simp;omega)
 have a5:aC false 1 16 (.slice (strs ([[102,111,108,100],s,[44],u,[61]]++ay y++[[111,118,101,114]]++ay x++[[100,111]])) true) (.slice (strs (ay z)) true)=some (.slice (strs ([[102,111,108,100],s,[44],u,[61]]++ay y++[[111,118,101,114]]++ay x++[[100,111]]++ay z)) true):=cb (by simp;omega)
 have e:ay t=[[102,111,108,100],s,[44],u,[61]]++ay y++[[111,118,101,114]]++ay x++[[100,111]]++ay z:=by
  rw[cu,hk,fV,pB];rfl
 rw[e,an]
 generalize [[102,111,108,100],s,[44],u,[61]]++ay y++[[111,118,101,114]]++ay x++[[100,111]]++ay z=q5 at a5 ⊢
 generalize [[102,111,108,100],s,[44],u,[61]]++ay y++[[111,118,101,114]]++ay x++[[100,111]]=q4 at a4 a5
 generalize [[102,111,108,100],s,[44],u,[61]]++ay y++[[111,118,101,114]]++ay x=q3 at a3 a4
 generalize [[102,111,108,100],s,[44],u,[61]]++ay y++[[111,118,101,114]]=q2 at a2 a3
 generalize [[102,111,108,100],s,[44],u,[61]]++ay y=q1 at a1 a2
 refine aB (fn:=ku) rfl rfl rfl ?_
 unfold ku
 rw[kt,nt]
 simp(disch:=omega)only[aP,aa,simprocAttr,hk,dx,dy,dz,a1,a2,a3,a4,a5]
end
end
section
section
variable {t:Tm}{h:Nat}(hF:u9 h t)(hO:zV t)(hK:∀ u∈t.kids,qv u)(H:ah)
include hF hO hK
theorem tk8(hk:t.kind=8):aD A 40 [.agg (cE t)] H=some (.slice (strs (ay t)) true,none):=by
 have hc:=fO hO (c1:=1) (c2:=0) (by rw[hk];rfl)
 have hl:=hc.2.1 (by omega)
 obtain⟨x,fV⟩:=GP (show t.kids.length=1 by omega)
 have hx:=hK x (by rw[fV];simp)
 have dx:=hx.d H
 have lx:=hx.len
 have kt:au t.kids=[[.int .i64 x.kind,.int .i64 x.n,.str x.name,.str x.field,.str x.wn,.slice (az x.wk) false,.slice (au x.kids) false,.slice (strs x.names) false]]:=by
  rw[fV,au,au,an]
 rw[an] at dx
 have hq:=rY t.name H (by have:=hF.a;omega)
 have hql:=jV t.name
 have a1:aC false 1 16 (.slice (strs (cA t.name)) true) (.slice [[.str [58]],[.str t.field]] true)=some (.slice (strs (cA t.name++[[58],t.field])) true):=Ij (by omega)
 have hb:=kH (cA t.name++[[58],t.field]) (ay x) [91] [93] H (by simp;omega) (by omega) true true
 have e:ay t=cA t.name++[[58],t.field]++[[91]]++ay x++[[93]]:=by
  rw[cu,hk,fV];rfl
 rw[e,an]
 generalize cA t.name++[[58],t.field]++[[91]]++ay x++[[93]]=q2 at hb ⊢
 generalize cA t.name++[[58],t.field]=q1 at a1 hb
 refine aB (fn:=ku) rfl rfl rfl ?_
 unfold ku
 rw[kt]
 simp(disch:=omega)only[aP,aa,simprocAttr,hk,dx,hq,a1,hb]
theorem tk9(hk:t.kind=9):aD A 40 [.agg (cE t)] H=some (.slice (strs (ay t)) true,none):=by
 have hc:=fO hO (c1:=1) (c2:=0) (by rw[hk];rfl)
 have hl:=hc.2.1 (by omega)
 obtain⟨x,fV⟩:=GP (show t.kids.length=1 by omega)
 have hx:=hK x (by rw[fV];simp)
 have dx:=hx.d H
 have lx:=hx.len
 have kt:au t.kids=[[.int .i64 x.kind,.int .i64 x.n,.str x.name,.str x.field,.str x.wn,.slice (az x.wk) false,.slice (au x.kids) false,.slice (strs x.names) false]]:=by
  rw[fV,au,au,an]
 rw[an] at dx
 have hq:=rY t.name H (by have:=hF.a;omega)
 have hql:=jV t.name
 have a1:aC false 1 16 (.slice (strs (cA t.name)) true) (.slice [[.str [58]],[.str t.field]] true)=some (.slice (strs (cA t.name++[[58],t.field])) true):=Ij (by omega)
 have hb:=kH (cA t.name++[[58],t.field]) (ay x) [40] [41] H (by simp;omega) (by omega) true true
 have e:ay t=cA t.name++[[58],t.field]++[[40]]++ay x++[[41]]:=by
  rw[cu,hk,fV];rfl
 rw[e,an]
 generalize cA t.name++[[58],t.field]++[[40]]++ay x++[[41]]=q2 at hb ⊢
 generalize cA t.name++[[58],t.field]=q1 at a1 hb
 refine aB (fn:=ku) rfl rfl rfl ?_
 unfold ku
 rw[kt]
 simp(disch:=omega)only[aP,aa,simprocAttr,hk,dx,hq,a1,hb]
theorem aju(hk:t.kind=11):aD A 40 [.agg (cE t)] H=some (.slice (strs (ay t)) true,none):=by
 have hp:bc (.mk t.wn t.wk)=true:=by
  have h4:=hO.b4
  unfold oT at h4
  rw[decide_eq_true hk] at h4
  simpa using h4
 have hw:=DB 3 (.mk t.wn t.wk) H (by omega) hF.w hp
 rw[gz] at hw
 have hwl:=kV 3 (.mk t.wn t.wk) hF.w
 have hl:=GS (l:=t.kids) (by have:=hF.kl;omega) hK H
 have Uf:(aO (t.kids.map ay)).length<=3*100001:=by
  have h1:=il (t.kids.map ay) 100000 (fun x hx=>by obtain⟨u,hu,rfl⟩:=aoy.1 hx;exact (hK u hu).len)
  rw[aoA] at h1
  exact aoS h1 (aot _ hF.kl)
 have b1:=kH [fL] (dh (.mk t.wn t.wk)) [40] [41] H (by simp) (by omega) true true
 have b2:=kH ([fL]++[[40]]++dh (.mk t.wn t.wk)++[[41]]) (aO (t.kids.map ay)) [91] [93] H (by simp;omega) (by omega) true true
 have e:ay t=[fL]++[[40]]++dh (.mk t.wn t.wk)++[[41]]++[[91]]++aO (t.kids.map ay)++[[93]]:=by
  rw[cu,hk]
  show [fL]++[[40]]++dh (.mk t.wn t.wk)++[[41]]++[[91]]++aO ((t.kids.map fun t=>(ay t,dL t)).map (·.1))++[[93]]=_
  rw[apE]
  rfl
 rw[e,an]
 generalize [fL]++[[40]]++dh (.mk t.wn t.wk)++[[41]]++[[91]]++aO (t.kids.map ay)++[[93]]=q2 at b2 ⊢
 generalize [fL]++[[40]]++dh (.mk t.wn t.wk)++[[41]]=q1 at b1 b2
 rw[show strs [fL]=[[.str [76,105,115,116]]] from rfl] at b1
 refine aB (fn:=ku) rfl rfl rfl ?_
 unfold ku
 simp(disch:=omega)only[aP,aa,simprocAttr,hk,hw,hl,b1,b2]
end
end
section
theorem uJ{p:List bq × Int}{k:Int} : (oc p k).length<=p.1.length+2:=by
 unfold oc
 split
 ·simp
 ·omega
section
variable {t:Tm}{h:Nat}(hF:u9 h t)(hO:zV t)(hK:∀ u∈t.kids,qv u)(H:ah)
include hF hO hK
theorem tk4(hk:t.kind=4):aD A 40 [.agg (cE t)] H=some (.slice (strs (ay t)) true,none):=by
 have _:=hF
 have hs:=Ds t.n H
 by_cases s0:(dF t.n).1=[]
 ·exact absurd rfl (fO hO (c1:=-2) (c2:=0) (by rw[hk];simp[bF,s0])).1
 by_cases s7:(dF t.n).2=7
 ·have hc:=fO hO (c1:=1) (c2:=0) (by rw[hk];simp[bF,s0,s7])
  have hl:=hc.2.1 (by omega)
  obtain⟨x,fV⟩:=GP (show t.kids.length=1 by omega)
  have hx:=hK x (by rw[fV];simp)
  have dx:=Rr hx 7 H
  have lx:=hx.len
  have kl:=uJ (p:=(ay x,dL x)) (k:=7)
  simp only at kl
  have kt:au t.kids=[[.int .i64 x.kind,.int .i64 x.n,.str x.name,.str x.field,.str x.wn,.slice (az x.wk) false,.slice (au x.kids) false,.slice (strs x.names) false]]:=by
   rw[fV,au,au,an]
  rw[an] at dx
  have e:ay t=[(dF t.n).1]++oc (ay x,dL x) 7:=by rw[cu,hk,fV];rfl
  rw[e,an]
  generalize oc (ay x,dL x) 7=kx at dx kl ⊢
  generalize (dF t.n).1=sg at hs ⊢
  have a1:aC false 1 16 (.slice [[.str sg]] true) (.slice (strs kx) true)=some (.slice (strs ([sg]++kx)) true):=cb (l:=[sg]) (by simp;omega)
  generalize [sg]++kx=q1 at a1 ⊢
  refine aB (fn:=ku) rfl rfl rfl ?_
  unfold ku
  rw[kt]
  simp(disch:=omega)only[aP,aa,simprocAttr,hk,hs,s7,dx,a1]
 ·have hc:=fO hO (c1:=2) (c2:=0) (by rw[hk];simp[bF,s0,s7])
  have hl:=hc.2.1 (by omega)
  obtain⟨x,y,fV⟩:=GQ (show t.kids.length=2 by omega)
  have hx:=hK x (by rw[fV];simp)
  have hy:=hK y (by rw[fV];simp)
  have lx:=hx.len
  have ly:=hy.len
  obtain⟨lv,HX⟩:∃ lv,lv=(dF t.n).2:=⟨_,rfl⟩
  have hlr:0<=lv/\lv<=7:=by
   rw[HX]
   unfold dF
   split
   ·exact⟨by decide,by decide⟩
   ·rename_i hn
    rcases Sw (x:=t.n) (by omega) (by omega) with e|e|e|e|e|e|e|e|e|e|e|e<;>rw[e]<;>exact⟨by decide,by decide⟩
  have dx:=fun l=>Rr hx l H
  have dy:=Rr hy (lv+1) H
  have kt:au t.kids=[[.int .i64 x.kind,.int .i64 x.n,.str x.name,.str x.field,.str x.wn,.slice (az x.wk) false,.slice (au x.kids) false,.slice (strs x.names) false],
    [.int .i64 y.kind,.int .i64 y.n,.str y.name,.str y.field,.str y.wn,.slice (az y.wk) false,.slice (au y.kids) false,.slice (strs y.names) false]]:=by
   rw[fV,au,au,au,an,an]
  rw[an] at dx dy
  have e:ay t=oc (ay x,dL x) (if lv=3 then 4 else lv)++[(dF t.n).1]++oc (ay y,dL y) (lv+1):=by rw[cu,hk,fV,HX];rfl
  rw[e,an]
  rw[<- HX] at hs s7
  have klx:=uJ (p:=(ay x,dL x)) (k:=if lv=3 then 4 else lv)
  have kly:=uJ (p:=(ay y,dL y)) (k:=lv+1)
  simp only at klx kly
  have dx:=dx (if lv=3 then 4 else lv)
  generalize oc (ay x,dL x) (if lv=3 then 4 else lv)=kx at dx klx ⊢
  generalize oc (ay y,dL y) (lv+1)=ky at dy kly ⊢
  generalize (dF t.n).1=sg at hs ⊢
  have a1:aC false 1 16 (.slice (strs kx) true) (.slice [[.str sg]] true)=some (.slice (strs (kx++[sg])) true):=fj (by omega)
  have a2:aC false 1 16 (.slice (strs (kx++[sg])) true) (.slice (strs ky) true)=some (.slice (strs (kx++[sg]++ky)) true):=cb (by simp;omega)
  generalize kx++[sg]++ky=q2 at a2 ⊢
  generalize kx++[sg]=q1 at a1 a2
  refine aB (fn:=ku) rfl rfl rfl ?_
  unfold ku
  rw[kt]
  by_cases l3:lv=3
  ·rw[if_pos l3] at dx
   rw[l3] at hs dy
   rw[show (3:Int)+1=4 from rfl] at dy
   simp(disch:=omega)only[aP,aa,simprocAttr,hk,hs,dx,dy,a1,a2]
  ·rw[if_neg l3] at dx
   simp(disch:=omega)only[aP,aa,simprocAttr,hk,hs,dx,dy,a1,a2]
end
end
section
section
variable {t:Tm}{h:Nat}(hF:u9 h t)(hO:zV t)(hK:∀ u∈t.kids,qv u)(H:ah)
include hF hO hK
theorem tk7(hk:t.kind=7):aD A 40 [.agg (cE t)] H=some (.slice (strs (ay t)) true,none):=by
 have hc:=fO hO (c1:=-1) (c2:=t.kids.length) (by rw[hk];rfl)
 have qk:=hc.2.2
 have mV:=hF.kl
 have hq:=rY t.name H (by have:=hF.a;omega)
 have hql:=jV t.name
 obtain⟨ws,hws⟩:∃ ws,ws=List.zipWith (fun s (x:List bq × Int)=>[s,[61]]++x.1) t.names (t.kids.map fun t=>(ay t,dL t)):=⟨_,rfl⟩
 have hwl:ws.length=t.kids.length:=by rw[hws,List.length_zipWith,aoA];omega
 have fE:∀ (i:Nat) (s:bq) (u:Tm),t.names[i]?=some s->t.kids[i]?=some u->ws[i]?=some ([s,[61]]++ay u):=by
  intro i s u h1 h2
  rw[hws,List.getElem?_zipWith,aor,h1,h2]
  rfl
 have hwb:∀ x∈ws,x.length<=100002:=by
  intro x hx
  obtain⟨i,hi⟩:=aoM hx
  have bf:=(an9.1 hi).1
  have h1:=an' (l:=t.names) (i:=i) (by omega)
  have h2:=an' (l:=t.kids) (i:=i) (by omega)
  have h3:=fE i _ _ h1 h2
  rw[hi] at h3
  injection h3 with h3
  rw[h3]
  have:=(hK _ (aoW (l:=t.kids) (n:=i) (by omega))).len
  simp only[List.length_append,an5,an6];omega
 have hlb:∀ i,(aO (ws.take i)).length<=3*100003:=fun i=>by
  have h1:=il (ws.take i) 100002 (fun x hx=>hwb x (apx hx))
  have h2:(ws.take i).length<=3:=by rw[List.length_take];omega
  exact aoS h1 (aot _ h2)
 have hb:=kH (cA t.name) (aO ws) [123] [125] H (by omega) (by have:=hlb ws.length;rw[apm] at this;omega) true true
 have e:ay t=cA t.name++[[123]]++aO ws++[[125]]:=by rw[cu,hk,hws];rfl
 rw[e,an]
 generalize cA t.name++[[123]]++aO ws++[[125]]=out at hb ⊢
 refine aB (fn:=ku) rfl rfl rfl ?_
 unfold ku
 simp(disch:=omega)only[aP,aa,simprocAttr,hk]
 refine bM t.kids.length 1 (fun i s=>∃ T,s=⟨T,H,H.length,1⟩/\T 1=.lbox 0 [.int .i64 7,.int .i64 t.n,.str t.name,.str t.field,.str t.wn,.slice (az t.wk) false,.slice (au t.kids) false,.slice (strs t.names) false]/\T 8=.slice (strs (aO (ws.take i))) true/\T 9=.int .i64 i)
  (fun s=>∃ T,s=⟨T,H,H.length,1⟩/\T 1=.lbox 0 [.int .i64 7,.int .i64 t.n,.str t.name,.str t.field,.str t.wn,.slice (az t.wk) false,.slice (au t.kids) false,.slice (strs t.names) false]/\T 8=.slice (strs (aO ws)) true) (fun _=>False) ?_ ?_ (fun _ h=>h.elim) 0 _ (ao9 _) ?_
 ·rintro i st hi ⟨T,rfl,e1,e8,e9⟩
  by_cases bf:i<t.kids.length
  ·obtain⟨u,hu⟩:∃ u,t.kids[i]?=some u:=⟨_,an' bf⟩
   obtain⟨s,hs⟩:∃ s,t.names[i]?=some s:=⟨_,an' (by omega)⟩
   have hw:=fE i s u hs hu
   have hm:=hK u (aoo hu)
   have du:=hm.d H
   have lu:=hm.len
   have Yk:=sM hu
   have atn:=fa hs
   rw[an] at du Yk
   have j6:ws.take (i+1)=ws.take i++[[s,[61]]++ay u]:=by rw[ap4,hw];rfl
   have DJ:=jK ([s,[61]]++ay u) (ws.take i)
   rw[<- j6] at DJ
   have Jg:=hlb i
   by_cases h0:i=0
   ·subst h0
    simp only[aoV,apB] at DJ e8
    have a1:aC false 1 16 (.slice (strs (aO [])) true) (.slice [[.str s],[.str [61]]] true)=some (.slice (strs [s,[61]]) true):=cb (l:=[]) (m:=[s,[61]]) (by simp)
    have a2:aC false 1 16 (.slice (strs [s,[61]]) true) (.slice (strs (ay u)) true)=some (.slice (strs ([s,[61]]++ay u)) true):=cb (by simp;omega)
    generalize [s,[61]]++ay u=q2 at a2 DJ
    generalize [s,[61]]=q1 at a1 a2
    simp(disch:=omega)only[aP,aa,simprocAttr,e1,e8,e9,bB,Yk,atn,du,a1,a2]
    exact⟨bf,_,rfl,by simp(disch:=omega)only[aN,aa,simprocAttr,e1],by rw[DJ];simp(disch:=omega)only[aN,aa,simprocAttr],by simp(disch:=omega)only[aN,aa,simprocAttr]⟩
   ·have dn:¬ (ws.take i=[]):=fun e=>by
     have:=apS List.length e
     rw[List.length_take,an6] at this
     omega
    rw[if_neg dn,<- ao5] at DJ
    generalize aO (ws.take i)=acc at e8 Jg DJ
    have a0:aC false 1 16 (.slice (strs acc) true) (.slice [[.str [44]]] true)=some (.slice (strs (acc++[[44]])) true):=fj (by omega)
    have a1:aC false 1 16 (.slice (strs (acc++[[44]])) true) (.slice [[.str s],[.str [61]]] true)=some (.slice (strs (acc++[[44]]++[s,[61]])) true):=cb (m:=[s,[61]]) (by simp;omega)
    have a2:aC false 1 16 (.slice (strs (acc++[[44]]++[s,[61]])) true) (.slice (strs (ay u)) true)=some (.slice (strs (acc++[[44]]++[s,[61]]++ay u)) true):=cb (by simp;omega)
    generalize acc++[[44]]++[s,[61]]++ay u=q2 at a2 DJ
    generalize acc++[[44]]++[s,[61]]=q1 at a1 a2
    generalize acc++[[44]]=q0 at a0 a1
    simp(disch:=omega)only[aP,aa,simprocAttr,e1,e8,e9,bB,Yk,atn,du,a0,a1,a2]
    exact⟨bf,_,rfl,by simp(disch:=omega)only[aN,aa,simprocAttr,e1],by rw[DJ];simp(disch:=omega)only[aN,aa,simprocAttr],by simp(disch:=omega)only[aN,aa,simprocAttr]⟩
  ·rw[aoJ (by omega)] at e8
   simp(disch:=omega)only[aP,aa,simprocAttr,e1,e8,e9,bB]
   exact⟨_,rfl,by simp(disch:=omega)only[aN,aa,simprocAttr,e1],by simp(disch:=omega)only[aN,aa,simprocAttr,e8]⟩
 ·rintro st ⟨T,rfl,e1,e8⟩
  simp(disch:=omega)only[aP,aa,simprocAttr,e1,e8,hq,hb]
 ·exact⟨_,rfl,by simp(disch:=omega)only[aN,aa,simprocAttr],by simp(disch:=omega)only[aN,aa,simprocAttr,aoV,aO,strs,aol],by simp(disch:=omega)only[aN,aa,simprocAttr]⟩
end
end
section
section
variable {t:Tm}{h:Nat}(hF:u9 h t)(hO:zV t)(hK:∀ u∈t.kids,qv u)(H:ah)
include hF hO hK
theorem ahv(hk:t.kind=10):∃ (ws:List (List bq)) (x:Tm),t.kids[0]?=some x/\2<=t.kids.length/\ws.length+1=t.kids.length/\t.names.length=2*ws.length /\
  (∀ (j:Nat) (p q:bq) (u:Tm),t.names[2*j]?=some p->t.names[2*j+1]?=some q->t.kids[j+1]?=some u->ws[j]?=some ([p,q,[45,62]]++ay u)) /\
  ay t=[[109,97,116,99,104]]++cA t.name++[[40]]++ay x++[[41]]++[[123]]++aO ws++[[125]]:=by
 have _:=hK
 have mV:=hF.kl
 have h2:¬ t.kids.length<2:=fun bf=>absurd rfl (fO hO (c1:=-2) (c2:=0) (by rw[hk];simp[bF,bf])).1
 have hc:=fO hO (c1:=-1) (c2:=2*((t.kids.length:Int)-1)) (by rw[hk];simp[bF,h2])
 have qk:=hc.2.2
 by_cases h3:t.kids.length=2
 ·obtain⟨x,y,fV⟩:=GQ h3
  obtain⟨p,q,pB⟩:=GQ (show t.names.length=2 by omega)
  refine⟨[[p,q,[45,62]]++ay y],x,by rw[fV];rfl,by omega,by simp;omega,by simp;omega,?_,?_⟩
  ·intro j a b u e1 e2 e3
   rw[pB] at e1 e2
   rw[fV] at e3
   cases j with
   | zero=>injection e1 with e1;injection e2 with e2;injection e3 with e3;subst e1 e2 e3;rfl
   | succ j=>simp at e3
  ·rw[cu,hk,fV,pB];rfl
 ·obtain⟨x,y,z,fV⟩:=Rx (show t.kids.length=3 by omega)
  obtain⟨p,q,r,s,pB⟩:∃ p q r s,t.names=[p,q,r,s]:=by
   have h4:t.names.length=4:=by omega
   match hn:t.names,h4 with
   | [p,q,r,s],_=>exact⟨p,q,r,s,rfl⟩
  refine⟨[[p,q,[45,62]]++ay y,[r,s,[45,62]]++ay z],x,by rw[fV];rfl,by omega,by simp;omega,by simp;omega,?_,?_⟩
  ·intro j a b u e1 e2 e3
   rw[pB] at e1 e2
   rw[fV] at e3
   match j with
   | 0=>injection e1 with e1;injection e2 with e2;injection e3 with e3;subst e1 e2 e3;rfl
   | 1=>injection e1 with e1;injection e2 with e2;injection e3 with e3;subst e1 e2 e3;rfl
   | j+2=>simp at e3
  ·rw[cu,hk,fV,pB]
   show [[109,97,116,99,104]]++cA t.name++[[40]]++ay x++[[41]]++[[123]]++([p,q,[45,62]]++ay y++[[44]]++[r,s,[45,62]]++ay z)++[[125]]=_
   simp[aO]
theorem ajt(hk:t.kind=10):aD A 40 [.agg (cE t)] H=some (.slice (strs (ay t)) true,none):=by
 obtain⟨ws,x,yK,h2,hwl,qk,fE,e⟩:=ahv hF hO hK hk
 have mV:=hF.kl
 have hq:=rY t.name H (by have:=hF.a;omega)
 have hql:=jV t.name
 have hxK:=hK x (aoo yK)
 have dx:=hxK.d H
 have lx:=hxK.len
 have atx:=sM yK
 rw[an] at dx atx
 have afl:∀ i,i<ws.length->∃ p q u,t.names[2*i]?=some p/\t.names[2*i+1]?=some q/\t.kids[i+1]?=some u/\ws[i]?=some ([p,q,[45,62]]++ay u):=by
  intro i hi
  have h1:=an' (l:=t.names) (i:=2*i) (by omega)
  have h3:=an' (l:=t.names) (i:=2*i+1) (by omega)
  have h4:=an' (l:=t.kids) (i:=i+1) (by omega)
  exact⟨_,_,_,h1,h3,h4,fE i _ _ _ h1 h3 h4⟩
 have hwb:∀ x∈ws,x.length<=100003:=by
  intro y hy
  obtain⟨i,hi⟩:=aoM hy
  obtain⟨p,q,u,_,_,h4,h5⟩:=afl i (an9.1 hi).1
  rw[hi] at h5
  injection h5 with h5
  rw[h5]
  have:=(hK u (aoo h4)).len
  simp only[List.length_append,an5,an6];omega
 have hlb:∀ i,(aO (ws.take i)).length<=3*100004:=fun i=>by
  have h1:=il (ws.take i) 100003 (fun x hx=>hwb x (apx hx))
  have h2:(ws.take i).length<=3:=by rw[List.length_take];omega
  exact aoS h1 (aot _ h2)
 have hlw:(aO ws).length<=3*100004:=by have:=hlb ws.length;rwa [apm] at this
 have a1:aC false 1 16 (.slice [[.str [109,97,116,99,104]]] true) (.slice (strs (cA t.name)) true)=some (.slice (strs ([[109,97,116,99,104]]++cA t.name)) true):=cb (l:=[[109,97,116,99,104]]) (by simp;omega)
 have b1:=kH ([[109,97,116,99,104]]++cA t.name) (ay x) [40] [41] H (by simp;omega) (by omega) true true
 have b2:=kH ([[109,97,116,99,104]]++cA t.name++[[40]]++ay x++[[41]]) (aO ws) [123] [125] H (by simp;omega) (by omega) true true
 rw[e,an]
 generalize [[109,97,116,99,104]]++cA t.name++[[40]]++ay x++[[41]]++[[123]]++aO ws++[[125]]=out at b2 ⊢
 generalize [[109,97,116,99,104]]++cA t.name++[[40]]++ay x++[[41]]=o1 at b1 b2
 generalize [[109,97,116,99,104]]++cA t.name=o0 at a1 b1
 refine aB (fn:=ku) rfl rfl rfl ?_
 unfold ku
 simp(disch:=omega)only[aP,aa,simprocAttr,hk]
 refine bM ws.length 3 (fun i s=>∃ T,s=⟨T,H,H.length,1⟩/\T 1=.lbox 0 [.int .i64 10,.int .i64 t.n,.str t.name,.str t.field,.str t.wn,.slice (az t.wk) false,.slice (au t.kids) false,.slice (strs t.names) false]/\T 10=.slice (strs (aO (ws.take i))) true/\T 11=.int .i64 ((i+1:Nat):Int))
  (fun s=>∃ T,s=⟨T,H,H.length,1⟩/\T 1=.lbox 0 [.int .i64 10,.int .i64 t.n,.str t.name,.str t.field,.str t.wn,.slice (az t.wk) false,.slice (au t.kids) false,.slice (strs t.names) false]/\T 10=.slice (strs (aO ws)) true) (fun _=>False) ?_ ?_ (fun _ h=>h.elim) 0 _ (ao9 _) ?_
 ·rintro i st hi ⟨T,rfl,e1,e8,e9⟩
  by_cases bf:i<ws.length
  ·obtain⟨p,q,u,n1,n2,k1,hw⟩:=afl i bf
   have hm:=hK u (aoo k1)
   have du:=hm.d H
   have lu:=hm.len
   have Yk:=sM k1
   have Zo:=fa n1
   have Zp:=fa n2
   rw[an] at du Yk
   have x1:(2:Int)*((i+1:Nat):Int)-2=((2*i:Nat):Int):=by omega
   have x2:(2:Int)*((i+1:Nat):Int)-1=((2*i+1:Nat):Int):=by omega
   have x3:((i+1:Nat):Int)+1=((i+1+1:Nat):Int):=by omega
   have hi1:1<=i+1:=by omega
   generalize hm1:i+1=i1 at e9 x1 x2 x3 k1 Yk hi1 ⊢
   generalize hm2:2*i+1=i2 at x2 n2 Zp
   generalize hm3:2*i=i3 at x1 n1 Zo
   have j6:ws.take (i+1)=ws.take i++[[p,q,[45,62]]++ay u]:=by rw[ap4,hw];rfl
   have DJ:=jK ([p,q,[45,62]]++ay u) (ws.take i)
   rw[<- j6] at DJ
   have Jg:=hlb i
   rw[hm1] at j6 DJ
   by_cases h0:i=0
   ·subst h0
    simp only[aoV,apB] at DJ e8
    have a1:aC false 1 16 (.slice (strs (aO [])) true) (.slice [[.str p],[.str q],[.str [45,62]]] true)=some (.slice (strs [p,q,[45,62]]) true):=cb (l:=[]) (m:=[p,q,[45,62]]) (by simp)
    have a2:aC false 1 16 (.slice (strs [p,q,[45,62]]) true) (.slice (strs (ay u)) true)=some (.slice (strs ([p,q,[45,62]]++ay u)) true):=cb (by simp;omega)
    generalize [p,q,[45,62]]++ay u=q2 at a2 DJ
    generalize [p,q,[45,62]]=q1 at a1 a2
    simp(disch:=omega)only[aP,aa,simprocAttr,e1,e8,e9,bB,x1,x2,Yk,Zo,Zp,du,a1,a2]
    exact⟨by omega,_,rfl,by simp(disch:=omega)only[aN,aa,simprocAttr,e1],by rw[DJ];simp(disch:=omega)only[aN,aa,simprocAttr],by first|(simp(disch:=omega)only[aN,aa,simprocAttr];done)|(simp(disch:=omega)only[aN,aa,simprocAttr];rw[<- x3])|(rw[<- x3];simp(disch:=omega)only[aN,aa,simprocAttr])⟩
   ·have dn:¬ (ws.take i=[]):=fun e=>by
     have:=apS List.length e
     rw[List.length_take,an6] at this
     omega
    rw[if_neg dn,<- ao5] at DJ
    generalize aO (ws.take i)=acc at e8 Jg DJ
    have a0:aC false 1 16 (.slice (strs acc) true) (.slice [[.str [44]]] true)=some (.slice (strs (acc++[[44]])) true):=fj (by omega)
    have a1:aC false 1 16 (.slice (strs (acc++[[44]])) true) (.slice [[.str p],[.str q],[.str [45,62]]] true)=some (.slice (strs (acc++[[44]]++[p,q,[45,62]])) true):=cb (m:=[p,q,[45,62]]) (by simp;omega)
    have a2:aC false 1 16 (.slice (strs (acc++[[44]]++[p,q,[45,62]])) true) (.slice (strs (ay u)) true)=some (.slice (strs (acc++[[44]]++[p,q,[45,62]]++ay u)) true):=cb (by simp;omega)
    generalize acc++[[44]]++[p,q,[45,62]]++ay u=q2 at a2 DJ
    generalize acc++[[44]]++[p,q,[45,62]]=q1 at a1 a2
    generalize acc++[[44]]=q0 at a0 a1
    simp(disch:=omega)only[aP,aa,simprocAttr,e1,e8,e9,bB,x1,x2,Yk,Zo,Zp,du,a0,a1,a2]
    exact⟨by omega,_,rfl,by simp(disch:=omega)only[aN,aa,simprocAttr,e1],by rw[DJ];simp(disch:=omega)only[aN,aa,simprocAttr],by first|(simp(disch:=omega)only[aN,aa,simprocAttr];done)|(simp(disch:=omega)only[aN,aa,simprocAttr];rw[<- x3])|(rw[<- x3];simp(disch:=omega)only[aN,aa,simprocAttr])⟩
  ·rw[aoJ (by omega)] at e8
   simp(disch:=omega)only[aP,aa,simprocAttr,e1,e8,e9,bB]
   exact⟨_,rfl,by simp(disch:=omega)only[aN,aa,simprocAttr,e1],by simp(disch:=omega)only[aN,aa,simprocAttr,e8]⟩
 ·rintro st ⟨T,rfl,e1,e8⟩
  simp(disch:=omega)only[aP,aa,simprocAttr,e1,e8,hq,a1,atx,dx,b1,b2]
 ·exact⟨_,rfl,by simp(disch:=omega)only[aN,aa,simprocAttr],by simp(disch:=omega)only[aN,aa,simprocAttr,aoV,aO,strs,aol],by simp(disch:=omega)only[aN,aa,simprocAttr];first|done|rfl⟩
end
end
theorem acZ{t:Tm}{h:Nat}(hF:u9 h t)(hO:zV t)(hK:∀ u∈t.kids,qv u)(H:ah):aD A 40 [.agg (cE t)] H=some (.slice (strs (ay t)) true,none):=by
 have hk:=zd hO
 rcases tv t.kind with e|e|e|e|e|e|e|e|e|e|e|e|e|e
 ·exact tk0 hF hO hK H e
 ·exact tk1 hF hO hK H e
 ·exact tk2 hF hO hK H e
 ·exact tk3 hF hO hK H e
 ·exact tk4 hF hO hK H e
 ·exact tk5 hF hO hK H e
 ·exact tk6 hF hO hK H e
 ·exact tk7 hF hO hK H e
 ·exact tk8 hF hO hK H e
 ·exact tk9 hF hO hK H e
 ·exact ajt hF hO hK H e
 ·exact aju hF hO hK H e
 ·exact ajv hF hO hK H e
 ·omega
theorem yW{p:List bq × Int}{k:Int}{B:Nat}(h:p.1.length<=B):(oc p k).length<=B+2:=aoS uJ (by omega)
theorem Yc{B:Nat}(ns:List bq)(tl:List (List bq × Int))(h:∀ p∈tl,p.1.length<=B):(aO (List.zipWith (fun s (x:List bq × Int)=>[s,[61]]++x.1) ns tl)).length<=tl.length*(B+3):=by
 have h1:=il (List.zipWith (fun s (x:List bq × Int)=>[s,[61]]++x.1) ns tl) (B+2) (fun y hy=>by
  obtain⟨i,hi⟩:=aoM hy
  rw[List.getElem?_zipWith] at hi
  cases hs:ns[i]? with
  | none=>rw[hs] at hi;cases hi
  | some s =>
   cases hx:tl[i]? with
   | none=>rw[hs,hx] at hi;cases hi
   | some x =>
    rw[hs,hx] at hi
    injection hi with hi
    rw[<- hi]
    have:=h x (aoo hx)
    simp only[List.length_append,an5,an6];omega)
 have h2:(List.zipWith (fun s (x:List bq × Int)=>[s,[61]]++x.1) ns tl).length<=tl.length:=by rw[List.length_zipWith];omega
 exact aoS h1 (aot _ h2)
theorem T5{B:Nat}(tl:List (List bq × Int))(h:∀ p∈tl,p.1.length<=B):(aO (tl.map (·.1))).length<=tl.length*(B+1):=by
 have h1:=il (tl.map (·.1)) B (fun y hy=>by obtain⟨x,hx,rfl⟩:=aoy.1 hy;exact h x hx)
 rwa [aoA] at h1
theorem LD{k n:Int}{a f:bq}{w:Wd}{ns:List bq}{tl:List (List bq × Int)}{B:Nat}(h:∀ p∈tl,p.1.length<=B)(hl:tl.length<=3)(hw:(dh w).length<=12):(fz k n a f w ns tl).length<=3*B+60:=by
 have hq:=jV a
 have h1:=T5 tl h
 have h2:=Yc ns tl h
 have m1:tl.length*(B+1)<=3*(B+1):=aot _ hl
 have m2:tl.length*(B+3)<=3*(B+3):=aot _ hl
 unfold fz
 by_cases h0:k=0
 rw[if_pos h0]
 rotate_left
 rw[if_neg h0]
 by_cases OZ:k=1
 rw[if_pos OZ]
 rotate_left
 rw[if_neg OZ]
 by_cases h2' : k=2
 rw[if_pos h2']
 rotate_left
 rw[if_neg h2']
 by_cases h3:k=3
 rw[if_pos h3]
 rotate_left
 rw[if_neg h3]
 by_cases h4:k=4
 rw[if_pos h4]
 rotate_left
 rw[if_neg h4]
 by_cases h5:k=5
 rw[if_pos h5]
 rotate_left
 rw[if_neg h5]
 by_cases h6:k=6
 rw[if_pos h6]
 rotate_left
 rw[if_neg h6]
 by_cases h7:k=7
 rw[if_pos h7]
 rotate_left
 rw[if_neg h7]
 by_cases h8:k=8
 rw[if_pos h8]
 rotate_left
 rw[if_neg h8]
 by_cases h9:k=9
 rw[if_pos h9]
 rotate_left
 rw[if_neg h9]
 by_cases h10:k=10
 rw[if_pos h10]
 rotate_left
 rw[if_neg h10]
 by_cases h11:k=11
 rw[if_pos h11]
 rotate_left
 rw[if_neg h11]
 by_cases Ys:k=12
 rw[if_pos Ys]
 rotate_left
 rw[if_neg Ys]
 simp
 all_goals first|(split<;>first
   | (simp only[List.length_append,an5,an6];omega)
   | (rename_i x;have hx:=h x (by simp);have hk7:=yW (k:=7) hx;simp only[List.length_append,an5,an6];omega)
   | (rename_i x y;have hx:=h x (by simp);have hy:=h y (by simp);have hky:=yW (k:=(dF n).2+1) hy;have vK:=yW (k:=if (dF n).2=3 then 4 else (dF n).2) hx;simp only[List.length_append,an5,an6];omega)
   | (rename_i x y z;have hx:=h x (by simp);have hy:=h y (by simp);have hz:=h z (by simp);simp only[List.length_append,an5,an6];omega)
   | (rename_i x y z a;have hx:=h x (by simp);have hy:=h y (by simp);simp only[List.length_append,an5,an6];omega)
   | (rename_i x y p q;have hx:=h x (by simp);have hy:=h y (by simp);simp only[List.length_append,an5,an6];omega)
   | (rename_i x y z p q;have hx:=h x (by simp);have hy:=h y (by simp);have hz:=h z (by simp);simp only[List.length_append,an5,an6];omega)
   | (rename_i x y z p q r u;have hx:=h x (by simp);have hy:=h y (by simp);have hz:=h z (by simp);simp only[List.length_append,an5,an6];omega)
   | (rename_i x y s;have hx:=h x (by simp);have hy:=h y (by simp);simp only[List.length_append,an5,an6];omega))|(simp only[List.length_append,an5,an6];omega)
def bT:Nat->Nat
 | 0=>0
 | h+1=>3*bT h+60
theorem u7:∀ (h:Nat) (t:Tm),Lp h t->(ay t).length<=bT h
 | 0,t,hb=>by cases hb
 | h+1,t,hb=>by
  have hF:=hb.out
  rw[cu]
  refine LD (B:=bT h) (fun p hp=>?_) (by rw[aoA];exact hF.kl) (kV 3 _ hF.w)
  obtain⟨u,hu,rfl⟩:=aoy.1 hp
  exact u7 h u (hF.kb u hu)
theorem N7{h:Nat}(hh:h<=6):bT h<=100000:=by
 have:h=0\/h=1\/h=2\/h=3\/h=4\/h=5\/h=6:=by omega
 rcases this with rfl|rfl|rfl|rfl|rfl|rfl|rfl<;>decide
theorem HI:∀ (h:Nat) (t:Tm),h<=6->Lp h t->ai t=true->qv t
 | 0,t,_,hb,_=>by cases hb
 | h+1,t,hh,hb,hp=>by
  have hF:=hb.out
  have hO:=xy hp
  have hK:∀ u∈t.kids,qv u:=fun u hu=>HI h u (by omega) (hF.kb u hu) (hO.kids u hu)
  exact⟨fun H=>acZ hF hO hK H,aoS (u7 _ t hb) (N7 hh)⟩
theorem acI(a b:List bq)(H:ah)(o o' : Bool)(ha:a.length<=1000000):aD A 32 [.slice (strs a) false,.slice (strs b) false] H=some (.bool (a==b),none):=by
 refine aB (fn:=QR) rfl rfl rfl ?_
 unfold QR
 simp(disch:=omega)only[ib,aa,simprocAttr,aW]
 refine kL ?_ ?_<;>intro hlen
 ·have dn:a≠b:=fun e=>by subst e;simp at hlen
  simp(disch:=omega)only[ib,aa,simprocAttr,show (a==b)=false by simpa using dn]
 have A5:a.length=b.length:=by
  have:(a.length:Int)=b.length:=by simpa using hlen
  omega
 simp(disch:=omega)only[ib,aa,simprocAttr]
 refine xi a.length (fun i=>Hd (fun T=>T 0=.slice (strs a) false/\T 1=.slice (strs b) false/\T 5=.int .i64 i/\(a==b)=(a.drop i==b.drop i)) H H.length 0) ?_ 0 _ (ao9 _) ?_
 ·rintro i s hi hs
  obtain⟨T,rfl,h0,h1,h5,hc⟩:=hs.out
  simp(disch:=omega)only[ib,aa,simprocAttr,h0,h5,aW]
  refine jf ?_ ?_<;>intro h
  ·have lD:i<a.length:=by omega
   have Ak:i<b.length:=by omega
   simp(disch:=omega)only[ib,aa,simprocAttr,h0,h1,h5,fa (an' lD),fa (an' Ak)]
   refine kL ?_ ?_<;>intro hb
   ·simp(disch:=omega)only[ib,aa,simprocAttr,hc,aoQ lD,aoQ Ak,aqR,show (a[i]==b[i])=false by simpa using hb]
   ·simp(disch:=omega)only[ib,aa,simprocAttr,h0,h1,h5]
    exact⟨lD,by rw[hc,aoQ lD,aoQ Ak,aqR,show (a[i]==b[i])=true by simpa using hb,aou]⟩
  ·have:i=a.length:=by omega
   subst this
   simp(disch:=omega)only[ib,aa,simprocAttr,hc,ap9,show b.drop a.length=[] by rw[A5,ap9]]
 ·simp(disch:=omega)only[ib,aa,simprocAttr,apc,aoI]
def tM(a b:bq):Bool:=b==[41] || b==[93] || b==[44] || b==[46] || a==[40] || a==[91] || a==[46]
theorem XW(a b:bq)(H:ah):aD A 77 [.str a,.str b] H=some (.bool (tM a b),none):=by
 refine aB (fn:=Rb) rfl rfl rfl ?_
 unfold Rb tM
 cases h1:(b==[41]) with
 | true=>simp(disch:=omega)only[ib,aa,simprocAttr,h1]
 | false =>
 cases h2:(b==[93]) with
 | true=>simp(disch:=omega)only[ib,aa,simprocAttr,h1,h2]
 | false =>
 cases h3:(b==[44]) with
 | true=>simp(disch:=omega)only[ib,aa,simprocAttr,h1,h2,h3]
 | false =>
 cases h4:(b==[46]) with
 | true=>simp(disch:=omega)only[ib,aa,simprocAttr,h1,h2,h3,h4]
 | false =>
 cases h5:(a==[40]) with
 | true=>simp(disch:=omega)only[ib,aa,simprocAttr,h1,h2,h3,h4,h5]
 | false =>
 cases h6:(a==[91]) with
 | true=>simp(disch:=omega)only[ib,aa,simprocAttr,h1,h2,h3,h4,h5,h6]
 | false=>simp(disch:=omega)only[ib,aa,simprocAttr,h1,h2,h3,h4,h5,h6]
def js(l:List bq)(i:Nat):bq:=if 1<=i/\i<l.length/\tM (l.getD (i-1) []) (l.getD i [])=false then [32] else []
def gD(l:List bq):List bq:=(List.range (l.length+1)).map (js l)
def part(l:List bq)(i:Nat):List AV:=(List.range (l.length+1)).map fun j=>AV.str (if j<i then js l j else [])
theorem Hb(l:List bq)(i:Nat):(part l i).length=l.length+1:=by simp[part]
theorem RR(l:List bq)(i:Nat)(h:l.length<=i):part l i=(gD l).map .str:=by
 simp only[part,gD,apE]
 refine aoD fun j hj=>?_
 simp only[List.mem_range] at hj
 simp only[Function.comp]
 by_cases pV:j<i
 ·rw[if_pos pV]
 ·rw[if_neg pV]
  have:j=l.length:=by omega
  simp[js,this]
theorem Bt(l:List bq):(List.replicate (l.length+1) [AV.str []]).flatten=part l 1:=by
 refine ap3 fun j=>?_
 have e:(List.replicate (l.length+1) [AV.str []]).flatten=List.replicate (l.length+1) (AV.str []):=by
  generalize l.length+1=n
  induction n with
  | zero=>rfl
  | succ n ih=>rw[List.replicate_succ,aoP,ih,List.replicate_succ];rfl
 rw[e,aqC]
 simp only[part,aor]
 by_cases hj:j<l.length+1
 ·rw[if_pos hj,apW hj]
  simp only[aok,an2,AV.str.injEq]
  split
  ·have:j=0:=by omega
   subst this;simp[js]
  ·rfl
 ·rw[if_neg hj,ape (by simpa using aqs hj)];rfl
theorem RS(l:List bq)(i:Nat)(h1:1<=i)(h:i<l.length)(ht:tM (l.getD (i-1) []) (l.getD i [])=false):(part l i).take i++([AV.str [32]]++(part l i).drop (i+1))=part l (i+1):=by
 refine ap3 fun j=>?_
 have hp:(part l i).length=l.length+1:=Hb l i
 rw[apg]
 simp only[List.length_take,hp,show min i (l.length+1)=i by omega]
 split
 ·rename_i hj
  rw[aoC,if_pos hj]
  simp only[part,aor,apW (show j<l.length+1 by omega),aok]
  rw[if_pos hj,if_pos (by omega)]
 ·rename_i hj
  by_cases pV:j=i
  ·subst pV
   simp only[aqa,part,aor,apW (show j<l.length+1 by omega),aok]
   rw[if_pos (by omega)]
   rw[js,if_pos ⟨h1,h,ht⟩];rfl
  ·rw[aoz (by simp;omega),aoU]
   simp only[an5,an6]
   rw[show i+1+(j-i-(0+1))=j by omega]
   simp only[part,aor]
   by_cases hj2:j<l.length+1
   ·rw[apW hj2]
    simp only[aok]
    rw[if_neg (by omega),if_neg (by omega)]
   ·rw[ape (by simpa using aqs hj2)];rfl
theorem MV(l:List bq)(i:Nat)(ht:js l i=[]):part l i=part l (i+1):=by
 simp only[part]
 refine aoD fun j hj=>?_
 by_cases pV:j<i
 ·rw[if_pos pV,if_pos (by omega)]
 ·rw[if_neg pV]
  by_cases h2:j=i
  ·subst h2;rw[if_pos (by omega),ht]
  ·rw[if_neg (by omega)]
theorem cr{H:ah}{o:bZ} : (H++[o])[H.length]?=some o:=by simp
theorem heap_set{H:ah}{o o' : bZ} : (H++[o]).set H.length o'=H++[o']:=by simp
theorem rO{H:ah}{o:bZ} : (H++[o]).take H.length=H:=by simp
theorem ar{n:Nat} : Nat.blt n n=false:=by simp[<- aqn,aoO]
theorem getD_at{α:Type}{l:List α}{i:Nat}{d:α}(h:i<l.length):l.getD i d=l[i]:=by simp[List.getD,an' h]
theorem wv{base t l off n z:Nat}{fn:aJ}{s:AS}{ty:TypeId}{cs:List AV}(hr:fn.results=[.tmp t])(hm:fn.muts.elem 888888=true)(hT:s.T t=.sref l off n z)(hH:s.H[l]?=some (.box ty cs))(hl:base<=l)(hp:cs.all AV.plain=true)(qp:s.lo=base)(hn:fn.muts.elem 777777=false:=by rfl) :
  finish base fn s=some (.sref base off n z,some ⟨s.H.take base++[.cS cs],s.lo⟩):=by
 have h1:lp base s=true:=by simp[lp,qp]
 have h2:Nat.ble base l=true:=by simpa [ao2] using hl
 have h3:jU base fn s=some (.sref base off n z,some ⟨s.H.take base++[.cS cs],s.lo⟩):=by
  unfold jU pQ mG
  rw[h1,hm,hr]
  simp only[cond_true,qI,hN,hT,aG,aoe,hH,h2,hp,apb]
 unfold finish
 rw[h3,aok,rm hn]
theorem zC{l:List bq} : (l.map AV.str).all AV.plain=true:=by simp[AV.plain]
theorem X0(l:List bq)(H:ah)(hl:l.length<=1000000) :
  aD A 43 [.slice (strs l) false] H=some (.sref H.length 0 (l.length+1) 1,some ⟨H++[.cS ((gD l).map .str)],H.length⟩):=by
 have key:∃ r,aD A 43 [.slice (strs l) false] H=some r/\r=(.sref H.length 0 (l.length+1) 1,some ⟨H++[.cS ((gD l).map .str)],H.length⟩):=by
  refine mQ (fn:=QX) rfl rfl rfl ?_
  unfold QX
  simp(disch:=omega)only[aP,aa,simprocAttr,aW,Bt]
  refine bM (l.length+1) 0 (fun i s=>1<=i/\Tn (fun T=>T 0=.slice (strs l) false/\T 3=.sref H.length 0 (l.length+1) 1/\T 4=.int .i64 i) (H++[.box bV (part l i)]) H.length s)
   (Tn (fun T=>T 3=.sref H.length 0 (l.length+1) 1) (H++[.box bV ((gD l).map .str)]) H.length) (fun _=>False) ?_ ?_ ?_ 1 _ (by omega) ?_
  ·rintro i s hi ⟨h1i,hs⟩
   obtain⟨T,g,rfl,h0,h3,h4⟩:=hs.out
   simp(disch:=omega)only[aP,aa,simprocAttr,h0,h3,h4,aW]
   refine jf ?_ ?_<;>intro h
   ·have lD:i<l.length:=by omega
    have e1:=an' lD
    have e2:=an' (show i-1<l.length by omega)
    have en:asNat (.int .i64 ((i:Int)-1))=some (i-1):=by rw[fX (by omega)];congr 1;omega
    simp(disch:=omega)only[aP,aa,simprocAttr,h0,h3,h4,en,fa e1,fa e2,XW]
    cases ht:tM l[i-1] l[i] with
    | true =>
     have hu:js l i=[]:=by
      rw[js,if_neg]
      rintro ⟨_,_,h⟩
      rw[getD_at lD,getD_at (show i-1<l.length by omega),ht] at h
      cases h
     simp(disch:=omega)only[aP,aa,simprocAttr,h0,h3,h4]
     exact⟨by omega,by rw[MV l i hu]⟩
    | false =>
     have hu:tM (l.getD (i-1) []) (l.getD i [])=false:=by rw[getD_at lD,getD_at (show i-1<l.length by omega),ht]
     simp(disch:=omega)only[Ox,jy,gF,j0,iS,tG,cd,aE,dG,aF.eval,AS.cH,↓reduceIte,Nat.reduceEqDiff,Option.isSome,Option.isNone,cond_true,an8,Nat.reduceBEq,Nat.reduceAdd,Nat.reduceMul,aa,gP,eq_self,reduceCtorEq,rB,iG,gQ,fD,bound,kP,AS.cI,bQ,fm,dm,Nat.reduceLeDiff,im,putAt,Int.reduceEq,Int.reduceLT,Int.reduceLE,Int.reduceBEq,Int.reduceBNe,Int.reduceAdd,Int.reduceNeg,Int.reduceSub,Int.reduceMul,qW,qV,qU,qT,qS,qR,qY,qX,br,fX,Int.toNat_natCast,aps,h0,h3,h4,cr,heap_set,Hb,ar]
     exact⟨by omega,by rw[apT,ao5,RS l i h1i lD hu]⟩
   ·simp(disch:=omega)only[aP,aa,simprocAttr,h3]
    rw[RR l i (by omega)]
  ·intro s hs
   obtain⟨T,g,rfl,h3⟩:=hs.out
   simp(disch:=omega)only[aP,aa,simprocAttr,h3]
   exact⟨_,wv (t:=2) (off:=0) (n:=l.length+1) (z:=1) rfl (by decide) (by simp[aQ.put]) cr (aoa _) zC rfl,by simp[rO]⟩
  ·intro s hs;exact hs.elim
  ·simp(disch:=omega)only[aP,aa,simprocAttr]
   rw[show ((l.length:Int)+1).toNat=l.length+1 by omega,Bt];exact⟨rfl,rfl⟩
 obtain⟨r,h,rfl⟩:=key
 exact h
theorem Np{l:List bq}{i:Nat}(h:i<l.length+1):(gD l)[i]?=some (js l i):=by simp[gD,apW h]
theorem mZ{l:List bq} : (gD l).length=l.length+1:=by simp[gD]
theorem zH{l:List bq}{i:Nat}(h:i<l.length+1):(gD l).take (i+1)=(gD l).take i++[js l i]:=by
 rw[ap4,Np h];rfl
theorem Ko{l:List bq}{i:Nat}(h1:1<=i)(h:i<=l.length):js l i=if i=l.length\/l.getD (i-1) []=[40]\/l.getD (i-1) []=[91]\/l.getD (i-1) []=[46]\/l.getD i []=[41]\/l.getD i []=[93]\/l.getD i []=[44]\/l.getD i []=[46] then [] else [32]:=by
 unfold js tM
 by_cases hi:i=l.length
 ·rw[if_neg (by omega),if_pos (.inl hi)]
 ·have bf:i<l.length:=by omega
  generalize l.getD (i-1) []=a
  generalize l.getD i []=b
  by_cases c1:a=[40]
  ·simp[c1,hi]
  by_cases c2:a=[91]
  ·simp[c2,hi]
  by_cases c3:a=[46]
  ·simp[c3,hi]
  by_cases c4:b=[41]
  ·simp[c4,hi]
  by_cases c5:b=[93]
  ·simp[c5,hi]
  by_cases c6:b=[44]
  ·simp[c6,hi]
  by_cases c7:b=[46]
  ·simp[c7,hi]
  simp[c1,c2,c3,c4,c5,c6,c7,hi,h1,bf]
theorem S1(l:List bq)(H:ah)(hl:l.length<=1000000):aD A 82 [.slice (strs l) false] H=some (.sref H.length 0 (l.length+1) 1,some ⟨H++[.cS ((gD l).map .str)],H.length⟩):=by
 have key:∃ r,aD A 82 [.slice (strs l) false] H=some r/\r=(.sref H.length 0 (l.length+1) 1,some ⟨H++[.cS ((gD l).map .str)],H.length⟩):=by
  refine mQ (fn:=Rf) rfl rfl rfl ?_
  unfold Rf
  simp(disch:=omega)only[aP,aa,simprocAttr,aW,show dP [[AV.str []]]=true from rfl,aoP,aph,aoZ,an5,an6]
  refine bM (l.length+1) 0 (fun i s=>1<=i/\∃ T D g,s=⟨T,D++[.box bV (((gD l).take i).map .str)],H.length,g⟩/\H.length<=D.length/\D.take H.length=H/\T 0=.slice (strs l) false/\T 3=.sref D.length 0 i 1/\T 4=.int .i64 i)
   (fun s=>∃ T D g,s=⟨T,D++[.box bV ((gD l).map .str)],H.length,g⟩/\H.length<=D.length/\D.take H.length=H/\T 3=.sref D.length 0 (l.length+1) 1) (fun _=>False) ?_ ?_ ?_ 1 _ (by omega) ?_
  ·rintro i s hi ⟨h1i,T,D,g,rfl,hD,hDt,h0,h3,h4⟩
   simp(disch:=omega)only[aP,aa,simprocAttr,h0,h4,aW]
   refine jf ?_ ?_<;>intro h
   ·have lD:i<=l.length:=by omega
    have e2:=an' (show i-1<l.length by omega)
    have en:asNat (.int .i64 ((i:Int)-1))=some (i-1):=by rw[fX (by omega)];congr 1;omega
    have hu:=Ko h1i lD
    have ht:=zH (l:=l) (i:=i) (by omega)
    have hlen:(((gD l).take i).map AV.str).length=i*1:=by rw[aoA,List.length_take,mZ];omega
    have vG:decide (D.length<H.length)=false:=by simp;omega
    have tR:=fun (x:bq) (os:List aM) (T0:aQ) (lo gen:Nat) (Q:AS->Prop)=>Kt (A:=A) (T:=T0) (lo:=lo) (gen:=gen) (K:=Q) (os:=os) (t:=64) (H:=D++[.box bV (((gD l).take i).map .str)]) (sz:=1) (bytes:=16) (n:=i) (l:=D.length) (ty:=bV) (cs:=((gD l).take i).map .str) (f:=[[.str x]]) (own:=true) cr hlen (by simp only[an5,an6];omega) (by simp only[an5,an6];omega) rfl rfl
    rw[getD_at (show i-1<l.length by omega)] at hu
    have YT:=fun h=>hu.trans (if_pos h)
    have mk1:=fun h=>hu.trans (if_neg h)
    have fin:∀ (T' : aQ) (g' : Nat) (x:bq),(gD l).take (i+1)=(gD l).take i++[x]->T' 0=.slice (strs l) false->T' 3=.sref (D.length+1) 0 (i+1) 1->T' 4=.int .i64 ((i:Int)+1) ->
      i<l.length+1/\∃ T D0 g,(⟨T',D++[bZ.dead,bZ.box bV (((gD l).take i).map .str++[.str x])],H.length,g'⟩:AS)=⟨T,D0++[.box bV (((gD l).take (i+1)).map .str)],H.length,g⟩/\H.length<=D0.length/\D0.take H.length=H/\T 0=.slice (strs l) false/\T 3=.sref D0.length 0 (i+1) 1/\T 4=.int .i64 ((i:Int)+1):=by
     intro T' g' x hx q0 q3 q4
     refine⟨by omega,T',D++[.dead],g',?_,by rw[List.length_append];omega,by rw[apJ hD,hDt],q0,by rw[q3,List.length_append];rfl,q4⟩
     rw[hx,List.map_append,ao5];rfl
    cases c0:((i:Int)==(l.length:Int)) with
    | true =>
     rw[YT (.inl (by have:=ao3.1 c0;omega))] at ht
     simp(disch:=omega)only[aP,aa,simprocAttr,h0,h3,h4,en,fa e2,aW,c0,tR,an5,an6,aoP,aph,aoZ,vG]
     refine fin _ _ _ ht ?_ ?_ ?_
     ·simp(disch:=omega)only[aN,aa,simprocAttr,h0]
     ·simp(disch:=omega)only[aN,aa,simprocAttr,List.length_append,an5,an6]
     ·simp(disch:=omega)only[aN,aa,simprocAttr]
    | false =>
    cases c1:(l[i-1]==[40]) with
    | true =>
     rw[YT (.inr (.inl (ao3.1 c1)))] at ht
     simp(disch:=omega)only[aP,aa,simprocAttr,h0,h3,h4,en,fa e2,aW,c0,c1,tR,an5,an6,aoP,aph,aoZ,vG]
     refine fin _ _ _ ht ?_ ?_ ?_
     ·simp(disch:=omega)only[aN,aa,simprocAttr,h0]
     ·simp(disch:=omega)only[aN,aa,simprocAttr,List.length_append,an5,an6]
     ·simp(disch:=omega)only[aN,aa,simprocAttr]
    | false =>
    cases c2:(l[i-1]==[91]) with
    | true =>
     rw[YT (.inr (.inr (.inl (ao3.1 c2))))] at ht
     simp(disch:=omega)only[aP,aa,simprocAttr,h0,h3,h4,en,fa e2,aW,c0,c1,c2,tR,an5,an6,aoP,aph,aoZ,vG]
     refine fin _ _ _ ht ?_ ?_ ?_
     ·simp(disch:=omega)only[aN,aa,simprocAttr,h0]
     ·simp(disch:=omega)only[aN,aa,simprocAttr,List.length_append,an5,an6]
     ·simp(disch:=omega)only[aN,aa,simprocAttr]
    | false =>
    cases c3:(l[i-1]==[46]) with
    | true =>
     rw[YT (.inr (.inr (.inr (.inl (ao3.1 c3)))))] at ht
     simp(disch:=omega)only[aP,aa,simprocAttr,h0,h3,h4,en,fa e2,aW,c0,c1,c2,c3,tR,an5,an6,aoP,aph,aoZ,vG]
     refine fin _ _ _ ht ?_ ?_ ?_
     ·simp(disch:=omega)only[aN,aa,simprocAttr,h0]
     ·simp(disch:=omega)only[aN,aa,simprocAttr,List.length_append,an5,an6]
     ·simp(disch:=omega)only[aN,aa,simprocAttr]
    | false =>
    have dn:¬ (i:Int)=l.length:=by
     intro e;rw[e] at c0;simp at c0
    have bf:i<l.length:=by omega
    have e1:=an' bf
    have eb:=getD_at (d:=([]:bq)) bf
    cases c4:(l[i]==[41]) with
    | true =>
     rw[YT (.inr (.inr (.inr (.inr (.inl (eb.trans (ao3.1 c4)))))))] at ht
     simp(disch:=omega)only[aP,aa,simprocAttr,h0,h3,h4,en,fa e2,aW,fa e1,c0,c1,c2,c3,c4,tR,an5,an6,aoP,aph,aoZ,vG]
     refine fin _ _ _ ht ?_ ?_ ?_
     ·simp(disch:=omega)only[aN,aa,simprocAttr,h0]
     ·simp(disch:=omega)only[aN,aa,simprocAttr,List.length_append,an5,an6]
     ·simp(disch:=omega)only[aN,aa,simprocAttr]
    | false =>
    cases c5:(l[i]==[93]) with
    | true =>
     rw[YT (.inr (.inr (.inr (.inr (.inr (.inl (eb.trans (ao3.1 c5))))))))] at ht
     simp(disch:=omega)only[aP,aa,simprocAttr,h0,h3,h4,en,fa e2,aW,fa e1,c0,c1,c2,c3,c4,c5,tR,an5,an6,aoP,aph,aoZ,vG]
     refine fin _ _ _ ht ?_ ?_ ?_
     ·simp(disch:=omega)only[aN,aa,simprocAttr,h0]
     ·simp(disch:=omega)only[aN,aa,simprocAttr,List.length_append,an5,an6]
     ·simp(disch:=omega)only[aN,aa,simprocAttr]
    | false =>
    cases c6:(l[i]==[44]) with
    | true =>
     rw[YT (.inr (.inr (.inr (.inr (.inr (.inr (.inl (eb.trans (ao3.1 c6)))))))))] at ht
     simp(disch:=omega)only[aP,aa,simprocAttr,h0,h3,h4,en,fa e2,aW,fa e1,c0,c1,c2,c3,c4,c5,c6,tR,an5,an6,aoP,aph,aoZ,vG]
     refine fin _ _ _ ht ?_ ?_ ?_
     ·simp(disch:=omega)only[aN,aa,simprocAttr,h0]
     ·simp(disch:=omega)only[aN,aa,simprocAttr,List.length_append,an5,an6]
     ·simp(disch:=omega)only[aN,aa,simprocAttr]
    | false =>
    cases c7:(l[i]==[46]) with
    | true =>
     rw[YT (.inr (.inr (.inr (.inr (.inr (.inr (.inr (eb.trans (ao3.1 c7)))))))))] at ht
     simp(disch:=omega)only[aP,aa,simprocAttr,h0,h3,h4,en,fa e2,aW,fa e1,c0,c1,c2,c3,c4,c5,c6,c7,tR,an5,an6,aoP,aph,aoZ,vG]
     refine fin _ _ _ ht ?_ ?_ ?_
     ·simp(disch:=omega)only[aN,aa,simprocAttr,h0]
     ·simp(disch:=omega)only[aN,aa,simprocAttr,List.length_append,an5,an6]
     ·simp(disch:=omega)only[aN,aa,simprocAttr]
    | false =>
    have c1':=apA.1 c1;have c2':=apA.1 c2;have c3':=apA.1 c3;have c4':=apA.1 c4;have c5':=apA.1 c5;have c6':=apA.1 c6;have c7':=apA.1 c7
    rw[mk1 (by rw[eb];simp[show ¬ i=l.length by omega,c1',c2',c3',c4',c5',c6',c7'])] at ht
    simp(disch:=omega)only[aP,aa,simprocAttr,h0,h3,h4,en,fa e2,aW,fa e1,c0,c1,c2,c3,c4,c5,c6,c7,tR,an5,an6,aoP,aph,aoZ,vG]
    refine fin _ _ _ ht ?_ ?_ ?_
    ·simp(disch:=omega)only[aN,aa,simprocAttr,h0]
    ·simp(disch:=omega)only[aN,aa,simprocAttr,List.length_append,an5,an6]
    ·simp(disch:=omega)only[aN,aa,simprocAttr]
   ·simp(disch:=omega)only[aP,aa,simprocAttr,h3]
    exact⟨_,D,_,by rw[aoJ (by rw[mZ];omega)],hD,hDt,by simp(disch:=omega)only[aN,aa,simprocAttr,h3,show i=l.length+1 by omega]⟩
  ·rintro s ⟨T,D,g,rfl,hD,hDt,h3⟩
   simp(disch:=omega)only[aP,aa,simprocAttr,h3]
   exact⟨_,wv (t:=2) (off:=0) (n:=l.length+1) (z:=1) rfl (by decide) (by simp[aQ.put]) cr hD zC rfl,by rw[apJ hD,hDt]⟩
  ·intro s hs;exact hs.elim
  ·simp(disch:=omega)only[aP,aa,simprocAttr]
   have e1:(gD l).take 1=[[]]:=by rw[show (1:Nat)=0+1 from rfl,zH (by omega)];simp[js]
   refine⟨_,H,_,by rw[e1];rfl,aoa _,apm,?_,?_,?_⟩
   ·simp(disch:=omega)only[aN,aa,simprocAttr]
   ·simp(disch:=omega)only[aN,aa,simprocAttr]
   ·simp(disch:=omega)only[aN,aa,simprocAttr]
 obtain⟨r,h,rfl⟩:=key
 exact h
structure Fd where
 name:bq
 wn:bq
 wk:List Wd
 ga:Int
structure Fm where
 kind:Int
 name:bq
 a8:List Fd
 rn:bq
 rk:List Wd
 body:Tm
 layout:List bq
structure So where
 name:bq
 cB:List bq
 defs:List Fm
 head:List bq
 fin:bq
def dX(f:Fd):List AV:=[.str f.name,.str f.wn,.slice (az f.wk) false,.int .i64 f.ga]
def cN(f:Fm):List AV:=[.int .i64 f.kind,.str f.name,.slice (f.a8.map dX) false,.str f.rn,.slice (az f.rk) false,
 .int .i64 f.body.kind,.int .i64 f.body.n,.str f.body.name,.str f.body.field,.str f.body.wn,.slice (az f.body.wk) false,.slice (au f.body.kids) false,.slice (strs f.body.names) false,.slice (strs f.layout) false]
def iL(s:So):List AV:=[.str s.name,.slice (strs s.cB) false,.slice (s.defs.map cN) false,.slice (strs s.head) false,.str s.fin]
structure FdB (f:Fd):Prop where
 a:f.name.length<=20
 w:wi 3 (.mk f.wn f.wk)
 m:-2199023255552<=f.ga/\f.ga<=2199023255552
structure HP (f:Fm):Prop where
 k:0<=f.kind/\f.kind<=5
 a:f.name.length<=20
 sl:f.a8.length<=3
 sb:∀ s∈f.a8,FdB s
 w:wi 3 (.mk f.rn f.rk)
 b:Lp 5 f.body
 ll:f.layout.length<=20000
 lb:∀ s∈f.layout,s.length<=20
structure To (s:So):Prop where
 a:s.name.length<=20
 ul:s.cB.length<=10
 ub:∀ u∈s.cB,u.length<=20
 dl:s.defs.length<=3
 db:∀ f∈s.defs,HP f
 hl:s.head.length<=20000
 hb:∀ u∈s.head,u.length<=20
 e:s.fin.length<=20
theorem KE{l:List Fd}{i:Nat}{e:Fd}(h:l[i]?=some e):(l.map dX)[i]?=some (dX e):=by simp[h]
theorem FQ{l:List Fm}{i:Nat}{e:Fm}(h:l[i]?=some e):(l.map cN)[i]?=some (cN e):=by simp[h]
theorem jD{l:List Fd} : (l.map dX).length=l.length:=aoA _
theorem ny{l:List Fm} : (l.map cN).length=l.length:=aoA _
def n8(n:bq)(ks:List Wd):Bool:=n==[]&&ks.isEmpty
def gy(t:Tm):Bool:=t.kind==0&&(t.n==0&&(t.name==[]&&(t.field==[]&&(n8 t.wn t.wk&&(t.names==[]&&t.kids.isEmpty)))))
def bA(k:Int)(f:Fd):Bool:=isWord f.name&&bc (.mk f.wn f.wk)&&decide (0<=f.ga)&&decide (f.ga<=1099511627776)&&(decide (k=4) || decide (f.ga=0))
def dI(f:Fm):Bool:=isWord f.name&&f.a8.all (bA f.kind)&&bif decide (f.kind=0) || decide (f.kind=1) then n8 f.rn f.rk&&gy f.body else bc (.mk f.rn f.rk)&&ai f.body
def cK(k:Int)(f:Fd):List bq:=[f.name]++dh (.mk f.wn f.wk)++(if k=4 then [mF f.ga.toNat] else [])
def nA(f:Fm):List bq:=[nN.getD f.kind.toNat [],f.name,[40]]++aO (f.a8.map (cK f.kind))++[[41]]++(if f.kind=0\/f.kind=1 then [] else dh (.mk f.rn f.rk)++[[61]]++ay f.body)
def heads(s:So):List bq:=[[109,111,100,117,108,101],s.name]++(s.cB.map fun u=>[[117,115,101],u]).flatten
theorem tO:az []=[]:=by simp[az]
theorem Sr(n:bq)(ks:List Wd)(H:ah):aD A 109 [.agg [.str n,.slice (az ks) false],.agg [.str [],.slice [] false]] H=some (.bool (n8 n ks),none):=by
 refine aB (fn:=Gc) rfl rfl rfl ?_
 unfold Gc
 cases h1:(n==[]) with
 | false=>simp(disch:=omega)only[aP,aa,simprocAttr,h1,n8,aoq]
 | true =>
 cases ks with
 | cons k r =>
  have e:¬ (((az (k :: r)).length:Int)=0):=by rw[dj,an5];omega
  simp(disch:=omega)only[aP,aa,simprocAttr,h1,e,an6,aoI,n8,List.isEmpty_cons,Bool.and_false]
 | nil =>
  simp(disch:=omega)only[aP,aa,simprocAttr,h1,tO,an6,aoI,n8,List.isEmpty_nil,Bool.and_true,aou]
  refine bM 0 0 (fun i s=>Tn (fun T=>T 2=.lbox 0 [.str n,.slice [] false]/\T 5=.int .i64 0) H H.length s) (Tn (fun T=>True) H H.length) (fun _=>False) ?_ ?_ (fun _ h=>h.elim) 0 _ (aoa _) ?_
  ·rintro i s hi hs
   obtain⟨T,g,rfl,e2,e5⟩:=hs.out
   simp(disch:=omega)only[aP,aa,simprocAttr,e2,e5,an6,aoI]
  ·intro s hs
   obtain⟨T,g,rfl, -⟩:=hs.out
   simp(disch:=omega)only[aP,aa,simprocAttr]
  ·simp(disch:=omega)only[aP,aa,simprocAttr]
theorem Sq(t:Tm)(qk:t.names.length<=1000000)(H:ah):aD A 69 [.agg (cE t),.agg [.int .i64 0,.int .i64 0,.str [],.str [],.str [],.slice [] false,.slice [] false,.slice [] false]] H=some (.bool (gy t),none):=by
 have hw:=Sr t.wn t.wk H
 have hs:=acI t.names [] H false false qk
 rw[gv] at hs
 refine aB (fn:=Q4) rfl rfl rfl ?_
 unfold Q4
 rw[an]
 cases c1:(t.kind==0) with
 | false=>simp(disch:=omega)only[aP,aa,simprocAttr,c1,hw,hs,bne,qk,gy,aoq,aou,aoj,aom]
 | true =>
 cases c2:(t.n==0) with
 | false=>simp(disch:=omega)only[aP,aa,simprocAttr,c1,c2,hw,hs,bne,qk,gy,aoq,aou,aoj,aom]
 | true =>
 cases c3:(t.name==[]) with
 | false=>simp(disch:=omega)only[aP,aa,simprocAttr,c1,c2,c3,hw,hs,bne,qk,gy,aoq,aou,aoj,aom]
 | true =>
 cases c4:(t.field==[]) with
 | false=>simp(disch:=omega)only[aP,aa,simprocAttr,c1,c2,c3,c4,hw,hs,bne,qk,gy,aoq,aou,aoj,aom]
 | true =>
 cases c5:n8 t.wn t.wk with
 | false=>simp(disch:=omega)only[aP,aa,simprocAttr,c1,c2,c3,c4,c5,hw,hs,bne,qk,gy,aoq,aou,aoj,aom]
 | true =>
 cases c6:(t.names==[]) with
 | false=>simp(disch:=omega)only[aP,aa,simprocAttr,c1,c2,c3,c4,c5,c6,hw,hs,bne,qk,gy,aoq,aou,aoj,aom]
 | true =>
 cases hk:t.kids.isEmpty with
 | false =>
  have e:((t.kids.length:Int)==0)=false:=by
   cases h:t.kids with
   | nil=>rw[h] at hk;cases hk
   | cons a r=>simp;omega
  simp(disch:=omega)only[aP,aa,simprocAttr,c1,c2,c3,c4,c5,c6,hw,hs,bne,qk,hk,e,bB,an6,aoI,gy,aoq,aou,aoj,aom]
 | true =>
  have e:t.kids=[]:=aqp.1 hk
  rw[e]
  simp(disch:=omega)only[aP,aa,simprocAttr,c1,c2,c3,c4,c5,c6,hw,hs,bne,qk,hk,au,bB,an6,aoI,gy,aoq,aou,aoj,aom]
  refine bM 0 0 (fun i s=>Tn (fun T=>T 2=.lbox 0 [.int .i64 t.kind,.int .i64 t.n,.str t.name,.str t.field,.str t.wn,.slice (az t.wk) false,.slice [] false,.slice (strs t.names) false]/\T 5=.int .i64 0) H H.length s) (Tn (fun T=>True) H H.length) (fun _=>False) ?_ ?_ (fun _ h=>h.elim) 0 _ (aoa _) ?_
  ·rintro i s hi hs
   obtain⟨T,g,rfl,e2,e5⟩:=hs.out
   simp(disch:=omega)only[aP,aa,simprocAttr,e2,e5,an6,aoI]
  ·intro s hs
   obtain⟨T,g,rfl, -⟩:=hs.out
   simp(disch:=omega)only[aP,aa,simprocAttr]
  ·simp(disch:=omega)only[aP,aa,simprocAttr]
theorem gE{α:Type}{l:List α}{i:Nat}{u:α}(h:l[i]?=some u):l.take (i+1)=l.take i++[u]:=by rw[ap4,h];rfl
theorem Wp{f:Fm}(hb:HP f)(H:ah):aD A 37 [.agg (cN f)] H=some (.bool (dI f),none):=by
 have hw:=oA f.name H (by have:=hb.a;omega)
 obtain⟨k0,k5⟩:=hb.k
 have hr:=vT 3 (.mk f.rn f.rk) H hb.w
 rw[gz] at hr
 have hpt:=Bw 5 f.body H hb.b
 have qk:f.body.names.length<=1000000:=by have:=hb.b.out.nl;omega
 have hz:=Sq f.body qk H
 rw[an] at hpt hz
 refine aB (fn:=QU) rfl rfl rfl ?_
 rw[cN]
 unfold QU
 cases hn:isWord f.name with
 | false =>
  have e:dI f=false:=by unfold dI;rw[hn];rfl
  simp(disch:=omega)only[aP,aa,simprocAttr,hw,hn,e]
 | true =>
 simp(disch:=omega)only[aP,aa,simprocAttr,hw,hn]
 refine bM f.a8.length 0 (fun i s=>∃ T g,s=⟨T,H,H.length,g⟩/\T 1=.lbox 0 [.int .i64 f.kind,.str f.name,.slice (f.a8.map dX) false,.str f.rn,.slice (az f.rk) false,.int .i64 f.body.kind,.int .i64 f.body.n,.str f.body.name,.str f.body.field,.str f.body.wn,.slice (az f.body.wk) false,.slice (au f.body.kids) false,.slice (strs f.body.names) false,.slice (strs f.layout) false]/\T 3=.int .i64 i/\(f.a8.take i).all (bA f.kind)=true)
  (fun s=>∃ T g,s=⟨T,H,H.length,g⟩/\T 1=.lbox 0 [.int .i64 f.kind,.str f.name,.slice (f.a8.map dX) false,.str f.rn,.slice (az f.rk) false,.int .i64 f.body.kind,.int .i64 f.body.n,.str f.body.name,.str f.body.field,.str f.body.wn,.slice (az f.body.wk) false,.slice (au f.body.kids) false,.slice (strs f.body.names) false,.slice (strs f.layout) false]/\f.a8.all (bA f.kind)=true) (fun s=>fin H.length [.tmp 2] s=some (.bool (dI f),none)) ?_ ?_ ?_ 0 _ (ao9 _) ?_
 ·rintro i s hi ⟨T,g,rfl,e1,e3,dA⟩
  by_cases bf:i<f.a8.length
  ·have hx:=an' bf
   have hm:=aoW bf
   have j6:=gE hx
   generalize f.a8[i]=u at hx hm j6
   have fE:=KE hx
   rw[dX] at fE
   have hu:=hb.sb u hm
   obtain⟨m0,m1⟩:=hu.m
   have hwu:=oA u.name H (by have:=hu.a;omega)
   have Jn:=vT 3 (.mk u.wn u.wk) H hu.w
   rw[gz] at Jn
   have Mm:bA f.kind u=false->dI f=false:=by
    intro h
    have:f.a8.all (bA f.kind)=false:=by rw[List.all_eq_false];exact⟨u,hm,by rw[h];decide⟩
    unfold dI;rw[this,Bool.and_false];rfl
   have Yx:bA f.kind u=true->(f.a8.take (i+1)).all (bA f.kind)=true:=by
    intro h;rw[j6,List.all_append,dA,ao6,h];rfl
   unfold bA at Mm Yx
   have hf4:f.a8.length<=3:=hb.sl
   cases a1:isWord u.name with
   | false =>
    have e:=Mm (by simp[a1])
    simp(disch:=omega)only[aP,aa,simprocAttr,e1,e3,jD,fE,hwu,Jn,a1,e]
   | true =>
   cases a2:bc (.mk u.wn u.wk) with
   | false =>
    have e:=Mm (by simp[a1,a2])
    simp(disch:=omega)only[aP,aa,simprocAttr,e1,e3,jD,fE,hwu,Jn,a1,a2,e]
   | true =>
   by_cases a3:u.ga<0
   ·have e:=Mm (by simp[show ¬ 0<=u.ga by omega])
    simp(disch:=omega)only[aP,aa,simprocAttr,e1,e3,jD,fE,hwu,Jn,a1,a2,e]
   by_cases a4:1099511627776<u.ga
   ·have e:=Mm (by simp[show ¬ u.ga<=1099511627776 by omega])
    simp(disch:=omega)only[aP,aa,simprocAttr,e1,e3,jD,fE,hwu,Jn,a1,a2,e]
   by_cases a5:f.kind=4
   ·have e:=Yx (by simp[a1,a2,a5];omega)
    simp(disch:=omega)only[aP,aa,simprocAttr,e1,e3,jD,fE,hwu,Jn,a1,a2]
    exact⟨bf,_,_,rfl,by simp(disch:=omega)only[aN,aa,simprocAttr,e1],by simp(disch:=omega)only[aN,aa,simprocAttr],e⟩
   by_cases a6:u.ga=0
   ·have e:=Yx (by simp[a1,a2,a6])
    simp(disch:=omega)only[aP,aa,simprocAttr,e1,e3,jD,fE,hwu,Jn,a1,a2]
    exact⟨bf,_,_,rfl,by simp(disch:=omega)only[aN,aa,simprocAttr,e1],by simp(disch:=omega)only[aN,aa,simprocAttr],e⟩
   ·have e:=Mm (by simp[a5,a6])
    simp(disch:=omega)only[aP,aa,simprocAttr,e1,e3,jD,fE,hwu,Jn,a1,a2,e]
  ·simp(disch:=omega)only[aP,aa,simprocAttr,e1,e3,jD]
   exact⟨_,_,rfl,by simp(disch:=omega)only[aN,aa,simprocAttr,e1],by rw[<- dA,aoJ (by omega)]⟩
 ·rintro s ⟨T,g,rfl,e1,dA⟩
  have hp:dI f=bif decide (f.kind=0) || decide (f.kind=1) then n8 f.rn f.rk&&gy f.body else bc (.mk f.rn f.rk)&&ai f.body:=by
   unfold dI;rw[hn,dA];rfl
  by_cases b0:f.kind=0\/f.kind=1
  ·have e:dI f=(n8 f.rn f.rk&&gy f.body):=by
    rw[hp];rcases b0 with b|b<;>simp[b]
   rw[e]
   unfold n8
   have hk:(f.kind==0)=true\/(f.kind==0)=false/\(f.kind==1)=true:=by
    rcases b0 with b|b
    ·exact .inl (by simp[b])
    ·exact .inr (by simp[b])
   rcases hk with hk|⟨hk,vK⟩
   ·cases d1:(f.rn==[]) with
    | false=>simp(disch:=omega)only[aP,aa,simprocAttr,e1,hk,d1,aoq]
    | true =>
    cases d2:f.rk.isEmpty with
    | false =>
     have e2:((f.rk.length:Int)==0)=false:=by
      cases h:f.rk with
      | nil=>rw[h] at d2;cases d2
      | cons a r=>simp;omega
     simp(disch:=omega)only[aP,aa,simprocAttr,e1,hk,d1,d2,e2,dj,aoq,aou]
    | true =>
     have e2:((f.rk.length:Int)==0)=true:=by rw[aqp.1 d2];rfl
     simp(disch:=omega)only[aP,aa,simprocAttr,e1,hk,d1,d2,e2,hz,dj,aou,cn]
   ·cases d1:(f.rn==[]) with
    | false=>simp(disch:=omega)only[aP,aa,simprocAttr,e1,hk,vK,d1,aoq]
    | true =>
    cases d2:f.rk.isEmpty with
    | false =>
     have e2:((f.rk.length:Int)==0)=false:=by
      cases h:f.rk with
      | nil=>rw[h] at d2;cases d2
      | cons a r=>simp;omega
     simp(disch:=omega)only[aP,aa,simprocAttr,e1,hk,vK,d1,d2,e2,dj,aoq,aou]
    | true =>
     have e2:((f.rk.length:Int)==0)=true:=by rw[aqp.1 d2];rfl
     simp(disch:=omega)only[aP,aa,simprocAttr,e1,hk,vK,d1,d2,e2,hz,dj,aou,cn]
  ·have e:dI f=(bc (.mk f.rn f.rk)&&ai f.body):=by
    rw[hp,show (decide (f.kind=0) || decide (f.kind=1))=false by simpa using b0];rfl
   rw[e]
   have c0:f.kind≠0:=fun h=>b0 (.inl h)
   have c1:f.kind≠1:=fun h=>b0 (.inr h)
   cases a1:bc (.mk f.rn f.rk) with
   | false=>simp(disch:=omega)only[aP,aa,simprocAttr,e1,hr,a1,aoq]
   | true=>simp(disch:=omega)only[aP,aa,simprocAttr,e1,hr,hpt,a1,aou]
 ·intro s hs;exact hs
 ·exact⟨_,_,rfl,by simp(disch:=omega)only[aN,aa,simprocAttr],by simp(disch:=omega)only[aN,aa,simprocAttr,aoI],by simp⟩
def gn(f:Fm):List bq:=if dI f=true then nA f else []
def fB(s:So):List bq:=if isWord s.name=true/\s.cB.all isWord=true then heads s else []
theorem Rs{f:Fm}(hb:HP f):([[.str [114,101,99]],[.str [99,97,115,101]],[.str [102,117,110]],[.str [111,110]],[.str [116,101,115,116]],[.str [99,111,110,118]]]:List (List AV))[f.kind.toNat]?=some [.str (nN.getD f.kind.toNat [])]:=by
 obtain⟨k0,k5⟩:=hb.k
 have:f.kind.toNat=0\/f.kind.toNat=1\/f.kind.toNat=2\/f.kind.toNat=3\/f.kind.toNat=4\/f.kind.toNat=5:=by omega
 rcases this with h|h|h|h|h|h<;>rw[h]<;>rfl
theorem yp{k:Int}{u:Fd}(h:FdB u):(cK k u).length<=14:=by
 have:=kV 3 _ h.w
 unfold cK
 split<;>simp only[List.length_append,an5,an6]<;>omega
theorem J7{f:Fm}(h:dI f=true):(∀ u∈f.a8,bA f.kind u=true)/\(f.kind=0\/f.kind=1\/(bc (.mk f.rn f.rk)=true/\ai f.body=true)):=by
 unfold dI at h
 simp only[aod] at h
 obtain⟨⟨_,h1⟩,h2⟩:=h
 refine⟨aof.1 h1,?_⟩
 by_cases b0:f.kind=0
 ·exact .inl b0
 by_cases b1:f.kind=1
 ·exact .inr (.inl b1)
 simp[b0,b1] at h2
 exact .inr (.inr h2)
theorem A1{f:Fm}(hb:HP f):(nA f).length<=10000:=by
 have h1:=il (f.a8.map (cK f.kind)) 14 (fun x hx=>by
  obtain⟨u,hu,rfl⟩:=aoy.1 hx
  exact yp (hb.sb u hu))
 have h2:=kV 3 _ hb.w
 have h3:(ay f.body).length<=7260:=u7 5 f.body hb.b
 have h4:=hb.sl
 rw[aoA] at h1
 have h5:f.a8.length*(14+1)<=45:=by omega
 unfold nA
 split<;>simp only[List.length_append,an5,an6]<;>omega
theorem xC{f:Fm}(hb:HP f)(H:ah):aD A 19 [.agg (cN f)] H=some (.slice (strs (gn f)) (!(dI f) || !(decide (f.kind=0) || decide (f.kind=1))),none):=by
 have hp:=Wp hb H
 obtain⟨k0,k5⟩:=hb.k
 refine aB (fn:=QK) rfl rfl rfl ?_
 rw[cN] at hp ⊢
 unfold QK gn
 cases A8:dI f with
 | false =>
  rw[if_neg (by decide)]
  simp(disch:=omega)only[aP,aa,simprocAttr,hp,A8,gv,aoj,aoH]
 | true =>
 rw[if_pos rfl]
 obtain⟨uD,Pv⟩:=J7 A8
 have aax:=Rs hb
 simp(disch:=omega)only[aP,aa,simprocAttr,hp,A8,aax]
 generalize su:([nN.getD f.kind.toNat [],f.name,[40]]:List bq)=pre
 have ae8:pre.length=3:=by rw[<- su];rfl
 have hpc:([[.str (nN.getD f.kind.toNat [])],[.str f.name],[.str [40]]]:List (List AV))=strs pre:=by rw[<- su];rfl
 simp only[hpc]
 have Pe:nA f=pre++aO (f.a8.map (cK f.kind))++[[41]]++(if f.kind=0\/f.kind=1 then [] else dh (.mk f.rn f.rk)++[[61]]++ay f.body):=by unfold nA;rw[su]
 have hlen:=A1 hb
 have hf4:f.a8.length<=3:=hb.sl
 refine bM f.a8.length 0 (fun i s=>∃ T g,s=⟨T,H,H.length,g⟩/\T 1=.lbox 0 [.int .i64 f.kind,.str f.name,.slice (f.a8.map dX) false,.str f.rn,.slice (az f.rk) false,.int .i64 f.body.kind,.int .i64 f.body.n,.str f.body.name,.str f.body.field,.str f.body.wn,.slice (az f.body.wk) false,.slice (au f.body.kids) false,.slice (strs f.body.names) false,.slice (strs f.layout) false]/\T 4=.int .i64 i/\T 3=.slice (strs (pre++aO ((f.a8.take i).map (cK f.kind)))) true)
  (fun s=>∃ T g,s=⟨T,H,H.length,g⟩/\T 1=.lbox 0 [.int .i64 f.kind,.str f.name,.slice (f.a8.map dX) false,.str f.rn,.slice (az f.rk) false,.int .i64 f.body.kind,.int .i64 f.body.n,.str f.body.name,.str f.body.field,.str f.body.wn,.slice (az f.body.wk) false,.slice (au f.body.kids) false,.slice (strs f.body.names) false,.slice (strs f.layout) false]/\T 3=.slice (strs (pre++aO (f.a8.map (cK f.kind)))) true) (fun _=>False) ?_ ?_ (fun _ h=>h.elim) 0 _ (ao9 _) ?_
 ·rintro i s hi ⟨T,g,rfl,e1,e4,e3⟩
  by_cases bf:i<f.a8.length
  ·have hx:=an' bf
   have hm:=aoW bf
   have j6:=gE hx
   generalize f.a8[i]=u at hx hm j6
   have fE:=KE hx
   rw[dX] at fE
   have hu:=hb.sb u hm
   have Jn:=uD u hm
   unfold bA at Jn
   simp only[aod,aov,apZ] at Jn
   obtain⟨⟨⟨⟨u1,u2⟩,u3⟩,u4⟩,u5⟩:=Jn
   have Ur:=DB 3 (.mk u.wn u.wk) H (by omega) hu.w u2
   have hwl:=kV 3 _ hu.w
   rw[gz] at Ur
   have Ub:aD A 39 [.int .i64 u.ga] H=some (.str (mF u.ga.toNat),none):=by
    have:=x6 u.ga.toNat H (by omega)
    rwa [aqb u3] at this
   have hs:=jK (cK f.kind u) ((f.a8.take i).map (cK f.kind))
   have jZ:(f.a8.take (i+1)).map (cK f.kind)=(f.a8.take i).map (cK f.kind)++[cK f.kind u]:=by rw[j6];simp
   rw[<- jZ] at hs
   have Jg:(aO ((f.a8.take i).map (cK f.kind))).length<=45:=by
    have h1:=il ((f.a8.take i).map (cK f.kind)) 14 (fun x hx=>by
     obtain⟨v,hv,rfl⟩:=aoy.1 hx
     exact yp (hb.sb v (apx hv)))
    rw[aoA,List.length_take] at h1
    have:min i f.a8.length<=3:=by omega
    have:min i f.a8.length*(14+1)<=45:=by omega
    omega
   have step:∀ (base:List bq),base.length<=100->base++cK f.kind u=pre++aO ((f.a8.take (i+1)).map (cK f.kind)) ->
     aC false 1 16 (.slice (strs base) true) (.slice [[.str u.name]] true)=some (.slice (strs (base++[u.name])) true) /\
     aC false 1 16 (.slice (strs (base++[u.name])) true) (.slice (strs (dh (.mk u.wn u.wk))) true)=some (.slice (strs (base++[u.name]++dh (.mk u.wn u.wk))) true) /\
     (f.kind=4->aC false 1 16 (.slice (strs (base++[u.name]++dh (.mk u.wn u.wk))) true) (.slice [[.str (mF u.ga.toNat)]] true)=some (.slice (strs (pre++aO ((f.a8.take (i+1)).map (cK f.kind)))) true)) /\
     (f.kind≠4->base++[u.name]++dh (.mk u.wn u.wk)=pre++aO ((f.a8.take (i+1)).map (cK f.kind))):=by
    intro base Mn he
    refine⟨fj (by omega),cb (by simp;omega),fun h4=>?_,fun h4=>?_⟩
    ·rw[<- he];unfold cK;rw[if_pos h4]
     simp only[<- ao5]
     exact fj (by simp;omega)
    ·rw[<- he];unfold cK;rw[if_neg h4]
     simp only[<- ao5,aoZ]
   have L8:∀ (T' : aQ) (g' : Nat),T' 1=.lbox 0 [.int .i64 f.kind,.str f.name,.slice (f.a8.map dX) false,.str f.rn,.slice (az f.rk) false,.int .i64 f.body.kind,.int .i64 f.body.n,.str f.body.name,.str f.body.field,.str f.body.wn,.slice (az f.body.wk) false,.slice (au f.body.kids) false,.slice (strs f.body.names) false,.slice (strs f.layout) false]->T' 4=.int .i64 ((i:Int)+1)->T' 3=.slice (strs (pre++aO ((f.a8.take (i+1)).map (cK f.kind)))) true ->
     i<f.a8.length/\∃ T g,(⟨T',H,H.length,g'⟩:AS)=⟨T,H,H.length,g⟩/\T 1=.lbox 0 [.int .i64 f.kind,.str f.name,.slice (f.a8.map dX) false,.str f.rn,.slice (az f.rk) false,.int .i64 f.body.kind,.int .i64 f.body.n,.str f.body.name,.str f.body.field,.str f.body.wn,.slice (az f.body.wk) false,.slice (au f.body.kids) false,.slice (strs f.body.names) false,.slice (strs f.layout) false]/\T 4=.int .i64 ((i:Int)+1)/\T 3=.slice (strs (pre++aO ((f.a8.take (i+1)).map (cK f.kind)))) true :=
    fun T' g' q1 q2 q3=>⟨bf,_,_,rfl,q1,q2,q3⟩
   by_cases h0:i=0
   ·subst h0
    simp only[aoV,aol] at hs e3
    rw[if_pos trivial] at hs
    rw[show aO ([]:List (List bq))=[] from rfl,aoZ] at e3
    obtain⟨a1,a2,a3,a4⟩:=step pre (by omega) (by rw[hs])
    generalize pre++aO ((f.a8.take (0+1)).map (cK f.kind))=out at a3 a4 L8 ⊢
    generalize pre++[u.name]++dh (.mk u.wn u.wk)=b2 at a2 a3 a4
    generalize pre++[u.name]=b1 at a1 a2
    by_cases h4:f.kind=4
    ·have a3:=a3 h4
     simp(disch:=omega)only[aP,aa,simprocAttr,e1,e3,e4,jD,fE,Ur,Ub,a1,a2,a3]
     refine L8 _ _ ?_ ?_ ?_
     ·simp(disch:=omega)only[aN,aa,simprocAttr,e1]
     ·simp(disch:=omega)only[aN,aa,simprocAttr,e4]
     ·simp(disch:=omega)only[aN,aa,simprocAttr]
    ·have a4:=a4 h4
     simp(disch:=omega)only[aP,aa,simprocAttr,e1,e3,e4,jD,fE,Ur,Ub,a1,a2]
     refine L8 _ _ ?_ ?_ ?_
     ·simp(disch:=omega)only[aN,aa,simprocAttr,e1]
     ·simp(disch:=omega)only[aN,aa,simprocAttr,e4]
     ·simp(disch:=omega)only[aN,aa,simprocAttr,a4]
   ·have dn:¬ ((f.a8.take i).map (cK f.kind)=[]):=fun e=>by
     have:=apS List.length e
     rw[aoA,List.length_take,an6] at this
     omega
    rw[if_neg dn] at hs
    generalize aO ((f.a8.take i).map (cK f.kind))=acc at e3 Jg hs
    have a0:aC false 1 16 (.slice (strs (pre++acc)) true) (.slice [[.str [44]]] true)=some (.slice (strs (pre++acc++[[44]])) true):=fj (by simp;omega)
    obtain⟨a1,a2,a3,a4⟩:=step (pre++acc++[[44]]) (by simp;omega) (by rw[hs];simp)
    generalize pre++aO ((f.a8.take (i+1)).map (cK f.kind))=out at a3 a4 L8 ⊢
    generalize pre++acc++[[44]]++[u.name]++dh (.mk u.wn u.wk)=b2 at a2 a3 a4
    generalize pre++acc++[[44]]++[u.name]=b1 at a1 a2
    generalize pre++acc++[[44]]=b0 at a0 a1
    by_cases h4:f.kind=4
    ·have a3:=a3 h4
     simp(disch:=omega)only[aP,aa,simprocAttr,e1,e3,e4,jD,fE,Ur,Ub,a0,a1,a2,a3]
     refine L8 _ _ ?_ ?_ ?_
     ·simp(disch:=omega)only[aN,aa,simprocAttr,e1]
     ·simp(disch:=omega)only[aN,aa,simprocAttr,e4]
     ·simp(disch:=omega)only[aN,aa,simprocAttr]
    ·have a4:=a4 h4
     simp(disch:=omega)only[aP,aa,simprocAttr,e1,e3,e4,jD,fE,Ur,Ub,a0,a1,a2]
     refine L8 _ _ ?_ ?_ ?_
     ·simp(disch:=omega)only[aN,aa,simprocAttr,e1]
     ·simp(disch:=omega)only[aN,aa,simprocAttr,e4]
     ·simp(disch:=omega)only[aN,aa,simprocAttr,a4]
  ·rw[aoJ (by omega)] at e3
   simp(disch:=omega)only[aP,aa,simprocAttr,e1,e3,e4,jD]
   exact⟨_,_,rfl,by simp(disch:=omega)only[aN,aa,simprocAttr,e1],by simp(disch:=omega)only[aN,aa,simprocAttr,e3]⟩
 ·rintro s ⟨T,g,rfl,e1,e3⟩
  have hl2:(pre++aO (f.a8.map (cK f.kind))).length<=10000:=by
   rw[Pe,List.length_append,List.length_append] at hlen;omega
  have a1:aC false 1 16 (.slice (strs (pre++aO (f.a8.map (cK f.kind)))) true) (.slice [[.str [41]]] true)=some (.slice (strs (pre++aO (f.a8.map (cK f.kind))++[[41]])) true):=fj (by omega)
  by_cases b0:f.kind=0\/f.kind=1
  ·rw[if_pos b0,aoZ] at Pe
   rw[<- Pe] at a1
   have eo:(!(decide (f.kind=0) || decide (f.kind=1)))=false:=by rcases b0 with b|b<;>simp[b]
   rw[eo]
   rcases b0 with b|b<;>simp(disch:=omega)only[aP,aa,simprocAttr,e1,e3,a1]
  ·rw[if_neg b0] at Pe
   have eo:(!(decide (f.kind=0) || decide (f.kind=1)))=true:=by simpa using b0
   rw[eo]
   have c0:f.kind≠0:=fun h=>b0 (.inl h)
   have c1:f.kind≠1:=fun h=>b0 (.inr h)
   obtain⟨r1,r2⟩:bc (.mk f.rn f.rk)=true/\ai f.body=true:=by
    rcases Pv with h|h|h
    ·exact absurd h c0
    ·exact absurd h c1
    ·exact h
   have Ur:=DB 3 (.mk f.rn f.rk) H (by omega) hb.w r1
   have ou:=(HI 5 f.body (by omega) hb.b r2).d H
   rw[gz] at Ur
   rw[an] at ou
   have hwl:=kV 3 _ hb.w
   have htl:(ay f.body).length<=7260:=u7 5 f.body hb.b
   generalize dh (.mk f.rn f.rk)=w at Ur hwl Pe
   generalize ay f.body=tt at ou htl Pe
   generalize pre++aO (f.a8.map (cK f.kind))=b0 at a1 e3 hl2 Pe
   have a2:aC false 1 16 (.slice (strs (b0++[[41]])) true) (.slice (strs w) true)=some (.slice (strs (b0++[[41]]++w)) true):=cb (by simp;omega)
   have a3:aC false 1 16 (.slice (strs (b0++[[41]]++w)) true) (.slice [[.str [61]]] true)=some (.slice (strs (b0++[[41]]++w++[[61]])) true):=fj (by simp;omega)
   have a4:aC false 1 16 (.slice (strs (b0++[[41]]++w++[[61]])) true) (.slice (strs tt) true)=some (.slice (strs (b0++[[41]]++w++[[61]]++tt)) true):=cb (by simp;omega)
   rw[show nA f=b0++[[41]]++w++[[61]]++tt by rw[Pe];simp]
   generalize b0++[[41]]++w++[[61]]++tt=b5 at a4 ⊢
   generalize b0++[[41]]++w++[[61]]=b4 at a3 a4
   generalize b0++[[41]]++w=b3 at a2 a3
   generalize b0++[[41]]=b1 at a1 a2
   simp(disch:=omega)only[aP,aa,simprocAttr,e1,e3,a1,a2,a3,a4,Ur,ou]
 ·exact⟨_,_,rfl,by simp(disch:=omega)only[aN,aa,simprocAttr],by simp(disch:=omega)only[aN,aa,simprocAttr,aoI],by simp(disch:=omega)only[aN,aa,simprocAttr,aoV,aol,aO,aoZ]⟩
theorem Sf{s:So}(hb:To s)(H:ah):aD A 24 [.agg (iL s)] H=some (.slice (strs (fB s)) (!(isWord s.name&&s.cB.all isWord)),none):=by
 have hw:=oA s.name H (by have:=hb.a;omega)
 have hul:=hb.ul
 have hn:=GY s.cB H (by omega) (fun u hu=>by have:=hb.ub u hu;omega)
 refine aB (fn:=QO) rfl rfl rfl ?_
 rw[iL]
 unfold QO fB
 cases h1:isWord s.name with
 | false =>
  rw[if_neg (by simp)]
  simp(disch:=omega)only[aP,aa,simprocAttr,hw,h1,gv,aoq,aoj]
 | true =>
 cases h2:s.cB.all isWord with
 | false =>
  rw[if_neg (by simp)]
  simp(disch:=omega)only[aP,aa,simprocAttr,hw,h1,hn,h2,gv,Bool.and_false,aoj]
 | true =>
 rw[if_pos ⟨rfl,rfl⟩]
 simp(disch:=omega)only[aP,aa,simprocAttr,hw,h1,hn,h2,apb,aom]
 unfold heads
 generalize su:([[109,111,100,117,108,101],s.name]:List bq)=pre
 have ae8:pre.length=2:=by rw[<- su];rfl
 have hpc:([[.str [109,111,100,117,108,101]],[.str s.name]]:List (List AV))=strs pre:=by rw[<- su];rfl
 simp only[hpc]
 have ful:∀ l:List bq,((l.map fun u=>[[117,115,101],u]).flatten:List bq).length=2*l.length:=by
  intro l;induction l with
  | nil=>rfl
  | cons a r ih=>simp only[aoh,aoP,List.length_append,ih,an5,an6];omega
 refine bM s.cB.length 0 (fun i st=>∃ T g,st=⟨T,H,H.length,g⟩/\T 1=.lbox 0 [.str s.name,.slice (strs s.cB) false,.slice (s.defs.map cN) false,.slice (strs s.head) false,.str s.fin]/\T 4=.int .i64 i/\T 3=.slice (strs (pre++((s.cB.take i).map fun u=>[[117,115,101],u]).flatten)) true)
  (fun st=>∃ T g,st=⟨T,H,H.length,g⟩/\T 3=.slice (strs (pre++(s.cB.map fun u=>[[117,115,101],u]).flatten)) true) (fun _=>False) ?_ ?_ (fun _ h=>h.elim) 0 _ (ao9 _) ?_
 ·rintro i st hi ⟨T,g,rfl,e1,e4,e3⟩
  by_cases bf:i<s.cB.length
  ·have hx:=an' bf
   have j6:=gE hx
   generalize s.cB[i]=u at hx j6
   have fE:=fa hx
   have hl:=ful (s.cB.take i)
   rw[List.length_take] at hl
   have jZ:pre++((s.cB.take (i+1)).map fun u=>[[117,115,101],u]).flatten=pre++((s.cB.take i).map fun u=>[[117,115,101],u]).flatten++[[117,115,101],u]:=by rw[j6];simp
   generalize ((s.cB.take i).map fun u=>[[117,115,101],u]).flatten=acc at e3 hl jZ
   have a1:aC false 1 16 (.slice (strs (pre++acc)) true) (.slice [[.str [117,115,101]],[.str u]] true)=some (.slice (strs (pre++acc++[[117,115,101],u])) true):=cb (m:=[[117,115,101],u]) (by simp;omega)
   rw[<- jZ] at a1
   simp(disch:=omega)only[aP,aa,simprocAttr,e1,e3,e4,aW,fE,a1]
   exact⟨bf,_,_,rfl,by simp(disch:=omega)only[aN,aa,simprocAttr,e1],by simp(disch:=omega)only[aN,aa,simprocAttr],by simp(disch:=omega)only[aN,aa,simprocAttr]⟩
  ·rw[aoJ (by omega)] at e3
   simp(disch:=omega)only[aP,aa,simprocAttr,e1,e3,e4,aW]
   exact⟨_,_,rfl,by simp(disch:=omega)only[aN,aa,simprocAttr,e3]⟩
 ·rintro st ⟨T,g,rfl,e3⟩
  simp(disch:=omega)only[aP,aa,simprocAttr,e3]
 ·exact⟨_,_,rfl,by simp(disch:=omega)only[aN,aa,simprocAttr],by simp(disch:=omega)only[aN,aa,simprocAttr,aoI],by simp(disch:=omega)only[aN,aa,simprocAttr,aoV,aol,aph,aoZ]⟩
theorem agL{w:Wd} : (gz w).length=2:=by rw[iB];rfl
theorem ajz{w:Wd} : RI (gz w)=true:=by rw[iB];rfl
theorem S4{l:List Wd} : we 2 (az l):=by
 rw[mT]
 exact⟨fun r hr=>by obtain⟨t,_,rfl⟩:=aoy.1 hr;exact agL,tF fun r hr=>by obtain⟨t,_,rfl⟩:=aoy.1 hr;exact ajz⟩
theorem Nr{l m:List Wd} : az l++az m=az (l++m):=by simp only[mT,List.map_append]
theorem Yh{l:List Wd}{w:Wd}{o:Bool}(h:l.length<=10000000):aC false 2 40 (.slice (az l) true) (.slice [[.str w.name,.slice (az w.kids) false]] o)=some (.slice (az (l++[w])) true):=by
 have e:([[.str w.name,.slice (az w.kids) false]]:List (List AV))=az [w]:=by simp[az,iB]
 rw[e,vo S4 S4 (by rw[dj,dj];simp;omega) (by rw[dj,dj];simp;omega),Nr]
theorem Cd:∀ (h:Nat) (w:Wd) (H:ah),wi h w->aD A 27 [.agg (gz w)] H=some (.agg (gz w),none):=by
 intro h w
 have key:∀ (w:Wd) (H:ah),w.kids.length<=3->(∀ k∈w.kids,aD A 27 [.agg (gz k)] H=some (.agg (gz k),none))->aD A 27 [.agg (gz w)] H=some (.agg (gz w),none):=by
  intro w H mV hk
  refine bE (fn:=QP) rfl rfl rfl rfl ?_
  unfold QP
  rw[iB]
  simp(disch:=omega)only[aP,aa,simprocAttr]
  refine bM w.kids.length 0 (fun i s=>∃ T,s=⟨T,H,H.length,3⟩/\T 1=.lbox 0 [.str w.name,.slice (az w.kids) false]/\T 2=.lbox 1 [.str [],.aj]/\T 4=.int .i64 i/\(i=0/\T 3=.lbox 2 [.str w.name,.aj]\/0<i/\T 3=.lbox 2 [.str w.name,.slice (az (w.kids.take i)) true]))
   (fun s=>∃ T,s=⟨T,H,H.length,3⟩/\T 2=.lbox 1 [.str [],.aj]/\(w.kids=[]/\T 3=.lbox 2 [.str w.name,.aj]\/0<w.kids.length/\T 3=.lbox 2 [.str w.name,.slice (az (w.kids)) true])) (fun _=>False) ?_ ?_ (fun _ h=>h.elim) 0 _ (ao9 _) ?_
  ·rintro i s hi ⟨T,rfl,e1,e2,e4,e3⟩
   by_cases bf:i<w.kids.length
   ·have hx:=an' bf
    have hm:=aoW bf
    have j6:=gE hx
    generalize w.kids[i]=u at hx hm j6
    have fE:=Zc hx
    have xr:=hk u hm
    rw[iB] at xr fE
    have htl:(w.kids.take i).length<=3:=by rw[List.length_take];omega
    rcases e3 with ⟨h0,e3⟩|⟨h0,e3⟩
    ·subst h0
     rw[aoV,ao8] at j6
     have a1:aC false 2 40 (.slice (az ([])) true) (.slice [[.str u.name,.slice (az u.kids) false]] true)=some (.slice (az (([])++[u])) true):=Yh (l:=[]) (by simp)
     rw[tO] at a1
     rw[ao8] at a1
     simp(disch:=omega)only[aP,aa,Nat.reduceEqDiff,Nat.reduceBEq,Nat.reduceAdd,Nat.reduceMul,reduceCtorEq,↓reduceIte,Nat.reduceLeDiff,Int.reduceEq,Int.reduceLT,Int.reduceLE,Int.reduceBEq,Int.reduceBNe,Int.reduceAdd,Int.reduceNeg,Int.reduceSub,Int.reduceMul,e1,e2,e3,e4,dj,fE,xr,a1,aq,ak,an3,an4,ab]
     exact⟨bf,_,rfl,by simp(disch:=omega)only[aN,aa,simprocAttr,e1],by simp(disch:=omega)only[aN,aa,simprocAttr,e2],by simp(disch:=omega)only[aN,aa,simprocAttr],.inr ⟨by omega,by rw[j6];simp(disch:=omega)only[aN,aa,simprocAttr]⟩⟩
    ·have a1:aC false 2 40 (.slice (az (w.kids.take i)) true) (.slice [[.str u.name,.slice (az u.kids) false]] true)=some (.slice (az ((w.kids.take i)++[u])) true):=Yh (by omega)
     rw[<- j6] at a1
     simp(disch:=omega)only[aP,aa,simprocAttr,e1,e2,e3,e4,dj,fE,xr,a1,aq,ak,an3,an4,ab]
     exact⟨bf,_,rfl,by simp(disch:=omega)only[aN,aa,simprocAttr,e1],by simp(disch:=omega)only[aN,aa,simprocAttr,e2],by simp(disch:=omega)only[aN,aa,simprocAttr],.inr ⟨by omega,by simp(disch:=omega)only[aN,aa,simprocAttr]⟩⟩
   ·have hiN:i=w.kids.length:=by omega
    simp(disch:=omega)only[aP,aa,simprocAttr,e1,e2,e4,dj]
    refine⟨_,rfl,by simp(disch:=omega)only[aN,aa,simprocAttr,e2],?_⟩
    rcases e3 with ⟨h0,e3⟩|⟨h0,e3⟩
    ·exact .inl ⟨aoG.1 (by omega),by simp(disch:=omega)only[aN,aa,simprocAttr,e3]⟩
    ·rw[aoJ (by omega)] at e3
     exact .inr ⟨by omega,by simp(disch:=omega)only[aN,aa,simprocAttr,e3]⟩
  ·rintro s ⟨T,rfl,e2,e3⟩
   rcases e3 with ⟨h0,e3⟩|⟨h0,e3⟩
   ·simp(disch:=omega)only[aP,aa,simprocAttr,e2,e3,h0,tO,Ll,cy,aoh,aol,cV,cw,cz,ca,cW,cX,cU,dY,gM,gH,gb]
   ·simp(disch:=omega)only[aP,aa,simprocAttr,e2,e3,cy,aoh,aol,cV,cw,cz,ca,cW,cX,cU,dY,gM,gH,gb]
  ·exact⟨_,rfl,by simp(disch:=omega)only[aN,aa,simprocAttr],by simp(disch:=omega)only[aN,aa,simprocAttr],by simp(disch:=omega)only[aN,aa,simprocAttr,aoI],.inl ⟨rfl,by simp(disch:=omega)only[aN,aa,simprocAttr]⟩⟩
 induction h generalizing w with
 | zero =>
  intro H hb
  obtain⟨n,ks⟩:=w
  obtain⟨h1,h2⟩:=hb
  simp only[Wd.kids] at h2
  subst h2
  exact key _ H (by simp[Wd.kids]) (by simp[Wd.kids])
 | succ h ih =>
  intro H hb
  obtain⟨n,ks⟩:=w
  obtain⟨h1,h2,h3⟩:=hb
  exact key _ H (by omega) (fun k hk=>ih k H (h3 k hk))
theorem TA:∀ (h:Nat) (t:Tm) (H:ah),Lp h t->aD A 28 [.agg (cE t)] H=some (.agg (cE t),none):=by
 intro h
 induction h with
 | zero=>intro t H hb;cases hb
 | succ h ih =>
  intro t H hb
  have hF:=hb.out
  have hw:=Cd 3 (.mk t.wn t.wk) H hF.w
  rw[gz] at hw
  have mV:=hF.kl
  refine bE (fn:=QQ) rfl rfl rfl rfl ?_
  unfold QQ
  rw[an]
  simp(disch:=omega)only[aP,aa,simprocAttr,hw,cn]
  refine bM t.kids.length 0 (fun i s=>∃ T,s=⟨T,H,H.length,3⟩/\T 1=.lbox 0 [.int .i64 t.kind,.int .i64 t.n,.str t.name,.str t.field,.str t.wn,.slice (az t.wk) false,.slice (au t.kids) false,.slice (strs t.names) false]/\T 2=.lbox 1 [.int .i64 0,.int .i64 0,.str [],.str [],.str [],.aj,.aj,.aj]/\T 4=.int .i64 i/\(i=0/\T 3=.lbox 2 [.int .i64 t.kind,.int .i64 t.n,.str t.name,.str t.field,.str t.wn,.slice (az t.wk) false,.aj,.slice (strs t.names) false]\/0<i/\T 3=.lbox 2 [.int .i64 t.kind,.int .i64 t.n,.str t.name,.str t.field,.str t.wn,.slice (az t.wk) false,.slice (au (t.kids.take i)) true,.slice (strs t.names) false]))
   (fun s=>∃ T,s=⟨T,H,H.length,3⟩/\T 2=.lbox 1 [.int .i64 0,.int .i64 0,.str [],.str [],.str [],.aj,.aj,.aj]/\(t.kids=[]/\T 3=.lbox 2 [.int .i64 t.kind,.int .i64 t.n,.str t.name,.str t.field,.str t.wn,.slice (az t.wk) false,.aj,.slice (strs t.names) false]\/0<t.kids.length/\T 3=.lbox 2 [.int .i64 t.kind,.int .i64 t.n,.str t.name,.str t.field,.str t.wn,.slice (az t.wk) false,.slice (au (t.kids)) true,.slice (strs t.names) false])) (fun _=>False) ?_ ?_ (fun _ h=>h.elim) 0 _ (ao9 _) ?_
  ·rintro i s hi ⟨T,rfl,e1,e2,e4,e3⟩
   by_cases bf:i<t.kids.length
   ·have hx:=an' bf
    have hm:=aoW bf
    have j6:=gE hx
    generalize t.kids[i]=u at hx hm j6
    have fE:=sM hx
    have xr:=ih u H (hF.kb u hm)
    rw[an] at xr fE
    have htl:(t.kids.take i).length<=3:=by rw[List.length_take];omega
    rcases e3 with ⟨h0,e3⟩|⟨h0,e3⟩
    ·subst h0
     rw[aoV,ao8] at j6
     have a1:aC false 8 136 (.slice (au ([])) true) (.slice [[.int .i64 u.kind,.int .i64 u.n,.str u.name,.str u.field,.str u.wn,.slice (az u.wk) false,.slice (au u.kids) false,.slice (strs u.names) false]] true)=some (.slice (au (([])++[u])) true):=N2 (l:=[]) (by simp)
     rw[Ll] at a1
     rw[ao8] at a1
     simp(disch:=omega)only[aP,aa,Nat.reduceEqDiff,Nat.reduceBEq,Nat.reduceAdd,Nat.reduceMul,reduceCtorEq,↓reduceIte,Nat.reduceLeDiff,Int.reduceEq,Int.reduceLT,Int.reduceLE,Int.reduceBEq,Int.reduceBNe,Int.reduceAdd,Int.reduceNeg,Int.reduceSub,Int.reduceMul,e1,e2,e3,e4,bB,fE,xr,a1,aq,ak,an3,an4,ab]
     exact⟨bf,_,rfl,by simp(disch:=omega)only[aN,aa,simprocAttr,e1],by simp(disch:=omega)only[aN,aa,simprocAttr,e2],by simp(disch:=omega)only[aN,aa,simprocAttr],.inr ⟨by omega,by rw[j6];simp(disch:=omega)only[aN,aa,simprocAttr]⟩⟩
    ·have a1:aC false 8 136 (.slice (au (t.kids.take i)) true) (.slice [[.int .i64 u.kind,.int .i64 u.n,.str u.name,.str u.field,.str u.wn,.slice (az u.wk) false,.slice (au u.kids) false,.slice (strs u.names) false]] true)=some (.slice (au ((t.kids.take i)++[u])) true):=N2 (by omega)
     rw[<- j6] at a1
     simp(disch:=omega)only[aP,aa,simprocAttr,e1,e2,e3,e4,bB,fE,xr,a1,aq,ak,an3,an4,ab]
     exact⟨bf,_,rfl,by simp(disch:=omega)only[aN,aa,simprocAttr,e1],by simp(disch:=omega)only[aN,aa,simprocAttr,e2],by simp(disch:=omega)only[aN,aa,simprocAttr],.inr ⟨by omega,by simp(disch:=omega)only[aN,aa,simprocAttr]⟩⟩
   ·have hiN:i=t.kids.length:=by omega
    simp(disch:=omega)only[aP,aa,simprocAttr,e1,e2,e4,bB]
    refine⟨_,rfl,by simp(disch:=omega)only[aN,aa,simprocAttr,e2],?_⟩
    rcases e3 with ⟨h0,e3⟩|⟨h0,e3⟩
    ·exact .inl ⟨aoG.1 (by omega),by simp(disch:=omega)only[aN,aa,simprocAttr,e3]⟩
    ·rw[aoJ (by omega)] at e3
     exact .inr ⟨by omega,by simp(disch:=omega)only[aN,aa,simprocAttr,e3]⟩
  ·rintro s ⟨T,rfl,e2,e3⟩
   rcases e3 with ⟨h0,e3⟩|⟨h0,e3⟩
   ·simp(disch:=omega)only[aP,aa,simprocAttr,e2,e3,h0,tO,Ll,cy,aoh,aol,cV,cw,cz,ca,cW,cX,cU,dY,gM,gH,gb]
   ·simp(disch:=omega)only[aP,aa,simprocAttr,e2,e3,cy,aoh,aol,cV,cw,cz,ca,cW,cX,cU,dY,gM,gH,gb]
  ·exact⟨_,rfl,by simp(disch:=omega)only[aN,aa,simprocAttr],by simp(disch:=omega)only[aN,aa,simprocAttr],by simp(disch:=omega)only[aN,aa,simprocAttr,aoI],.inl ⟨rfl,by simp(disch:=omega)only[aN,aa,simprocAttr]⟩⟩
theorem KF{l:List Fd} : we 4 (l.map dX):=⟨fun r hr=>by obtain⟨t,_,rfl⟩:=aoy.1 hr;rfl,tF fun r hr=>by obtain⟨t,_,rfl⟩:=aoy.1 hr;rfl⟩
theorem BQ{l:List Fd}{u:Fd}{o:Bool}(h:l.length<=10000000):aC false 4 64 (.slice (l.map dX) true) (.slice [[.str u.name,.str u.wn,.slice (az u.wk) false,.int .i64 u.ga]] o)=some (.slice ((l++[u]).map dX) true):=by
 have e:([[.str u.name,.str u.wn,.slice (az u.wk) false,.int .i64 u.ga]]:List (List AV))=[u].map dX:=rfl
 rw[e,vo KF KF (by simp;omega) (by simp;omega),List.map_append]
theorem YV{l:List Fd} : ((l.map dX).map fun r=>r.map n1)=l.map dX:=by
 rw[apE]
 exact aoD fun w _=>rfl
theorem KK{l:List Fm} : we 14 (l.map cN):=⟨fun r hr=>by obtain⟨t,_,rfl⟩:=aoy.1 hr;rfl,tF fun r hr=>by obtain⟨t,_,rfl⟩:=aoy.1 hr;rfl⟩
theorem BR{l:List Fm}{f:Fm}{o:Bool}(h:l.length<=10000000):aC false 14 248 (.slice (l.map cN) true) (.slice [[.int .i64 f.kind,.str f.name,.slice (f.a8.map dX) false,.str f.rn,.slice (az f.rk) false,
  .int .i64 f.body.kind,.int .i64 f.body.n,.str f.body.name,.str f.body.field,.str f.body.wn,.slice (az f.body.wk) false,.slice (au f.body.kids) false,.slice (strs f.body.names) false,.slice (strs f.layout) false]] o)=some (.slice ((l++[f]).map cN) true):=by
 have e:([[.int .i64 f.kind,.str f.name,.slice (f.a8.map dX) false,.str f.rn,.slice (az f.rk) false,
  .int .i64 f.body.kind,.int .i64 f.body.n,.str f.body.name,.str f.body.field,.str f.body.wn,.slice (az f.body.wk) false,.slice (au f.body.kids) false,.slice (strs f.body.names) false,.slice (strs f.layout) false]]:List (List AV))=[f].map cN:=rfl
 rw[e,vo KK KK (by simp;omega) (by simp;omega),List.map_append]
theorem Bq{l:List Fm} : ((l.map cN).map fun r=>r.map n1)=l.map cN:=by
 rw[apE]
 exact aoD fun w _=>rfl
theorem Ky{f:Fm}(hb:HP f)(H:ah):aD A 10 [.agg (cN f)] H=some (.agg (cN f),none):=by
 have hw:=Cd 3 (.mk f.rn f.rk) H hb.w
 rw[gz] at hw
 have ht:=TA 5 f.body H hb.b
 rw[an] at ht
 have mV:=hb.sl
 refine bE (fn:=PD) rfl rfl rfl rfl ?_
 unfold PD
 rw[cN]
 simp(disch:=omega)only[aP,aa,simprocAttr,hw,ht,cn]
 refine bM f.a8.length 0 (fun i s=>∃ T,s=⟨T,H,H.length,3⟩/\T 1=.lbox 0 [.int .i64 f.kind,.str f.name,.slice (f.a8.map dX) false,.str f.rn,.slice (az f.rk) false,.int .i64 f.body.kind,.int .i64 f.body.n,.str f.body.name,.str f.body.field,.str f.body.wn,.slice (az f.body.wk) false,.slice (au f.body.kids) false,.slice (strs f.body.names) false,.slice (strs f.layout) false]/\T 2=.lbox 1 [.int .i64 0,.str [],.aj,.str [],.aj,.int .i64 0,.int .i64 0,.str [],.str [],.str [],.aj,.aj,.aj,.aj]/\T 4=.int .i64 i/\(i=0/\T 3=.lbox 2 [.int .i64 f.kind,.str f.name,.aj,.str f.rn,.slice (az f.rk) false,.int .i64 f.body.kind,.int .i64 f.body.n,.str f.body.name,.str f.body.field,.str f.body.wn,.slice (az f.body.wk) false,.slice (au f.body.kids) false,.slice (strs f.body.names) false,.slice (strs f.layout) false]\/0<i/\T 3=.lbox 2 [.int .i64 f.kind,.str f.name,.slice ((f.a8.take i).map dX) true,.str f.rn,.slice (az f.rk) false,.int .i64 f.body.kind,.int .i64 f.body.n,.str f.body.name,.str f.body.field,.str f.body.wn,.slice (az f.body.wk) false,.slice (au f.body.kids) false,.slice (strs f.body.names) false,.slice (strs f.layout) false]))
  (fun s=>∃ T,s=⟨T,H,H.length,3⟩/\T 2=.lbox 1 [.int .i64 0,.str [],.aj,.str [],.aj,.int .i64 0,.int .i64 0,.str [],.str [],.str [],.aj,.aj,.aj,.aj]/\(f.a8=[]/\T 3=.lbox 2 [.int .i64 f.kind,.str f.name,.aj,.str f.rn,.slice (az f.rk) false,.int .i64 f.body.kind,.int .i64 f.body.n,.str f.body.name,.str f.body.field,.str f.body.wn,.slice (az f.body.wk) false,.slice (au f.body.kids) false,.slice (strs f.body.names) false,.slice (strs f.layout) false]\/0<f.a8.length/\T 3=.lbox 2 [.int .i64 f.kind,.str f.name,.slice ((f.a8).map dX) true,.str f.rn,.slice (az f.rk) false,.int .i64 f.body.kind,.int .i64 f.body.n,.str f.body.name,.str f.body.field,.str f.body.wn,.slice (az f.body.wk) false,.slice (au f.body.kids) false,.slice (strs f.body.names) false,.slice (strs f.layout) false])) (fun _=>False) ?_ ?_ (fun _ h=>h.elim) 0 _ (ao9 _) ?_
 ·rintro i s hi ⟨T,rfl,e1,e2,e4,e3⟩
  by_cases bf:i<f.a8.length
  ·have hx:=an' bf
   have hm:=aoW bf
   have j6:=gE hx
   generalize f.a8[i]=u at hx hm j6
   have fE:=KE hx
   rw[dX] at fE
   have xr:=Cd 3 (.mk u.wn u.wk) H (hb.sb u hm).w
   rw[gz] at xr
   have htl:(f.a8.take i).length<=3:=by rw[List.length_take];omega
   rcases e3 with ⟨h0,e3⟩|⟨h0,e3⟩
   ·subst h0
    rw[aoV,ao8] at j6
    have a1:aC false 4 64 (.slice (([]).map dX) true) (.slice [[.str u.name,.str u.wn,.slice (az u.wk) false,.int .i64 u.ga]] true)=some (.slice ((([])++[u]).map dX) true):=BQ (l:=[]) (by simp)
    rw[aol] at a1
    rw[ao8] at a1
    simp(disch:=omega)only[aP,aa,Nat.reduceEqDiff,Nat.reduceBEq,Nat.reduceAdd,Nat.reduceMul,reduceCtorEq,↓reduceIte,Nat.reduceLeDiff,Int.reduceEq,Int.reduceLT,Int.reduceLE,Int.reduceBEq,Int.reduceBNe,Int.reduceAdd,Int.reduceNeg,Int.reduceSub,Int.reduceMul,e1,e2,e3,e4,jD,fE,xr,a1,aq,ak,an3,an4,ab,cn]
    exact⟨bf,_,rfl,by simp(disch:=omega)only[aN,aa,simprocAttr,e1],by simp(disch:=omega)only[aN,aa,simprocAttr,e2],by simp(disch:=omega)only[aN,aa,simprocAttr],.inr ⟨by omega,by rw[j6];simp(disch:=omega)only[aN,aa,simprocAttr]⟩⟩
   ·have a1:aC false 4 64 (.slice ((f.a8.take i).map dX) true) (.slice [[.str u.name,.str u.wn,.slice (az u.wk) false,.int .i64 u.ga]] true)=some (.slice (((f.a8.take i)++[u]).map dX) true):=BQ (by omega)
    rw[<- j6] at a1
    simp(disch:=omega)only[aP,aa,simprocAttr,e1,e2,e3,e4,jD,fE,xr,a1,aq,ak,an3,an4,ab,cn]
    exact⟨bf,_,rfl,by simp(disch:=omega)only[aN,aa,simprocAttr,e1],by simp(disch:=omega)only[aN,aa,simprocAttr,e2],by simp(disch:=omega)only[aN,aa,simprocAttr],.inr ⟨by omega,by simp(disch:=omega)only[aN,aa,simprocAttr]⟩⟩
  ·have hiN:i=f.a8.length:=by omega
   simp(disch:=omega)only[aP,aa,simprocAttr,e1,e2,e4,jD]
   refine⟨_,rfl,by simp(disch:=omega)only[aN,aa,simprocAttr,e2],?_⟩
   rcases e3 with ⟨h0,e3⟩|⟨h0,e3⟩
   ·exact .inl ⟨aoG.1 (by omega),by simp(disch:=omega)only[aN,aa,simprocAttr,e3]⟩
   ·rw[aoJ (by omega)] at e3
    exact .inr ⟨by omega,by simp(disch:=omega)only[aN,aa,simprocAttr,e3]⟩
 ·rintro s ⟨T,rfl,e2,e3⟩
  rcases e3 with ⟨h0,e3⟩|⟨h0,e3⟩
  ·simp(disch:=omega)only[aP,aa,simprocAttr,e2,e3,h0,tO,Ll,cy,aoh,aol,cV,cw,cz,ca,cW,cX,cU,dY,gM,gH,gb,YV]
  ·simp(disch:=omega)only[aP,aa,simprocAttr,e2,e3,cy,aoh,aol,cV,cw,cz,ca,cW,cX,cU,dY,gM,gH,gb,YV]
 ·exact⟨_,rfl,by simp(disch:=omega)only[aN,aa,simprocAttr],by simp(disch:=omega)only[aN,aa,simprocAttr],by simp(disch:=omega)only[aN,aa,simprocAttr,aoI],.inl ⟨rfl,by simp(disch:=omega)only[aN,aa,simprocAttr]⟩⟩
theorem Tz{s:So}(hb:To s)(H:ah):aD A 7 [.agg (iL s)] H=some (.agg (iL s),none):=by
 have mV:=hb.dl
 refine bE (fn:=ir7) rfl rfl rfl rfl ?_
 unfold ir7
 rw[iL]
 simp(disch:=omega)only[aP,aa,simprocAttr,cn]
 refine bM s.defs.length 0 (fun i st=>∃ T,st=⟨T,H,H.length,3⟩/\T 1=.lbox 0 [.str s.name,.slice (strs s.cB) false,.slice (s.defs.map cN) false,.slice (strs s.head) false,.str s.fin]/\T 2=.lbox 1 [.str [],.aj,.aj,.aj,.str []]/\T 4=.int .i64 i/\(i=0/\T 3=.lbox 2 [.str s.name,.slice (strs s.cB) false,.aj,.slice (strs s.head) false,.str s.fin]\/0<i/\T 3=.lbox 2 [.str s.name,.slice (strs s.cB) false,.slice ((s.defs.take i).map cN) true,.slice (strs s.head) false,.str s.fin]))
  (fun st=>∃ T,st=⟨T,H,H.length,3⟩/\T 2=.lbox 1 [.str [],.aj,.aj,.aj,.str []]/\(s.defs=[]/\T 3=.lbox 2 [.str s.name,.slice (strs s.cB) false,.aj,.slice (strs s.head) false,.str s.fin]\/0<s.defs.length/\T 3=.lbox 2 [.str s.name,.slice (strs s.cB) false,.slice ((s.defs).map cN) true,.slice (strs s.head) false,.str s.fin])) (fun _=>False) ?_ ?_ (fun _ h=>h.elim) 0 _ (ao9 _) ?_
 ·rintro i st hi ⟨T,rfl,e1,e2,e4,e3⟩
  by_cases bf:i<s.defs.length
  ·have hx:=an' bf
   have hm:=aoW bf
   have j6:=gE hx
   generalize s.defs[i]=u at hx hm j6
   have fE:=FQ hx
   have xr:=Ky (hb.db u hm) H
   rw[cN] at xr fE
   have htl:(s.defs.take i).length<=3:=by rw[List.length_take];omega
   rcases e3 with ⟨h0,e3⟩|⟨h0,e3⟩
   ·subst h0
    rw[aoV,ao8] at j6
    have a1:aC false 14 248 (.slice (([]).map cN) true) (.slice [[.int .i64 u.kind,.str u.name,.slice (u.a8.map dX) false,.str u.rn,.slice (az u.rk) false,.int .i64 u.body.kind,.int .i64 u.body.n,.str u.body.name,.str u.body.field,.str u.body.wn,.slice (az u.body.wk) false,.slice (au u.body.kids) false,.slice (strs u.body.names) false,.slice (strs u.layout) false]] true)=some (.slice ((([])++[u]).map cN) true):=BR (l:=[]) (by simp)
    rw[aol] at a1
    rw[ao8] at a1
    simp(disch:=omega)only[aP,aa,Nat.reduceEqDiff,Nat.reduceBEq,Nat.reduceAdd,Nat.reduceMul,reduceCtorEq,↓reduceIte,Nat.reduceLeDiff,Int.reduceEq,Int.reduceLT,Int.reduceLE,Int.reduceBEq,Int.reduceBNe,Int.reduceAdd,Int.reduceNeg,Int.reduceSub,Int.reduceMul,e1,e2,e3,e4,ny,fE,xr,a1,aq,ak,an3,an4,ab]
    exact⟨bf,_,rfl,by simp(disch:=omega)only[aN,aa,simprocAttr,e1],by simp(disch:=omega)only[aN,aa,simprocAttr,e2],by simp(disch:=omega)only[aN,aa,simprocAttr],.inr ⟨by omega,by rw[j6];simp(disch:=omega)only[aN,aa,simprocAttr]⟩⟩
   ·have a1:aC false 14 248 (.slice ((s.defs.take i).map cN) true) (.slice [[.int .i64 u.kind,.str u.name,.slice (u.a8.map dX) false,.str u.rn,.slice (az u.rk) false,.int .i64 u.body.kind,.int .i64 u.body.n,.str u.body.name,.str u.body.field,.str u.body.wn,.slice (az u.body.wk) false,.slice (au u.body.kids) false,.slice (strs u.body.names) false,.slice (strs u.layout) false]] true)=some (.slice (((s.defs.take i)++[u]).map cN) true):=BR (by omega)
    rw[<- j6] at a1
    simp(disch:=omega)only[aP,aa,simprocAttr,e1,e2,e3,e4,ny,fE,xr,a1,aq,ak,an3,an4,ab]
    exact⟨bf,_,rfl,by simp(disch:=omega)only[aN,aa,simprocAttr,e1],by simp(disch:=omega)only[aN,aa,simprocAttr,e2],by simp(disch:=omega)only[aN,aa,simprocAttr],.inr ⟨by omega,by simp(disch:=omega)only[aN,aa,simprocAttr]⟩⟩
  ·have hiN:i=s.defs.length:=by omega
   simp(disch:=omega)only[aP,aa,simprocAttr,e1,e2,e4,ny]
   refine⟨_,rfl,by simp(disch:=omega)only[aN,aa,simprocAttr,e2],?_⟩
   rcases e3 with ⟨h0,e3⟩|⟨h0,e3⟩
   ·exact .inl ⟨aoG.1 (by omega),by simp(disch:=omega)only[aN,aa,simprocAttr,e3]⟩
   ·rw[aoJ (by omega)] at e3
    exact .inr ⟨by omega,by simp(disch:=omega)only[aN,aa,simprocAttr,e3]⟩
 ·rintro st ⟨T,rfl,e2,e3⟩
  rcases e3 with ⟨h0,e3⟩|⟨h0,e3⟩
  ·simp(disch:=omega)only[aP,aa,simprocAttr,e2,e3,h0,tO,Ll,cy,aoh,aol,cV,cw,cz,ca,cW,cX,cU,dY,gM,gH,gb,Bq]
  ·simp(disch:=omega)only[aP,aa,simprocAttr,e2,e3,cy,aoh,aol,cV,cw,cz,ca,cW,cX,cU,dY,gM,gH,gb,Bq]
 ·exact⟨_,rfl,by simp(disch:=omega)only[aN,aa,simprocAttr],by simp(disch:=omega)only[aN,aa,simprocAttr],by simp(disch:=omega)only[aN,aa,simprocAttr,aoI],.inl ⟨rfl,by simp(disch:=omega)only[aN,aa,simprocAttr]⟩⟩
theorem me:∀ L:List bq,chunks 1 L.length (L.map AV.str)=strs L
 | []=>rfl
 | a :: r=>by
  have:=me r
  simp only[strs,an5,aoh,chunks,apr,aoV,apO,apc] at this ⊢
  rw[this]
theorem OQ{base t l n:Nat}{fn:aJ}{s:AS}{L:List bq}{o:bZ}(hr:fn.results=[.tmp t])(m8:fn.muts.elem 888888=false)(m7:fn.muts.elem 777777=false)(hT:s.T t=.sref l 0 n 1)
  (hH:s.H[l]?=some o) (ho:mh o=some (L.map .str)) (hl:base<=l) (hn:n=L.length) (qp:s.lo=base):finish base fn s=some (.slice (strs L) false,none):=by
 have h1:lp base s=true:=by simp[lp,qp]
 have hb:Nat.blt l base=false:=by rw[<- aqn,aoO];omega
 have jF:Nat.ble base l=true:=by simpa [ao2] using hl
 have h0:gA base [.tmp t] s=none:=by
  simp only[gA,kC,nT,hN,hT,aG,cond_true,aoe,AV.leaves,AV.bu,AV.aU,hb,an8]
 have hp:oF base [.tmp t] s=none:=by simp only[oF,an5,an6];rfl
 have hc:(L.map AV.str).all (fun x=>(fN s.H base 2 x.drop).plain&&jq x)=true:=by
  rw[aof]
  intro x hx
  obtain⟨a,_,rfl⟩:=aoy.1 hx
  rfl
 have hm:(L.map AV.str).map (fun x=>fN s.H base 2 x.drop)=L.map AV.str:=by
  rw[apE]
  exact aoD fun a _=>rfl
 have Mn:Nat.ble (0+n*1) (L.map AV.str).length=true:=by rw[ao2,aoA];omega
 have hz:fN s.H base 3 (.sref l 0 n 1)=.slice (strs L) false:=by
  rw[fN]
  simp only[jF,cond_true,hH,aoe,ho,hc,hm,Mn,apc,Bool.and_true,show Nat.blt 0 1=true from rfl]
  rw[hn,me]
 have hf:nr base [.tmp t] s=some (.slice (strs L) false,none):=by
  simp only[nr,rZ,hN,hT,aG,cond_true,aok,AV.bD,AV.drop,I4,hz,aoe,AV.leaves,qp,apU]
 have h3:jU base fn s=some (.slice (strs L) false,none):=by
  unfold jU pQ mG
  rw[h1,m8,hr]
  simp only[cond_true,an8,h0,hp,hf]
 unfold finish
 rw[h3,aok,rm m7]
def lA(l:List bq):List bq:=(gD l).take l.length++[[10]]
theorem tN{l:List bq} : (lA l).length=l.length+1:=by unfold lA;rw[List.length_append,List.length_take,mZ];simp
theorem Bx(l:List bq):((gD l).map AV.str).take l.length++([AV.str [10]]++((gD l).map AV.str).drop (l.length+1))=(lA l).map AV.str:=by
 have:((gD l).map AV.str).drop (l.length+1)=[]:=aqg (by rw[aoA,mZ];omega)
 rw[this,aoZ,<- List.map_take,lA,List.map_append];rfl
theorem S0(l:List bq)(H:ah)(hl:l.length<=1000000):aD A 50 [.slice (strs l) false] H=some (.slice (strs (lA l)) false,none):=by
 have key:∃ r,aD A 50 [.slice (strs l) false] H=some r/\r=(.slice (strs (lA l)) false,none):=by
  refine mQ (fn:=Q3) rfl rfl rfl ?_
  have hu:=S1 l H hl
  unfold Q3
  have en:asNat (.int .i64 ((l.length:Int)+1-1))=some l.length:=by rw[fX (by omega)];congr 1;omega
  have jW:((gD l).map AV.str).length=l.length+1:=by rw[aoA,mZ]
  simp(disch:=omega)only[Ox,jy,gF,j0,iS,tG,cd,aE,dG,aF.eval,AS.cH,↓reduceIte,Nat.reduceEqDiff,Option.isSome,Option.isNone,cond_true,an8,Nat.reduceBEq,Nat.reduceAdd,Nat.reduceMul,aa,gP,eq_self,reduceCtorEq,rB,iG,gQ,fD,bound,kP,AS.cI,bQ,fm,dm,Nat.reduceLeDiff,im,putAt,Int.reduceEq,Int.reduceLT,Int.reduceLE,Int.reduceBEq,Int.reduceBNe,Int.reduceAdd,Int.reduceNeg,Int.reduceSub,Int.reduceMul,qW,qV,qU,qT,qS,qR,qY,qX,br,fX,Int.toNat_natCast,aps,hu,en,cr,heap_set,jW,ar]
  exact⟨_,OQ (t:=2) (l:=H.length) (n:=l.length+1) (L:=lA l) (o:=.cS ((lA l).map .str)) rfl (by decide) (by decide) (by simp[aQ.put]) (by rw[<- Bx];simp) rfl (aoa _) tN.symm rfl,rfl⟩
 obtain⟨r,h,rfl⟩:=key
 exact h
def jo(l lay:List bq)(i:Nat):bq:=((List.range i).map fun j=>lay.getD j []++l.getD j []).flatten
theorem nM{l lay:List bq}{i:Nat} : jo l lay (i+1)=jo l lay i++(lay.getD i []++l.getD i []):=by
 unfold jo;rw[List.range_succ,List.map_append,List.flatten_append];simp
theorem o9{l lay:List bq}{B:Nat}(h1:∀ s∈l,s.length<=B)(h2:∀ s∈lay,s.length<=B):∀ i,(jo l lay i).length<=i*(2*B)
 | 0=>by simp[jo]
 | i+1=>by
  have ih:=o9 h1 h2 i
  have a1:(lay.getD i []).length<=B:=by
   by_cases h:i<lay.length
   ·rw[getD_at h];exact h2 _ (aoW h)
   ·simp[List.getD,ape (aqs h)]
  have a2:(l.getD i []).length<=B:=by
   by_cases h:i<l.length
   ·rw[getD_at h];exact h1 _ (aoW h)
   ·simp[List.getD,ape (aqs h)]
  rw[nM,List.length_append,List.length_append,aoT]
  omega
def od(l lay:List bq):List bq:=if lay.length=l.length+1 then lay else lA l
def mB(l lay:List bq):bq:=jo l (od l lay) l.length++(od l lay).getD l.length []
theorem GD{l lay:List bq} : (od l lay).length=l.length+1:=by
 unfold od
 split
 ·assumption
 ·exact tN
theorem X1{l:List bq} : ∀ s∈lA l,s.length<=40:=by
 intro s hs
 unfold lA at hs
 rcases aog.1 hs with h|h
 ·have h:=apx h
  unfold gD at h
  obtain⟨i,_,rfl⟩:=aoy.1 h
  unfold js
  split<;>simp
 ·rw[aos.1 h];simp
theorem CQ{l lay:List bq}(h:∀ s∈lay,s.length<=40):∀ s∈od l lay,s.length<=40:=by
 unfold od;split
 ·exact h
 ·exact X1
theorem nB{l:List bq}{B:Nat}(h:∀ s∈l,s.length<=B)(i:Nat):(l.getD i []).length<=B:=by
 by_cases hi:i<l.length
 ·rw[getD_at hi];exact h _ (aoW hi)
 ·simp[List.getD,ape (aqs hi)]
theorem iI{l:List bq}{i:Nat}(h:i<l.length):(strs l)[i]?=some [.str (l.getD i [])]:=by rw[getD_at h];exact fa (an' h)
theorem JC{l lay:List bq}(hl:l.length<=20000)(hb:∀ s∈l,s.length<=40)(jF:∀ s∈lay,s.length<=40):(mB l lay).length<=1600040:=by
 have h1:=o9 (lay:=od l lay) hb (CQ jF) l.length
 have h2:=nB (CQ (l:=l) jF) l.length
 have h3:l.length*(2*40)<=20000*(2*40):=aot _ hl
 unfold mB
 rw[List.length_append]
 omega
theorem K2(l lay:List bq)(H:ah)(hl:l.length<=20000)(hb:∀ s∈l,s.length<=40)(jF:∀ s∈lay,s.length<=40)(Uf:lay.length<=1000000) :
  aD A 25 [.slice (strs l) false,.slice (strs lay) false] H=some (.str (mB l lay),none):=by
 refine aB (fn:=Ju) rfl rfl rfl ?_
 have hu:=S0 l H (by omega)
 have hy:=CQ (l:=l) jF
 have hyl:=GD (l:=l) (lay:=lay)
 unfold Ju
 have main:∀ (s:AS),(∃ T,s=⟨T,H,H.length,0⟩/\T 0=.slice (strs l) false/\T 1=.slice (strs (od l lay)) false) ->
   W A (Ju.body.post 1) s (done H.length [.tmp 4] (.str (mB l lay),none)):=by
  rintro s ⟨T,rfl,e0,e1⟩
  unfold Ju mB
  simp only[aY.post]
  generalize od l lay=y at e1 hy hyl
  have y0:=iI (l:=y) (i:=0) (by omega)
  simp(disch:=omega)only[aP,aa,simprocAttr,e0,e1,y0]
  refine bM l.length 0 (fun i s=>∃ T,s=⟨T,H,H.length,0⟩/\T 0=.slice (strs l) false/\T 1=.slice (strs y) false/\T 6=.int .i64 i/\T 5=.str (jo l y i++y.getD i []))
   (fun s=>∃ T,s=⟨T,H,H.length,0⟩/\T 5=.str (jo l y l.length++y.getD l.length [])) (fun _=>False) ?_ ?_ (fun _ h=>h.elim) 0 _ (ao9 _) ?_
  ·rintro i s hi ⟨T,rfl,e0,e1,e6,e5⟩
   by_cases bf:i<l.length
   ·have q1:=iI bf
    have q2:=iI (l:=y) (i:=i+1) (by omega)
    have j1:=o9 hb hy i
    have j1' : i*(2*40)<=20000*(2*40):=aot _ (by omega)
    have j2:=nB hy i
    have j3:=nB hb i
    have j4:=nB hy (i+1)
    have en:asNat (.int .i64 ((i:Int)+1))=some (i+1):=by rw[fX (by omega)];rfl
    have hs:jo l y i++y.getD i []++l.getD i []++y.getD (i+1) []=jo l y (i+1)++y.getD (i+1) []:=by rw[nM];simp
    have aeR:(jo l y i++y.getD i []).length<=2000000:=by rw[List.length_append];omega
    generalize jo l y i++y.getD i []=acc at e5 hs aeR
    have yG:(acc++l.getD i []).length<=3000000:=by rw[List.length_append];omega
    simp(disch:=omega)only[aP,aa,simprocAttr,e0,e1,e5,e6,aW,q1,q2,en]
    exact⟨bf,_,rfl,by simp(disch:=omega)only[aN,aa,simprocAttr,e0],by simp(disch:=omega)only[aN,aa,simprocAttr,e1],by simp(disch:=omega)only[aN,aa,simprocAttr],by simp(disch:=omega)only[aN,aa,simprocAttr,hs]⟩
   ·obtain rfl:i=l.length:=by omega
    simp(disch:=omega)only[aP,aa,simprocAttr,e0,e5,e6,aW]
    exact⟨_,rfl,by simp(disch:=omega)only[aN,aa,simprocAttr,e5]⟩
  ·rintro s ⟨T,rfl,e5⟩
   simp(disch:=omega)only[aP,aa,simprocAttr,e5]
  ·exact⟨_,rfl,by simp(disch:=omega)only[aN,aa,simprocAttr,e0],by simp(disch:=omega)only[aN,aa,simprocAttr,e1],by simp(disch:=omega)only[aN,aa,simprocAttr,aoI],by simp(disch:=omega)only[aN,aa,simprocAttr,jo,List.range_zero,aol,aph,ao8]⟩
 refine fH 1 (R:=fun s=>∃ T,s=⟨T,H,H.length,0⟩/\T 0=.slice (strs l) false/\T 1=.slice (strs (od l lay)) false) ?_ main
 simp only[aY.pre]
 by_cases hc:lay.length=l.length+1
 ·have e:od l lay=lay:=by unfold od;rw[if_pos hc]
  simp(disch:=omega)only[aP,aa,simprocAttr,aW]
  exact⟨_,rfl,by simp(disch:=omega)only[aN,aa,simprocAttr],by rw[e];simp(disch:=omega)only[aN,aa,simprocAttr]⟩
 ·have e:od l lay=lA l:=by unfold od;rw[if_neg hc]
  simp(disch:=omega)only[aP,aa,simprocAttr,aW,hu]
  exact⟨_,rfl,by simp(disch:=omega)only[aN,aa,simprocAttr],by rw[e];simp(disch:=omega)only[aN,aa,simprocAttr]⟩
end Go.Proofs.YtbdnnjjcdcacnaaGreatDoor
