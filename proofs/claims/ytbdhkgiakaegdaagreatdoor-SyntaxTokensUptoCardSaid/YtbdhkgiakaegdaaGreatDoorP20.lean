/-
  A part of the proof of SyntaxTokens: T20, T21, T22, T23, T24, T25, T26, T27, T28, T29, T30, T31, T32, T35, T36, T37.
-/
import Derived.Test.YtbdhkgiakaegdaaGreatDoorP19
set_option linter.unusedSimpArgs false
set_option linter.unusedVariables false
set_option linter.defProp false
set_option maxHeartbeats 1000000
set_option maxRecDepth 100000
namespace Go.Proofs.YtbdhkgiakaegdaaGreatDoor
open Go Go.Abs Go.Proofs
section
section
variable {t:Tm}{h:Nat}(hF:vl h t)(hO:Am t)(hK:∀ u∈t.kids,qv u)(H:ai)
include hF hO hK
theorem tk6(hk:t.kind=6):aE A 33 [.agg (cV t)] H=some (.slice (strs (av t)) true,none):=by
 have _:=hF
 have hc:=gz hO (c1:=2) (c2:=1) (by rw[hk];rfl)
 have hl:=hc.2.1 (by omega)
 have qk:=hc.2.2
 obtain⟨x,y,gF⟩:=Hf (show t.kids.length=2 by omega)
 obtain⟨s,vU⟩:=He (show t.names.length=1 by omega)
 have hx:=hK x (by rw[gF];simp)
 have dx:=hx.d H
 have lx:=hx.len
 have hy:=hK y (by rw[gF];simp)
 have dy:=hy.d H
 have ly:=hy.len
 have kt:ar t.kids=[[.int .i64 x.kind,.int .i64 x.n,.str x.name,.str x.field,.str x.wn,.slice (ax x.wk) false,.slice (ar x.kids) false,.slice (strs x.names) false],[.int .i64 y.kind,.int .i64 y.n,.str y.name,.str y.field,.str y.wn,.slice (ax y.wk) false,.slice (ar y.kids) false,.slice (strs y.names) false]]:=by
  rw[gF,ar,ar,ar,al,al]
 have nt:strs t.names=[[.str s]]:=by rw[vU];rfl
 rw[al] at dx dy
 have a1:aF false 1 16 (.slice [[.str [108,101,116]],[.str s],[.str [61]]] true) (.slice (strs (av x)) true)=some (.slice (strs ([[108,101,116],s,[61]]++av x)) true):=cD (l:=[[108,101,116],s,[61]]) (by simp;omega)
 have a2:aF false 1 16 (.slice (strs ([[108,101,116],s,[61]]++av x)) true) (.slice [[.str [105,110]]] true)=some (.slice (strs ([[108,101,116],s,[61]]++av x++[[105,110]])) true):=fV (by simp;omega)
 have a3:aF false 1 16 (.slice (strs ([[108,101,116],s,[61]]++av x++[[105,110]])) true) (.slice (strs (av y)) true)=some (.slice (strs ([[108,101,116],s,[61]]++av x++[[105,110]]++av y)) true):=cD (by simp;omega)
 have e:av t=[[108,101,116],s,[61]]++av x++[[105,110]]++av y:=by
  rw[cM,hk,gF,vU];rfl
 rw[e,al]
 generalize [[108,101,116],s,[61]]++av x++[[105,110]]++av y=q3 at a3 ⊢
 generalize [[108,101,116],s,[61]]++av x++[[105,110]]=q2 at a2 a3
 generalize [[108,101,116],s,[61]]++av x=q1 at a1 a2
 refine aD (fn:=kD) rfl rfl rfl ?_
 unfold kD
 rw[kt,nt]
 simp(disch:=omega)only[aY,aa,simprocAttr,hk,dx,dy,a1,a2,a3]
theorem aje(hk:t.kind=12):aE A 33 [.agg (cV t)] H=some (.slice (strs (av t)) true,none):=by
 have _:=hF
 have hc:=gz hO (c1:=3) (c2:=2) (by rw[hk];rfl)
 have hl:=hc.2.1 (by omega)
 have qk:=hc.2.2
 obtain⟨x,y,z,gF⟩:=RC (show t.kids.length=3 by omega)
 obtain⟨s,u,vU⟩:=Hf (show t.names.length=2 by omega)
 have hx:=hK x (by rw[gF];simp)
 have dx:=hx.d H
 have lx:=hx.len
 have hy:=hK y (by rw[gF];simp)
 have dy:=hy.d H
 have ly:=hy.len
 have hz:=hK z (by rw[gF];simp)
 have dz:=hz.d H
 have lz:=hz.len
 have kt:ar t.kids=[[.int .i64 x.kind,.int .i64 x.n,.str x.name,.str x.field,.str x.wn,.slice (ax x.wk) false,.slice (ar x.kids) false,.slice (strs x.names) false],[.int .i64 y.kind,.int .i64 y.n,.str y.name,.str y.field,.str y.wn,.slice (ax y.wk) false,.slice (ar y.kids) false,.slice (strs y.names) false],[.int .i64 z.kind,.int .i64 z.n,.str z.name,.str z.field,.str z.wn,.slice (ax z.wk) false,.slice (ar z.kids) false,.slice (strs z.names) false]]:=by
  rw[gF,ar,ar,ar,ar,al,al,al]
 have nt:strs t.names=[[.str s],[.str u]]:=by rw[vU];rfl
 rw[al] at dx dy dz
 have a1:aF false 1 16 (.slice [[.str [102,111,108,100]],[.str s],[.str [44]],[.str u],[.str [61]]] true) (.slice (strs (av y)) true)=some (.slice (strs ([[102,111,108,100],s,[44],u,[61]]++av y)) true):=cD (l:=[[102,111,108,100],s,[44],u,[61]]) (by simp;omega)
 have a2:aF false 1 16 (.slice (strs ([[102,111,108,100],s,[44],u,[61]]++av y)) true) (.slice [[.str [111,118,101,114]]] true)=some (.slice (strs ([[102,111,108,100],s,[44],u,[61]]++av y++[[111,118,101,114]])) true):=fV (by simp;omega)
 have a3:aF false 1 16 (.slice (strs ([[102,111,108,100],s,[44],u,[61]]++av y++[[111,118,101,114]])) true) (.slice (strs (av x)) true)=some (.slice (strs ([[102,111,108,100],s,[44],u,[61]]++av y++[[111,118,101,114]]++av x)) true):=cD (by simp;omega)
 have a4:aF false 1 16 (.slice (strs ([[102,111,108,100],s,[44],u,[61]]++av y++[[111,118,101,114]]++av x)) true) (.slice [[.str [100,111]]] true)=some (.slice (strs ([[102,111,108,100],s,[44],u,[61]]++av y++[[111,118,101,114]]++av x++[[100,111]])) true):=fV (by simp;omega)
 have a5:aF false 1 16 (.slice (strs ([[102,111,108,100],s,[44],u,[61]]++av y++[[111,118,101,114]]++av x++[[100,111]])) true) (.slice (strs (av z)) true)=some (.slice (strs ([[102,111,108,100],s,[44],u,[61]]++av y++[[111,118,101,114]]++av x++[[100,111]]++av z)) true):=cD (by simp;omega)
 have e:av t=[[102,111,108,100],s,[44],u,[61]]++av y++[[111,118,101,114]]++av x++[[100,111]]++av z:=by
  rw[cM,hk,gF,vU];rfl
 rw[e,al]
 generalize [[102,111,108,100],s,[44],u,[61]]++av y++[[111,118,101,114]]++av x++[[100,111]]++av z=q5 at a5 ⊢
 generalize [[102,111,108,100],s,[44],u,[61]]++av y++[[111,118,101,114]]++av x++[[100,111]]=q4 at a4 a5
 generalize [[102,111,108,100],s,[44],u,[61]]++av y++[[111,118,101,114]]++av x=q3 at a3 a4
 generalize [[102,111,108,100],s,[44],u,[61]]++av y++[[111,118,101,114]]=q2 at a2 a3
 generalize [[102,111,108,100],s,[44],u,[61]]++av y=q1 at a1 a2
 refine aD (fn:=kD) rfl rfl rfl ?_
 unfold kD
 rw[kt,nt]
 simp(disch:=omega)only[aY,aa,simprocAttr,hk,dx,dy,dz,a1,a2,a3,a4,a5]
end
end
section
section
variable {t:Tm}{h:Nat}(hF:vl h t)(hO:Am t)(hK:∀ u∈t.kids,qv u)(H:ai)
include hF hO hK
theorem tk8(hk:t.kind=8):aE A 33 [.agg (cV t)] H=some (.slice (strs (av t)) true,none):=by
 have hc:=gz hO (c1:=1) (c2:=0) (by rw[hk];rfl)
 have hl:=hc.2.1 (by omega)
 obtain⟨x,gF⟩:=He (show t.kids.length=1 by omega)
 have hx:=hK x (by rw[gF];simp)
 have dx:=hx.d H
 have lx:=hx.len
 have kt:ar t.kids=[[.int .i64 x.kind,.int .i64 x.n,.str x.name,.str x.field,.str x.wn,.slice (ax x.wk) false,.slice (ar x.kids) false,.slice (strs x.names) false]]:=by
  rw[gF,ar,ar,al]
 rw[al] at dx
 have hq:=rW t.name H (by have:=hF.a;omega)
 have hql:=j6 t.name
 have a1:aF false 1 16 (.slice (strs (cU t.name)) true) (.slice [[.str [58]],[.str t.field]] true)=some (.slice (strs (cU t.name++[[58],t.field])) true):=Ix (by omega)
 have hb:=kK (cU t.name++[[58],t.field]) (av x) [91] [93] H (by simp;omega) (by omega) true true
 have e:av t=cU t.name++[[58],t.field]++[[91]]++av x++[[93]]:=by
  rw[cM,hk,gF];rfl
 rw[e,al]
 generalize cU t.name++[[58],t.field]++[[91]]++av x++[[93]]=q2 at hb ⊢
 generalize cU t.name++[[58],t.field]=q1 at a1 hb
 refine aD (fn:=kD) rfl rfl rfl ?_
 unfold kD
 rw[kt]
 simp(disch:=omega)only[aY,aa,simprocAttr,hk,dx,hq,a1,hb]
theorem tk9(hk:t.kind=9):aE A 33 [.agg (cV t)] H=some (.slice (strs (av t)) true,none):=by
 have hc:=gz hO (c1:=1) (c2:=0) (by rw[hk];rfl)
 have hl:=hc.2.1 (by omega)
 obtain⟨x,gF⟩:=He (show t.kids.length=1 by omega)
 have hx:=hK x (by rw[gF];simp)
 have dx:=hx.d H
 have lx:=hx.len
 have kt:ar t.kids=[[.int .i64 x.kind,.int .i64 x.n,.str x.name,.str x.field,.str x.wn,.slice (ax x.wk) false,.slice (ar x.kids) false,.slice (strs x.names) false]]:=by
  rw[gF,ar,ar,al]
 rw[al] at dx
 have hq:=rW t.name H (by have:=hF.a;omega)
 have hql:=j6 t.name
 have a1:aF false 1 16 (.slice (strs (cU t.name)) true) (.slice [[.str [58]],[.str t.field]] true)=some (.slice (strs (cU t.name++[[58],t.field])) true):=Ix (by omega)
 have hb:=kK (cU t.name++[[58],t.field]) (av x) [40] [41] H (by simp;omega) (by omega) true true
 have e:av t=cU t.name++[[58],t.field]++[[40]]++av x++[[41]]:=by
  rw[cM,hk,gF];rfl
 rw[e,al]
 generalize cU t.name++[[58],t.field]++[[40]]++av x++[[41]]=q2 at hb ⊢
 generalize cU t.name++[[58],t.field]=q1 at a1 hb
 refine aD (fn:=kD) rfl rfl rfl ?_
 unfold kD
 rw[kt]
 simp(disch:=omega)only[aY,aa,simprocAttr,hk,dx,hq,a1,hb]
theorem ajd(hk:t.kind=11):aE A 33 [.agg (cV t)] H=some (.slice (strs (av t)) true,none):=by
 have hp:bk (.mk t.wn t.wk)=true:=by
  have h4:=hO.b4
  unfold oQ at h4
  rw[decide_eq_true hk] at h4
  simpa using h4
 have hw:=D0 3 (.mk t.wn t.wk) H (by omega) hF.w hp
 rw[hN] at hw
 have hwl:=kS 3 (.mk t.wn t.wk) hF.w
 have hl:=Hh (l:=t.kids) (by have:=hF.kl;omega) hK H
 have hll:(aR (t.kids.map av)).length<=3*100001:=by
  have h1:=iM (t.kids.map av) 100000 (fun x hx=>by obtain⟨u,hu,rfl⟩:=aoD.1 hx;exact (hK u hu).len)
  rw[aoI] at h1
  exact apk h1 (aoo _ hF.kl)
 have b1:=kK [gP] (fe (.mk t.wn t.wk)) [40] [41] H (by simp) (by omega) true true
 have b2:=kK ([gP]++[[40]]++fe (.mk t.wn t.wk)++[[41]]) (aR (t.kids.map av)) [91] [93] H (by simp;omega) (by omega) true true
 have e:av t=[gP]++[[40]]++fe (.mk t.wn t.wk)++[[41]]++[[91]]++aR (t.kids.map av)++[[93]]:=by
  rw[cM,hk]
  show [gP]++[[40]]++fe (.mk t.wn t.wk)++[[41]]++[[91]]++aR ((t.kids.map fun t=>(av t,fl t)).map (·.1))++[[93]]=_
  rw[apH]
  rfl
 rw[e,al]
 generalize [gP]++[[40]]++fe (.mk t.wn t.wk)++[[41]]++[[91]]++aR (t.kids.map av)++[[93]]=q2 at b2 ⊢
 generalize [gP]++[[40]]++fe (.mk t.wn t.wk)++[[41]]=q1 at b1 b2
 rw[show strs [gP]=[[.str [76,105,115,116]]] from rfl] at b1
 refine aD (fn:=kD) rfl rfl rfl ?_
 unfold kD
 simp(disch:=omega)only[aY,aa,simprocAttr,hk,hw,hl,b1,b2]
end
end
section
theorem uV{p:List cd × Int}{k:Int} : (o6 p k).length<=p.1.length+2:=by
 unfold o6
 split
 ·simp
 ·omega
section
variable {t:Tm}{h:Nat}(hF:vl h t)(hO:Am t)(hK:∀ u∈t.kids,qv u)(H:ai)
include hF hO hK
theorem tk4(hk:t.kind=4):aE A 33 [.agg (cV t)] H=some (.slice (strs (av t)) true,none):=by
 have _:=hF
 have hs:=DR t.n H
 by_cases s0:(fh t.n).1=[]
 ·exact absurd rfl (gz hO (c1:=-2) (c2:=0) (by rw[hk];simp[bR,s0])).1
 by_cases s7:(fh t.n).2=7
 ·have hc:=gz hO (c1:=1) (c2:=0) (by rw[hk];simp[bR,s0,s7])
  have hl:=hc.2.1 (by omega)
  obtain⟨x,gF⟩:=He (show t.kids.length=1 by omega)
  have hx:=hK x (by rw[gF];simp)
  have dx:=Rv hx 7 H
  have lx:=hx.len
  have kl:=uV (p:=(av x,fl x)) (k:=7)
  simp only at kl
  have kt:ar t.kids=[[.int .i64 x.kind,.int .i64 x.n,.str x.name,.str x.field,.str x.wn,.slice (ax x.wk) false,.slice (ar x.kids) false,.slice (strs x.names) false]]:=by
   rw[gF,ar,ar,al]
  rw[al] at dx
  have e:av t=[(fh t.n).1]++o6 (av x,fl x) 7:=by rw[cM,hk,gF];rfl
  rw[e,al]
  generalize o6 (av x,fl x) 7=kx at dx kl ⊢
  generalize (fh t.n).1=sg at hs ⊢
  have a1:aF false 1 16 (.slice [[.str sg]] true) (.slice (strs kx) true)=some (.slice (strs ([sg]++kx)) true):=cD (l:=[sg]) (by simp;omega)
  generalize [sg]++kx=q1 at a1 ⊢
  refine aD (fn:=kD) rfl rfl rfl ?_
  unfold kD
  rw[kt]
  simp(disch:=omega)only[aY,aa,simprocAttr,hk,hs,s7,dx,a1]
 ·have hc:=gz hO (c1:=2) (c2:=0) (by rw[hk];simp[bR,s0,s7])
  have hl:=hc.2.1 (by omega)
  obtain⟨x,y,gF⟩:=Hf (show t.kids.length=2 by omega)
  have hx:=hK x (by rw[gF];simp)
  have hy:=hK y (by rw[gF];simp)
  have lx:=hx.len
  have ly:=hy.len
  obtain⟨lv,Ig⟩:∃ lv,lv=(fh t.n).2:=⟨_,rfl⟩
  have hlr:0<=lv/\lv<=7:=by
   rw[Ig]
   unfold fh
   split
   ·exact⟨by decide,by decide⟩
   ·rename_i hn
    rcases SD (x:=t.n) (by omega) (by omega) with e|e|e|e|e|e|e|e|e|e|e|e<;>rw[e]<;>exact⟨by decide,by decide⟩
  have dx:=fun l=>Rv hx l H
  have dy:=Rv hy (lv+1) H
  have kt:ar t.kids=[[.int .i64 x.kind,.int .i64 x.n,.str x.name,.str x.field,.str x.wn,.slice (ax x.wk) false,.slice (ar x.kids) false,.slice (strs x.names) false],
    [.int .i64 y.kind,.int .i64 y.n,.str y.name,.str y.field,.str y.wn,.slice (ax y.wk) false,.slice (ar y.kids) false,.slice (strs y.names) false]]:=by
   rw[gF,ar,ar,ar,al,al]
  rw[al] at dx dy
  have e:av t=o6 (av x,fl x) (if lv=3 then 4 else lv)++[(fh t.n).1]++o6 (av y,fl y) (lv+1):=by rw[cM,hk,gF,Ig];rfl
  rw[e,al]
  rw[<- Ig] at hs s7
  have klx:=uV (p:=(av x,fl x)) (k:=if lv=3 then 4 else lv)
  have kly:=uV (p:=(av y,fl y)) (k:=lv+1)
  simp only at klx kly
  have dx:=dx (if lv=3 then 4 else lv)
  generalize o6 (av x,fl x) (if lv=3 then 4 else lv)=kx at dx klx ⊢
  generalize o6 (av y,fl y) (lv+1)=ky at dy kly ⊢
  generalize (fh t.n).1=sg at hs ⊢
  have a1:aF false 1 16 (.slice (strs kx) true) (.slice [[.str sg]] true)=some (.slice (strs (kx++[sg])) true):=fV (by omega)
  have a2:aF false 1 16 (.slice (strs (kx++[sg])) true) (.slice (strs ky) true)=some (.slice (strs (kx++[sg]++ky)) true):=cD (by simp;omega)
  generalize kx++[sg]++ky=q2 at a2 ⊢
  generalize kx++[sg]=q1 at a1 a2
  refine aD (fn:=kD) rfl rfl rfl ?_
  unfold kD
  rw[kt]
  by_cases l3:lv=3
  ·rw[if_pos l3] at dx
   rw[l3] at hs dy
   rw[show (3:Int)+1=4 from rfl] at dy
   simp(disch:=omega)only[aY,aa,simprocAttr,hk,hs,dx,dy,a1,a2]
  ·rw[if_neg l3] at dx
   simp(disch:=omega)only[aY,aa,simprocAttr,hk,hs,dx,dy,a1,a2]
end
end
section
section
variable {t:Tm}{h:Nat}(hF:vl h t)(hO:Am t)(hK:∀ u∈t.kids,qv u)(H:ai)
include hF hO hK
theorem tk7(hk:t.kind=7):aE A 33 [.agg (cV t)] H=some (.slice (strs (av t)) true,none):=by
 have hc:=gz hO (c1:=-1) (c2:=t.kids.length) (by rw[hk];rfl)
 have qk:=hc.2.2
 have og:=hF.kl
 have hq:=rW t.name H (by have:=hF.a;omega)
 have hql:=j6 t.name
 obtain⟨ws,hws⟩:∃ ws,ws=List.zipWith (fun s (x:List cd × Int)=>[s,[61]]++x.1) t.names (t.kids.map fun t=>(av t,fl t)):=⟨_,rfl⟩
 have hwl:ws.length=t.kids.length:=by rw[hws,List.length_zipWith,aoI];omega
 have gq:∀ (i:Nat) (s:cd) (u:Tm),t.names[i]?=some s->t.kids[i]?=some u->ws[i]?=some ([s,[61]]++av u):=by
  intro i s u h1 h2
  rw[hws,List.getElem?_zipWith,aol,h1,h2]
  rfl
 have hwb:∀ x∈ws,x.length<=100002:=by
  intro x hx
  obtain⟨i,hi⟩:=aoC hx
  have bA:=(an2.1 hi).1
  have h1:=an3 (l:=t.names) (i:=i) (by omega)
  have h2:=an3 (l:=t.kids) (i:=i) (by omega)
  have h3:=gq i _ _ h1 h2
  rw[hi] at h3
  injection h3 with h3
  rw[h3]
  have:=(hK _ (aoX (l:=t.kids) (n:=i) (by omega))).len
  simp only[aod,an0,an1];omega
 have hlb:∀ i,(aR (ws.take i)).length<=3*100003:=fun i=>by
  have h1:=iM (ws.take i) 100002 (fun x hx=>hwb x (apD hx))
  have h2:(ws.take i).length<=3:=by rw[ao2];omega
  exact apk h1 (aoo _ h2)
 have hb:=kK (cU t.name) (aR ws) [123] [125] H (by omega) (by have:=hlb ws.length;rw[aps] at this;omega) true true
 have e:av t=cU t.name++[[123]]++aR ws++[[125]]:=by rw[cM,hk,hws];rfl
 rw[e,al]
 generalize cU t.name++[[123]]++aR ws++[[125]]=out at hb ⊢
 refine aD (fn:=kD) rfl rfl rfl ?_
 unfold kD
 simp(disch:=omega)only[aY,aa,simprocAttr,hk]
 refine cK t.kids.length 1 (fun i s=>∃ T,s=⟨T,H,H.length,1⟩/\T 1=.lbox 0 [.int .i64 7,.int .i64 t.n,.str t.name,.str t.field,.str t.wn,.slice (ax t.wk) false,.slice (ar t.kids) false,.slice (strs t.names) false]/\T 8=.slice (strs (aR (ws.take i))) true/\T 9=.int .i64 i)
  (fun s=>∃ T,s=⟨T,H,H.length,1⟩/\T 1=.lbox 0 [.int .i64 7,.int .i64 t.n,.str t.name,.str t.field,.str t.wn,.slice (ax t.wk) false,.slice (ar t.kids) false,.slice (strs t.names) false]/\T 8=.slice (strs (aR ws)) true) (fun _=>False) ?_ ?_ (fun _ h=>h.elim) 0 _ (aoW _) ?_
 ·rintro i st hi ⟨T,rfl,e1,e8,e9⟩
  by_cases bA:i<t.kids.length
  ·obtain⟨u,hu⟩:∃ u,t.kids[i]?=some u:=⟨_,an3 bA⟩
   obtain⟨s,hs⟩:∃ s,t.names[i]?=some s:=⟨_,an3 (by omega)⟩
   have hw:=gq i s u hs hu
   have hm:=hK u (aoh hu)
   have du:=hm.d H
   have lu:=hm.len
   have Yv:=sL hu
   have atn:=lp hs
   rw[al] at du Yv
   have kU:ws.take (i+1)=ws.take i++[[s,[61]]++av u]:=by rw[ap2,hw];rfl
   have D7:=jO ([s,[61]]++av u) (ws.take i)
   rw[<- kU] at D7
   have JA:=hlb i
   by_cases h0:i=0
   ·subst h0
    simp only[aoQ,apu] at D7 e8
    have a1:aF false 1 16 (.slice (strs (aR [])) true) (.slice [[.str s],[.str [61]]] true)=some (.slice (strs [s,[61]]) true):=cD (l:=[]) (m:=[s,[61]]) (by simp)
    have a2:aF false 1 16 (.slice (strs [s,[61]]) true) (.slice (strs (av u)) true)=some (.slice (strs ([s,[61]]++av u)) true):=cD (by simp;omega)
    generalize [s,[61]]++av u=q2 at a2 D7
    generalize [s,[61]]=q1 at a1 a2
    simp(disch:=omega)only[aY,aa,simprocAttr,e1,e8,e9,bK,Yv,atn,du,a1,a2]
    exact⟨bA,_,rfl,by simp(disch:=omega)only[aV,aa,simprocAttr,e1],by rw[D7];simp(disch:=omega)only[aV,aa,simprocAttr],by simp(disch:=omega)only[aV,aa,simprocAttr]⟩
   ·have ff:¬ (ws.take i=[]):=fun e=>by
     have:=apK List.length e
     rw[ao2,an1] at this
     omega
    rw[if_neg ff,<- apd] at D7
    generalize aR (ws.take i)=acc at e8 JA D7
    have a0:aF false 1 16 (.slice (strs acc) true) (.slice [[.str [44]]] true)=some (.slice (strs (acc++[[44]])) true):=fV (by omega)
    have a1:aF false 1 16 (.slice (strs (acc++[[44]])) true) (.slice [[.str s],[.str [61]]] true)=some (.slice (strs (acc++[[44]]++[s,[61]])) true):=cD (m:=[s,[61]]) (by simp;omega)
    have a2:aF false 1 16 (.slice (strs (acc++[[44]]++[s,[61]])) true) (.slice (strs (av u)) true)=some (.slice (strs (acc++[[44]]++[s,[61]]++av u)) true):=cD (by simp;omega)
    generalize acc++[[44]]++[s,[61]]++av u=q2 at a2 D7
    generalize acc++[[44]]++[s,[61]]=q1 at a1 a2
    generalize acc++[[44]]=q0 at a0 a1
    simp(disch:=omega)only[aY,aa,simprocAttr,e1,e8,e9,bK,Yv,atn,du,a0,a1,a2]
    exact⟨bA,_,rfl,by simp(disch:=omega)only[aV,aa,simprocAttr,e1],by rw[D7];simp(disch:=omega)only[aV,aa,simprocAttr],by simp(disch:=omega)only[aV,aa,simprocAttr]⟩
  ·rw[aoJ (by omega)] at e8
   simp(disch:=omega)only[aY,aa,simprocAttr,e1,e8,e9,bK]
   exact⟨_,rfl,by simp(disch:=omega)only[aV,aa,simprocAttr,e1],by simp(disch:=omega)only[aV,aa,simprocAttr,e8]⟩
 ·rintro st ⟨T,rfl,e1,e8⟩
  simp(disch:=omega)only[aY,aa,simprocAttr,e1,e8,hq,hb]
 ·exact⟨_,rfl,by simp(disch:=omega)only[aV,aa,simprocAttr],by simp(disch:=omega)only[aV,aa,simprocAttr,aoQ,aR,strs,aof],by simp(disch:=omega)only[aV,aa,simprocAttr]⟩
end
end
section
section
variable {t:Tm}{h:Nat}(hF:vl h t)(hO:Am t)(hK:∀ u∈t.kids,qv u)(H:ai)
include hF hO hK
theorem ahi(hk:t.kind=10):∃ (ws:List (List cd)) (x:Tm),t.kids[0]?=some x/\2<=t.kids.length/\ws.length+1=t.kids.length/\t.names.length=2*ws.length /\
  (∀ (j:Nat) (p q:cd) (u:Tm),t.names[2*j]?=some p->t.names[2*j+1]?=some q->t.kids[j+1]?=some u->ws[j]?=some ([p,q,[45,62]]++av u)) /\
  av t=[[109,97,116,99,104]]++cU t.name++[[40]]++av x++[[41]]++[[123]]++aR ws++[[125]]:=by
 have _:=hK
 have og:=hF.kl
 have h2:¬ t.kids.length<2:=fun bA=>absurd rfl (gz hO (c1:=-2) (c2:=0) (by rw[hk];simp[bR,bA])).1
 have hc:=gz hO (c1:=-1) (c2:=2*((t.kids.length:Int)-1)) (by rw[hk];simp[bR,h2])
 have qk:=hc.2.2
 by_cases h3:t.kids.length=2
 ·obtain⟨x,y,gF⟩:=Hf h3
  obtain⟨p,q,vU⟩:=Hf (show t.names.length=2 by omega)
  refine⟨[[p,q,[45,62]]++av y],x,by rw[gF];rfl,by omega,by simp;omega,by simp;omega,?_,?_⟩
  ·intro j a b u e1 e2 e3
   rw[vU] at e1 e2
   rw[gF] at e3
   cases j with
   | zero=>injection e1 with e1;injection e2 with e2;injection e3 with e3;subst e1 e2 e3;rfl
   | succ j=>simp at e3
  ·rw[cM,hk,gF,vU];rfl
 ·obtain⟨x,y,z,gF⟩:=RC (show t.kids.length=3 by omega)
  obtain⟨p,q,r,s,vU⟩:∃ p q r s,t.names=[p,q,r,s]:=by
   have h4:t.names.length=4:=by omega
   match hn:t.names,h4 with
   | [p,q,r,s],_=>exact⟨p,q,r,s,rfl⟩
  refine⟨[[p,q,[45,62]]++av y,[r,s,[45,62]]++av z],x,by rw[gF];rfl,by omega,by simp;omega,by simp;omega,?_,?_⟩
  ·intro j a b u e1 e2 e3
   rw[vU] at e1 e2
   rw[gF] at e3
   match j with
   | 0=>injection e1 with e1;injection e2 with e2;injection e3 with e3;subst e1 e2 e3;rfl
   | 1=>injection e1 with e1;injection e2 with e2;injection e3 with e3;subst e1 e2 e3;rfl
   | j+2=>simp at e3
  ·rw[cM,hk,gF,vU]
   show [[109,97,116,99,104]]++cU t.name++[[40]]++av x++[[41]]++[[123]]++([p,q,[45,62]]++av y++[[44]]++[r,s,[45,62]]++av z)++[[125]]=_
   simp[aR]
theorem ajc(hk:t.kind=10):aE A 33 [.agg (cV t)] H=some (.slice (strs (av t)) true,none):=by
 obtain⟨ws,x,ze,h2,hwl,qk,gq,e⟩:=ahi hF hO hK hk
 have og:=hF.kl
 have hq:=rW t.name H (by have:=hF.a;omega)
 have hql:=j6 t.name
 have hxK:=hK x (aoh ze)
 have dx:=hxK.d H
 have lx:=hxK.len
 have atx:=sL ze
 rw[al] at dx atx
 have afi:∀ i,i<ws.length->∃ p q u,t.names[2*i]?=some p/\t.names[2*i+1]?=some q/\t.kids[i+1]?=some u/\ws[i]?=some ([p,q,[45,62]]++av u):=by
  intro i hi
  have h1:=an3 (l:=t.names) (i:=2*i) (by omega)
  have h3:=an3 (l:=t.names) (i:=2*i+1) (by omega)
  have h4:=an3 (l:=t.kids) (i:=i+1) (by omega)
  exact⟨_,_,_,h1,h3,h4,gq i _ _ _ h1 h3 h4⟩
 have hwb:∀ x∈ws,x.length<=100003:=by
  intro y hy
  obtain⟨i,hi⟩:=aoC hy
  obtain⟨p,q,u,_,_,h4,h5⟩:=afi i (an2.1 hi).1
  rw[hi] at h5
  injection h5 with h5
  rw[h5]
  have:=(hK u (aoh h4)).len
  simp only[aod,an0,an1];omega
 have hlb:∀ i,(aR (ws.take i)).length<=3*100004:=fun i=>by
  have h1:=iM (ws.take i) 100003 (fun x hx=>hwb x (apD hx))
  have h2:(ws.take i).length<=3:=by rw[ao2];omega
  exact apk h1 (aoo _ h2)
 have hlw:(aR ws).length<=3*100004:=by have:=hlb ws.length;rwa [aps] at this
 have a1:aF false 1 16 (.slice [[.str [109,97,116,99,104]]] true) (.slice (strs (cU t.name)) true)=some (.slice (strs ([[109,97,116,99,104]]++cU t.name)) true):=cD (l:=[[109,97,116,99,104]]) (by simp;omega)
 have b1:=kK ([[109,97,116,99,104]]++cU t.name) (av x) [40] [41] H (by simp;omega) (by omega) true true
 have b2:=kK ([[109,97,116,99,104]]++cU t.name++[[40]]++av x++[[41]]) (aR ws) [123] [125] H (by simp;omega) (by omega) true true
 rw[e,al]
 generalize [[109,97,116,99,104]]++cU t.name++[[40]]++av x++[[41]]++[[123]]++aR ws++[[125]]=out at b2 ⊢
 generalize [[109,97,116,99,104]]++cU t.name++[[40]]++av x++[[41]]=o1 at b1 b2
 generalize [[109,97,116,99,104]]++cU t.name=o0 at a1 b1
 refine aD (fn:=kD) rfl rfl rfl ?_
 unfold kD
 simp(disch:=omega)only[aY,aa,simprocAttr,hk]
 refine cK ws.length 3 (fun i s=>∃ T,s=⟨T,H,H.length,1⟩/\T 1=.lbox 0 [.int .i64 10,.int .i64 t.n,.str t.name,.str t.field,.str t.wn,.slice (ax t.wk) false,.slice (ar t.kids) false,.slice (strs t.names) false]/\T 10=.slice (strs (aR (ws.take i))) true/\T 11=.int .i64 ((i+1:Nat):Int))
  (fun s=>∃ T,s=⟨T,H,H.length,1⟩/\T 1=.lbox 0 [.int .i64 10,.int .i64 t.n,.str t.name,.str t.field,.str t.wn,.slice (ax t.wk) false,.slice (ar t.kids) false,.slice (strs t.names) false]/\T 10=.slice (strs (aR ws)) true) (fun _=>False) ?_ ?_ (fun _ h=>h.elim) 0 _ (aoW _) ?_
 ·rintro i st hi ⟨T,rfl,e1,e8,e9⟩
  by_cases bA:i<ws.length
  ·obtain⟨p,q,u,n1,n2,k1,hw⟩:=afi i bA
   have hm:=hK u (aoh k1)
   have du:=hm.d H
   have lu:=hm.len
   have Yv:=sL k1
   have ZE:=lp n1
   have ZF:=lp n2
   rw[al] at du Yv
   have x1:(2:Int)*((i+1:Nat):Int)-2=((2*i:Nat):Int):=by omega
   have x2:(2:Int)*((i+1:Nat):Int)-1=((2*i+1:Nat):Int):=by omega
   have x3:((i+1:Nat):Int)+1=((i+1+1:Nat):Int):=by omega
   have hi1:1<=i+1:=by omega
   generalize hm1:i+1=i1 at e9 x1 x2 x3 k1 Yv hi1 ⊢
   generalize hm2:2*i+1=i2 at x2 n2 ZF
   generalize hm3:2*i=i3 at x1 n1 ZE
   have kU:ws.take (i+1)=ws.take i++[[p,q,[45,62]]++av u]:=by rw[ap2,hw];rfl
   have D7:=jO ([p,q,[45,62]]++av u) (ws.take i)
   rw[<- kU] at D7
   have JA:=hlb i
   rw[hm1] at kU D7
   by_cases h0:i=0
   ·subst h0
    simp only[aoQ,apu] at D7 e8
    have a1:aF false 1 16 (.slice (strs (aR [])) true) (.slice [[.str p],[.str q],[.str [45,62]]] true)=some (.slice (strs [p,q,[45,62]]) true):=cD (l:=[]) (m:=[p,q,[45,62]]) (by simp)
    have a2:aF false 1 16 (.slice (strs [p,q,[45,62]]) true) (.slice (strs (av u)) true)=some (.slice (strs ([p,q,[45,62]]++av u)) true):=cD (by simp;omega)
    generalize [p,q,[45,62]]++av u=q2 at a2 D7
    generalize [p,q,[45,62]]=q1 at a1 a2
    simp(disch:=omega)only[aY,aa,simprocAttr,e1,e8,e9,bK,x1,x2,Yv,ZE,ZF,du,a1,a2]
    exact⟨by omega,_,rfl,by simp(disch:=omega)only[aV,aa,simprocAttr,e1],by rw[D7];simp(disch:=omega)only[aV,aa,simprocAttr],by first|(simp(disch:=omega)only[aV,aa,simprocAttr];done)|(simp(disch:=omega)only[aV,aa,simprocAttr];rw[<- x3])|(rw[<- x3];simp(disch:=omega)only[aV,aa,simprocAttr])⟩
   ·have ff:¬ (ws.take i=[]):=fun e=>by
     have:=apK List.length e
     rw[ao2,an1] at this
     omega
    rw[if_neg ff,<- apd] at D7
    generalize aR (ws.take i)=acc at e8 JA D7
    have a0:aF false 1 16 (.slice (strs acc) true) (.slice [[.str [44]]] true)=some (.slice (strs (acc++[[44]])) true):=fV (by omega)
    have a1:aF false 1 16 (.slice (strs (acc++[[44]])) true) (.slice [[.str p],[.str q],[.str [45,62]]] true)=some (.slice (strs (acc++[[44]]++[p,q,[45,62]])) true):=cD (m:=[p,q,[45,62]]) (by simp;omega)
    have a2:aF false 1 16 (.slice (strs (acc++[[44]]++[p,q,[45,62]])) true) (.slice (strs (av u)) true)=some (.slice (strs (acc++[[44]]++[p,q,[45,62]]++av u)) true):=cD (by simp;omega)
    generalize acc++[[44]]++[p,q,[45,62]]++av u=q2 at a2 D7
    generalize acc++[[44]]++[p,q,[45,62]]=q1 at a1 a2
    generalize acc++[[44]]=q0 at a0 a1
    simp(disch:=omega)only[aY,aa,simprocAttr,e1,e8,e9,bK,x1,x2,Yv,ZE,ZF,du,a0,a1,a2]
    exact⟨by omega,_,rfl,by simp(disch:=omega)only[aV,aa,simprocAttr,e1],by rw[D7];simp(disch:=omega)only[aV,aa,simprocAttr],by first|(simp(disch:=omega)only[aV,aa,simprocAttr];done)|(simp(disch:=omega)only[aV,aa,simprocAttr];rw[<- x3])|(rw[<- x3];simp(disch:=omega)only[aV,aa,simprocAttr])⟩
  ·rw[aoJ (by omega)] at e8
   simp(disch:=omega)only[aY,aa,simprocAttr,e1,e8,e9,bK]
   exact⟨_,rfl,by simp(disch:=omega)only[aV,aa,simprocAttr,e1],by simp(disch:=omega)only[aV,aa,simprocAttr,e8]⟩
 ·rintro st ⟨T,rfl,e1,e8⟩
  simp(disch:=omega)only[aY,aa,simprocAttr,e1,e8,hq,a1,atx,dx,b1,b2]
 ·exact⟨_,rfl,by simp(disch:=omega)only[aV,aa,simprocAttr],by simp(disch:=omega)only[aV,aa,simprocAttr,aoQ,aR,strs,aof],by simp(disch:=omega)only[aV,aa,simprocAttr];first|done|rfl⟩
end
end
theorem ac5{t:Tm}{h:Nat}(hF:vl h t)(hO:Am t)(hK:∀ u∈t.kids,qv u)(H:ai):aE A 33 [.agg (cV t)] H=some (.slice (strs (av t)) true,none):=by
 have hk:=zI hO
 rcases tG t.kind with e|e|e|e|e|e|e|e|e|e|e|e|e|e
 ·exact tk0 hF hO hK H e
 ·exact tk1 hF hO hK H e
 ·exact tk2 hF hO hK H e
 ·exact tk3 hF hO hK H e
 ·exact tk4 hF hO hK H e
 ·exact tk5 hF hO hK H e
 ·exact tk6 hF hO hK H e
 ·exact tk7 hF hO hK H e
 ·exact tk8 hF hO hK H e
 ·exact tk9 hF hO hK H e
 ·exact ajc hF hO hK H e
 ·exact ajd hF hO hK H e
 ·exact aje hF hO hK H e
 ·omega
theorem zp{p:List cd × Int}{k:Int}{B:Nat}(h:p.1.length<=B):(o6 p k).length<=B+2:=apk uV (by omega)
theorem Yn{B:Nat}(ns:List cd)(tl:List (List cd × Int))(h:∀ p∈tl,p.1.length<=B):(aR (List.zipWith (fun s (x:List cd × Int)=>[s,[61]]++x.1) ns tl)).length<=tl.length*(B+3):=by
 have h1:=iM (List.zipWith (fun s (x:List cd × Int)=>[s,[61]]++x.1) ns tl) (B+2) (fun y hy=>by
  obtain⟨i,hi⟩:=aoC hy
  rw[List.getElem?_zipWith] at hi
  cases hs:ns[i]? with
  | none=>rw[hs] at hi;cases hi
  | some s =>
   cases hx:tl[i]? with
   | none=>rw[hs,hx] at hi;cases hi
   | some x =>
    rw[hs,hx] at hi
    injection hi with hi
    rw[<- hi]
    have:=h x (aoh hx)
    simp only[aod,an0,an1];omega)
 have h2:(List.zipWith (fun s (x:List cd × Int)=>[s,[61]]++x.1) ns tl).length<=tl.length:=by rw[List.length_zipWith];omega
 exact apk h1 (aoo _ h2)
theorem Ub{B:Nat}(tl:List (List cd × Int))(h:∀ p∈tl,p.1.length<=B):(aR (tl.map (·.1))).length<=tl.length*(B+1):=by
 have h1:=iM (tl.map (·.1)) B (fun y hy=>by obtain⟨x,hx,rfl⟩:=aoD.1 hy;exact h x hx)
 rwa [aoI] at h1
theorem L'{k n:Int}{a f:cd}{w:Wd}{ns:List cd}{tl:List (List cd × Int)}{B:Nat}(h:∀ p∈tl,p.1.length<=B)(hl:tl.length<=3)(hw:(fe w).length<=12):(gx k n a f w ns tl).length<=3*B+60:=by
 have hq:=j6 a
 have h1:=Ub tl h
 have h2:=Yn ns tl h
 have m1:tl.length*(B+1)<=3*(B+1):=aoo _ hl
 have m2:tl.length*(B+3)<=3*(B+3):=aoo _ hl
 unfold gx
 by_cases h0:k=0
 rw[if_pos h0]
 rotate_left
 rw[if_neg h0]
 by_cases Pu:k=1
 rw[if_pos Pu]
 rotate_left
 rw[if_neg Pu]
 by_cases h2' : k=2
 rw[if_pos h2']
 rotate_left
 rw[if_neg h2']
 by_cases h3:k=3
 rw[if_pos h3]
 rotate_left
 rw[if_neg h3]
 by_cases h4:k=4
 rw[if_pos h4]
 rotate_left
 rw[if_neg h4]
 by_cases h5:k=5
 rw[if_pos h5]
 rotate_left
 rw[if_neg h5]
 by_cases h6:k=6
 rw[if_pos h6]
 rotate_left
 rw[if_neg h6]
 by_cases h7:k=7
 rw[if_pos h7]
 rotate_left
 rw[if_neg h7]
 by_cases h8:k=8
 rw[if_pos h8]
 rotate_left
 rw[if_neg h8]
 by_cases h9:k=9
 rw[if_pos h9]
 rotate_left
 rw[if_neg h9]
 by_cases h10:k=10
 rw[if_pos h10]
 rotate_left
 rw[if_neg h10]
 by_cases h11:k=11
 rw[if_pos h11]
 rotate_left
 rw[if_neg h11]
 by_cases h12:k=12
 rw[if_pos h12]
 rotate_left
 rw[if_neg h12]
 simp
 all_goals first|(split<;>first
   | (simp only[aod,an0,an1];omega)
   | (rename_i x;have hx:=h x (by simp);have hk7:=zp (k:=7) hx;simp only[aod,an0,an1];omega)
   | (rename_i x y;have hx:=h x (by simp);have hy:=h y (by simp);have hky:=zp (k:=(fh n).2+1) hy;have vT:=zp (k:=if (fh n).2=3 then 4 else (fh n).2) hx;simp only[aod,an0,an1];omega)
   | (rename_i x y z;have hx:=h x (by simp);have hy:=h y (by simp);have hz:=h z (by simp);simp only[aod,an0,an1];omega)
   | (rename_i x y z a;have hx:=h x (by simp);have hy:=h y (by simp);simp only[aod,an0,an1];omega)
   | (rename_i x y p q;have hx:=h x (by simp);have hy:=h y (by simp);simp only[aod,an0,an1];omega)
   | (rename_i x y z p q;have hx:=h x (by simp);have hy:=h y (by simp);have hz:=h z (by simp);simp only[aod,an0,an1];omega)
   | (rename_i x y z p q r u;have hx:=h x (by simp);have hy:=h y (by simp);have hz:=h z (by simp);simp only[aod,an0,an1];omega)
   | (rename_i x y s;have hx:=h x (by simp);have hy:=h y (by simp);simp only[aod,an0,an1];omega))|(simp only[aod,an0,an1];omega)
def bT:Nat->Nat
 | 0=>0
 | h+1=>3*bT h+60
theorem vk:∀ (h:Nat) (t:Tm),LW h t->(av t).length<=bT h
 | 0,t,hb=>by cases hb
 | h+1,t,hb=>by
  have hF:=hb.out
  rw[cM]
  refine L' (B:=bT h) (fun p hp=>?_) (by rw[aoI];exact hF.kl) (kS 3 _ hF.w)
  obtain⟨u,hu,rfl⟩:=aoD.1 hp
  exact vk h u (hF.kb u hu)
theorem OC{h:Nat}(hh:h<=6):bT h<=100000:=by
 have:h=0\/h=1\/h=2\/h=3\/h=4\/h=5\/h=6:=by omega
 rcases this with rfl|rfl|rfl|rfl|rfl|rfl|rfl<;>decide
theorem H2:∀ (h:Nat) (t:Tm),h<=6->LW h t->ak t=true->qv t
 | 0,t,_,hb,_=>by cases hb
 | h+1,t,hh,hb,hp=>by
  have hF:=hb.out
  have hO:=xS hp
  have hK:∀ u∈t.kids,qv u:=fun u hu=>H2 h u (by omega) (hF.kb u hu) (hO.kids u hu)
  exact⟨fun H=>ac5 hF hO hK H,apk (vk _ t hb) (OC hh)⟩
theorem Sv(a b:List cd)(H:ai)(o o' : Bool)(ha:a.length<=10000000):aE A 77 [.slice (strs a) false,.slice (strs b) false] H=some (.bool (a==b),none):=by
 refine aD (fn:=Rb) rfl rfl rfl ?_
 unfold Rb
 simp(disch:=omega)only[iX,aa,simprocAttr,cg]
 refine kO ?_ ?_<;>intro hlen
 ·have ff:a≠b:=fun e=>by subst e;simp at hlen
  simp(disch:=omega)only[iX,aa,simprocAttr,show (a==b)=false by simpa using ff]
 have Bx:a.length=b.length:=by
  have:(a.length:Int)=b.length:=by simpa using hlen
  omega
 simp(disch:=omega)only[iX,aa,simprocAttr]
 refine xG a.length (fun i=>Hd (fun T=>T 0=.slice (strs a) false/\T 1=.slice (strs b) false/\T 5=.int .i64 i/\(a==b)=(a.drop i==b.drop i)) H H.length 0) ?_ 0 _ (aoW _) ?_
 ·rintro i s hi hs
  obtain⟨T,rfl,h0,h1,h5,hc⟩:=hs.out
  simp(disch:=omega)only[iX,aa,simprocAttr,h0,h5,cg]
  refine kN ?_ ?_<;>intro h
  ·have mn:i<a.length:=by omega
   have AM:i<b.length:=by omega
   simp(disch:=omega)only[iX,aa,simprocAttr,h0,h1,h5,lp (an3 mn),lp (an3 AM)]
   refine kO ?_ ?_<;>intro hb
   ·simp(disch:=omega)only[iX,aa,simprocAttr,hc,aoF mn,aoF AM,aqD,show (a[i]==b[i])=false by simpa using hb]
   ·simp(disch:=omega)only[iX,aa,simprocAttr,h0,h1,h5]
    exact⟨mn,by rw[hc,aoF mn,aoF AM,aqD,show (a[i]==b[i])=true by simpa using hb,aon]⟩
  ·have:i=a.length:=by omega
   subst this
   simp(disch:=omega)only[iX,aa,simprocAttr,hc,apW,show b.drop a.length=[] by rw[Bx,apW]]
 ·simp(disch:=omega)only[iX,aa,simprocAttr,ape,aoG]
def ac4(a b:cd):Bool:=b==[41] || b==[93] || b==[44] || b==[46] || a==[40] || a==[91] || a==[46]
def Yb(l:List cd)(i:Nat):cd:=if 1<=i/\i<l.length/\ac4 (l.getD (i-1) []) (l.getD i [])=false then [32] else []
def part(l:List cd)(i:Nat):List AV:=(List.range (l.length+1)).map fun j=>AV.str (if j<i then Yb l j else [])
theorem gy{H:ai}{o:cJ} : (H++[o])[H.length]?=some o:=by simp
theorem heap_set{H:ai}{o o' : cJ} : (H++[o]).set H.length o'=H++[o']:=by simp
theorem vR{H:ai}{o:cJ} : (H++[o]).take H.length=H:=by simp
theorem az{n:Nat} : Nat.blt n n=false:=by simp[<- aqs,aoE]
theorem getD_at{α:Type}{l:List α}{i:Nat}{d:α}(h:i<l.length):l.getD i d=l[i]:=by simp[List.getD,an3 h]
structure Fd where
 name:cd
 wn:cd
 wk:List Wd
 gU:Int
structure Fm where
 kind:Int
 name:cd
 aW:List Fd
 rn:cd
 rk:List Wd
 body:Tm
 layout:List cd
structure So where
 name:cd
 dq:List cd
 defs:List Fm
 head:List cd
 fin:cd
def fu(f:Fd):List AV:=[.str f.name,.str f.wn,.slice (ax f.wk) false,.int .i64 f.gU]
def gb(f:Fm):List AV:=[.int .i64 f.kind,.str f.name,.slice (f.aW.map fu) false,.str f.rn,.slice (ax f.rk) false,
 .int .i64 f.body.kind,.int .i64 f.body.n,.str f.body.name,.str f.body.field,.str f.body.wn,.slice (ax f.body.wk) false,.slice (ar f.body.kids) false,.slice (strs f.body.names) false,.slice (strs f.layout) false]
def s8(s:So):List AV:=[.str s.name,.slice (strs s.dq) false,.slice (s.defs.map gb) false,.slice (strs s.head) false,.str s.fin]
structure FdB (f:Fd):Prop where
 a:f.name.length<=1100000
 w:wD 3 (.mk f.wn f.wk)
 m:D1 f.gU
structure KN (f:Fm):Prop where
 k:0<=f.kind/\f.kind<=5
 a:f.name.length<=1100000
 sl:f.aW.length<=4
 sb:∀ s∈f.aW,FdB s
 w:wD 3 (.mk f.rn f.rk)
 b:LW 5 f.body
 ll:f.layout.length<=20000
 lb:∀ s∈f.layout,s.length<=1100000
structure Zu (f:Fm):Prop where
 a:f.name.length<=1100000
 sl:f.aW.length<=4
 sb:∀ s∈f.aW,FdB s
 w:wD 3 (.mk f.rn f.rk)
 b:LW 5 f.body
theorem KN.b0{f:Fm}(h:KN f):Zu f:=⟨h.a,h.sl,h.sb,h.w,h.b⟩
structure SoB (s:So):Prop where
 a:s.name.length<=1100000
 ul:s.dq.length<=1100000
 ub:∀ u∈s.dq,u.length<=1100000
 dl:s.defs.length<=3
 db:∀ f∈s.defs,KN f
 hl:s.head.length<=20000
 hb:∀ u∈s.head,u.length<=1100000
 e:s.fin.length<=1100000
theorem K'{l:List Fd}{i:Nat}{e:Fd}(h:l[i]?=some e):(l.map fu)[i]?=some (fu e):=by simp[h]
theorem YH{l:List Fm}{i:Nat}{e:Fm}(h:l[i]?=some e):(l.map gb)[i]?=some (gb e):=by simp[h]
theorem iA{l:List Fd} : (l.map fu).length=l.length:=aoI _
theorem pN{l:List Fm} : (l.map gb).length=l.length:=aoI _
def nM(n:cd)(ks:List Wd):Bool:=n==[]&&ks.isEmpty
def gR(t:Tm):Bool:=t.kind==0&&(t.n==0&&(t.name==[]&&(t.field==[]&&(nM t.wn t.wk&&(t.names==[]&&t.kids.isEmpty)))))
def bJ(k:Int)(f:Fd):Bool:=isWord f.name&&bk (.mk f.wn f.wk)&&decide (0<=f.gU)&&decide (f.gU<=1099511627776)&&(decide (k=4) || decide (f.gU=0))
def fF(f:Fm):Bool:=isWord f.name&&f.aW.all (bJ f.kind)&&bif decide (f.kind=0) || decide (f.kind=1) then nM f.rn f.rk&&gR f.body else bk (.mk f.rn f.rk)&&ak f.body
def dk(k:Int)(f:Fd):List cd:=[f.name]++fe (.mk f.wn f.wk)++(if k=4 then [mH f.gU.toNat] else [])
def qf(f:Fm):List cd:=[pS.getD f.kind.toNat [],f.name,[40]]++aR (f.aW.map (dk f.kind))++[[41]]++(if f.kind=0\/f.kind=1 then [] else fe (.mk f.rn f.rk)++[[61]]++av f.body)
def heads(s:So):List cd:=[[109,111,100,117,108,101],s.name]++(s.dq.map fun u=>[[117,115,101],u]).flatten
theorem nL:ax []=[]:=by simp[ax]
theorem Su(n:cd)(ks:List Wd)(H:ai):aE A 76 [.agg [.str n,.slice (ax ks) false],.agg [.str [],.slice [] false]] H=some (.bool (nM n ks),none):=by
 refine aD (fn:=Ra) rfl rfl rfl ?_
 unfold Ra
 cases h1:(n==[]) with
 | false=>simp(disch:=omega)only[aY,aa,simprocAttr,h1,nM,aoj]
 | true =>
 cases ks with
 | cons k r =>
  have e:¬ (((ax (k :: r)).length:Int)=0):=by rw[dG,an0];omega
  simp(disch:=omega)only[aY,aa,simprocAttr,h1,e,an1,aoG,nM,List.isEmpty_cons,Bool.and_false]
 | nil =>
  simp(disch:=omega)only[aY,aa,simprocAttr,h1,nL,an1,aoG,nM,List.isEmpty_nil,Bool.and_true,aon]
  refine cK 0 0 (fun i s=>Zv (fun T=>T 2=.lbox 0 [.str n,.slice [] false]/\T 5=.int .i64 0) H H.length s) (Zv (fun T=>True) H H.length) (fun _=>False) ?_ ?_ (fun _ h=>h.elim) 0 _ (an4 _) ?_
  ·rintro i s hi hs
   obtain⟨T,g,rfl,e2,e5⟩:=hs.out
   simp(disch:=omega)only[aY,aa,simprocAttr,e2,e5,an1,aoG]
  ·intro s hs
   obtain⟨T,g,rfl, -⟩:=hs.out
   simp(disch:=omega)only[aY,aa,simprocAttr]
  ·simp(disch:=omega)only[aY,aa,simprocAttr]
theorem St(t:Tm)(qk:t.names.length<=10000000)(H:ai):aE A 40 [.agg (cV t),.agg [.int .i64 0,.int .i64 0,.str [],.str [],.str [],.slice [] false,.slice [] false,.slice [] false]] H=some (.bool (gR t),none):=by
 have hw:=Su t.wn t.wk H
 have hs:=Sv t.names [] H false false qk
 rw[jT] at hs
 refine aD (fn:=QR) rfl rfl rfl ?_
 unfold QR
 rw[al]
 cases c1:(t.kind==0) with
 | false=>simp(disch:=omega)only[aY,aa,simprocAttr,c1,hw,hs,bne,qk,gR,aoj,aon,aoa,aoe]
 | true =>
 cases c2:(t.n==0) with
 | false=>simp(disch:=omega)only[aY,aa,simprocAttr,c1,c2,hw,hs,bne,qk,gR,aoj,aon,aoa,aoe]
 | true =>
 cases c3:(t.name==[]) with
 | false=>simp(disch:=omega)only[aY,aa,simprocAttr,c1,c2,c3,hw,hs,bne,qk,gR,aoj,aon,aoa,aoe]
 | true =>
 cases c4:(t.field==[]) with
 | false=>simp(disch:=omega)only[aY,aa,simprocAttr,c1,c2,c3,c4,hw,hs,bne,qk,gR,aoj,aon,aoa,aoe]
 | true =>
 cases c5:nM t.wn t.wk with
 | false=>simp(disch:=omega)only[aY,aa,simprocAttr,c1,c2,c3,c4,c5,hw,hs,bne,qk,gR,aoj,aon,aoa,aoe]
 | true =>
 cases c6:(t.names==[]) with
 | false=>simp(disch:=omega)only[aY,aa,simprocAttr,c1,c2,c3,c4,c5,c6,hw,hs,bne,qk,gR,aoj,aon,aoa,aoe]
 | true =>
 cases hk:t.kids.isEmpty with
 | false =>
  have e:((t.kids.length:Int)==0)=false:=by
   cases h:t.kids with
   | nil=>rw[h] at hk;cases hk
   | cons a r=>simp;omega
  simp(disch:=omega)only[aY,aa,simprocAttr,c1,c2,c3,c4,c5,c6,hw,hs,bne,qk,hk,e,bK,an1,aoG,gR,aoj,aon,aoa,aoe]
 | true =>
  have e:t.kids=[]:=aqa.1 hk
  rw[e]
  simp(disch:=omega)only[aY,aa,simprocAttr,c1,c2,c3,c4,c5,c6,hw,hs,bne,qk,hk,ar,bK,an1,aoG,gR,aoj,aon,aoa,aoe]
  refine cK 0 0 (fun i s=>Zv (fun T=>T 2=.lbox 0 [.int .i64 t.kind,.int .i64 t.n,.str t.name,.str t.field,.str t.wn,.slice (ax t.wk) false,.slice [] false,.slice (strs t.names) false]/\T 5=.int .i64 0) H H.length s) (Zv (fun T=>True) H H.length) (fun _=>False) ?_ ?_ (fun _ h=>h.elim) 0 _ (an4 _) ?_
  ·rintro i s hi hs
   obtain⟨T,g,rfl,e2,e5⟩:=hs.out
   simp(disch:=omega)only[aY,aa,simprocAttr,e2,e5,an1,aoG]
  ·intro s hs
   obtain⟨T,g,rfl, -⟩:=hs.out
   simp(disch:=omega)only[aY,aa,simprocAttr]
  ·simp(disch:=omega)only[aY,aa,simprocAttr]
theorem iV{α:Type}{l:List α}{i:Nat}{u:α}(h:l[i]?=some u):l.take (i+1)=l.take i++[u]:=by rw[ap2,h];rfl
theorem Wz{f:Fm}(hb:KN f)(H:ai):aE A 30 [.agg (gb f)] H=some (.bool (fF f),none):=by
 have hw:=ox f.name H (by have:=hb.a;omega)
 obtain⟨k0,k5⟩:=hb.k
 have hr:=wi 3 (.mk f.rn f.rk) H hb.w
 rw[hN] at hr
 have hpt:=BX 5 f.body H hb.b
 have qk:f.body.names.length<=10000000:=by have:=hb.b.out.nl;omega
 have hz:=St f.body qk H
 rw[al] at hpt hz
 refine aD (fn:=JS) rfl rfl rfl ?_
 rw[gb]
 unfold JS
 cases hn:isWord f.name with
 | false =>
  have e:fF f=false:=by unfold fF;rw[hn];rfl
  simp(disch:=omega)only[aY,aa,simprocAttr,hw,hn,e]
 | true =>
 simp(disch:=omega)only[aY,aa,simprocAttr,hw,hn]
 refine cK f.aW.length 0 (fun i s=>∃ T g,s=⟨T,H,H.length,g⟩/\T 1=.lbox 0 [.int .i64 f.kind,.str f.name,.slice (f.aW.map fu) false,.str f.rn,.slice (ax f.rk) false,.int .i64 f.body.kind,.int .i64 f.body.n,.str f.body.name,.str f.body.field,.str f.body.wn,.slice (ax f.body.wk) false,.slice (ar f.body.kids) false,.slice (strs f.body.names) false,.slice (strs f.layout) false]/\T 3=.int .i64 i/\(f.aW.take i).all (bJ f.kind)=true)
  (fun s=>∃ T g,s=⟨T,H,H.length,g⟩/\T 1=.lbox 0 [.int .i64 f.kind,.str f.name,.slice (f.aW.map fu) false,.str f.rn,.slice (ax f.rk) false,.int .i64 f.body.kind,.int .i64 f.body.n,.str f.body.name,.str f.body.field,.str f.body.wn,.slice (ax f.body.wk) false,.slice (ar f.body.kids) false,.slice (strs f.body.names) false,.slice (strs f.layout) false]/\f.aW.all (bJ f.kind)=true) (fun s=>fin H.length [.tmp 2] s=some (.bool (fF f),none)) ?_ ?_ ?_ 0 _ (aoW _) ?_
 ·rintro i s hi ⟨T,g,rfl,e1,e3,fH⟩
  by_cases bA:i<f.aW.length
  ·have hx:=an3 bA
   have hm:=aoX bA
   have kU:=iV hx
   generalize f.aW[i]=u at hx hm kU
   have gq:=K' hx
   rw[fu] at gq
   have hu:=hb.sb u hm
   obtain⟨m0,m1⟩:=hu.m
   have hwu:=ox u.name H (by have:=hu.a;omega)
   have JK:=wi 3 (.mk u.wn u.wk) H hu.w
   rw[hN] at JK
   have MS:bJ f.kind u=false->fF f=false:=by
    intro h
    have:f.aW.all (bJ f.kind)=false:=by rw[List.all_eq_false];exact⟨u,hm,by rw[h];decide⟩
    unfold fF;rw[this,Bool.and_false];rfl
   have YO:bJ f.kind u=true->(f.aW.take (i+1)).all (bJ f.kind)=true:=by
    intro h;rw[kU,List.all_append,fH,aoV,h];rfl
   unfold bJ at MS YO
   have hf4:f.aW.length<=4:=hb.sl
   cases a1:isWord u.name with
   | false =>
    have e:=MS (by simp[a1])
    simp(disch:=omega)only[aY,aa,simprocAttr,e1,e3,iA,gq,hwu,JK,a1,e]
   | true =>
   cases a2:bk (.mk u.wn u.wk) with
   | false =>
    have e:=MS (by simp[a1,a2])
    simp(disch:=omega)only[aY,aa,simprocAttr,e1,e3,iA,gq,hwu,JK,a1,a2,e]
   | true =>
   by_cases a3:u.gU<0
   ·have e:=MS (by simp[show ¬ 0<=u.gU by omega])
    simp(disch:=omega)only[aY,aa,simprocAttr,e1,e3,iA,gq,hwu,JK,a1,a2,e]
   by_cases a4:1099511627776<u.gU
   ·have e:=MS (by simp[show ¬ u.gU<=1099511627776 by omega])
    simp(disch:=omega)only[aY,aa,simprocAttr,e1,e3,iA,gq,hwu,JK,a1,a2,e]
   by_cases a5:f.kind=4
   ·have e:=YO (by simp[a1,a2,a5];omega)
    simp(disch:=omega)only[aY,aa,simprocAttr,e1,e3,iA,gq,hwu,JK,a1,a2]
    exact⟨bA,_,_,rfl,by simp(disch:=omega)only[aV,aa,simprocAttr,e1],by simp(disch:=omega)only[aV,aa,simprocAttr],e⟩
   by_cases a6:u.gU=0
   ·have e:=YO (by simp[a1,a2,a6])
    simp(disch:=omega)only[aY,aa,simprocAttr,e1,e3,iA,gq,hwu,JK,a1,a2]
    exact⟨bA,_,_,rfl,by simp(disch:=omega)only[aV,aa,simprocAttr,e1],by simp(disch:=omega)only[aV,aa,simprocAttr],e⟩
   ·have e:=MS (by simp[a5,a6])
    simp(disch:=omega)only[aY,aa,simprocAttr,e1,e3,iA,gq,hwu,JK,a1,a2,e]
  ·simp(disch:=omega)only[aY,aa,simprocAttr,e1,e3,iA]
   exact⟨_,_,rfl,by simp(disch:=omega)only[aV,aa,simprocAttr,e1],by rw[<- fH,aoJ (by omega)]⟩
 ·rintro s ⟨T,g,rfl,e1,fH⟩
  have hp:fF f=bif decide (f.kind=0) || decide (f.kind=1) then nM f.rn f.rk&&gR f.body else bk (.mk f.rn f.rk)&&ak f.body:=by
   unfold fF;rw[hn,fH];rfl
  by_cases b0:f.kind=0\/f.kind=1
  ·have e:fF f=(nM f.rn f.rk&&gR f.body):=by
    rw[hp];rcases b0 with b|b<;>simp[b]
   rw[e]
   unfold nM
   have hk:(f.kind==0)=true\/(f.kind==0)=false/\(f.kind==1)=true:=by
    rcases b0 with b|b
    ·exact .inl (by simp[b])
    ·exact .inr (by simp[b])
   rcases hk with hk|⟨hk,vT⟩
   ·cases d1:(f.rn==[]) with
    | false=>simp(disch:=omega)only[aY,aa,simprocAttr,e1,hk,d1,aoj]
    | true =>
    cases d2:f.rk.isEmpty with
    | false =>
     have e2:((f.rk.length:Int)==0)=false:=by
      cases h:f.rk with
      | nil=>rw[h] at d2;cases d2
      | cons a r=>simp;omega
     simp(disch:=omega)only[aY,aa,simprocAttr,e1,hk,d1,d2,e2,dG,aoj,aon]
    | true =>
     have e2:((f.rk.length:Int)==0)=true:=by rw[aqa.1 d2];rfl
     simp(disch:=omega)only[aY,aa,simprocAttr,e1,hk,d1,d2,e2,hz,dG,aon,cF]
   ·cases d1:(f.rn==[]) with
    | false=>simp(disch:=omega)only[aY,aa,simprocAttr,e1,hk,vT,d1,aoj]
    | true =>
    cases d2:f.rk.isEmpty with
    | false =>
     have e2:((f.rk.length:Int)==0)=false:=by
      cases h:f.rk with
      | nil=>rw[h] at d2;cases d2
      | cons a r=>simp;omega
     simp(disch:=omega)only[aY,aa,simprocAttr,e1,hk,vT,d1,d2,e2,dG,aoj,aon]
    | true =>
     have e2:((f.rk.length:Int)==0)=true:=by rw[aqa.1 d2];rfl
     simp(disch:=omega)only[aY,aa,simprocAttr,e1,hk,vT,d1,d2,e2,hz,dG,aon,cF]
  ·have e:fF f=(bk (.mk f.rn f.rk)&&ak f.body):=by
    rw[hp,show (decide (f.kind=0) || decide (f.kind=1))=false by simpa using b0];rfl
   rw[e]
   have c0:f.kind≠0:=fun h=>b0 (.inl h)
   have c1:f.kind≠1:=fun h=>b0 (.inr h)
   cases a1:bk (.mk f.rn f.rk) with
   | false=>simp(disch:=omega)only[aY,aa,simprocAttr,e1,hr,a1,aoj]
   | true=>simp(disch:=omega)only[aY,aa,simprocAttr,e1,hr,hpt,a1,aon]
 ·intro s hs;exact hs
 ·exact⟨_,_,rfl,by simp(disch:=omega)only[aV,aa,simprocAttr],by simp(disch:=omega)only[aV,aa,simprocAttr,aoG],by simp⟩
def vg(f:Fm):List cd:=if fF f=true then qf f else []
def tP(s:So):List cd:=if isWord s.name=true/\s.dq.all isWord=true then heads s else []
theorem Rw{f:Fm}(hb:KN f):([[.str [114,101,99]],[.str [99,97,115,101]],[.str [102,117,110]],[.str [111,110]],[.str [116,101,115,116]],[.str [99,111,110,118]]]:List (List AV))[f.kind.toNat]?=some [.str (pS.getD f.kind.toNat [])]:=by
 obtain⟨k0,k5⟩:=hb.k
 have:f.kind.toNat=0\/f.kind.toNat=1\/f.kind.toNat=2\/f.kind.toNat=3\/f.kind.toNat=4\/f.kind.toNat=5:=by omega
 rcases this with h|h|h|h|h|h<;>rw[h]<;>rfl
theorem yS{k:Int}{u:Fd}(h:FdB u):(dk k u).length<=14:=by
 have:=kS 3 _ h.w
 unfold dk
 split<;>simp only[aod,an0,an1]<;>omega
theorem Kv{f:Fm}(h:fF f=true):(∀ u∈f.aW,bJ f.kind u=true)/\(f.kind=0\/f.kind=1\/(bk (.mk f.rn f.rk)=true/\ak f.body=true)):=by
 unfold fF at h
 simp only[an7] at h
 obtain⟨⟨_,h1⟩,h2⟩:=h
 refine⟨an'.1 h1,?_⟩
 by_cases b0:f.kind=0
 ·exact .inl b0
 by_cases b1:f.kind=1
 ·exact .inr (.inl b1)
 simp[b0,b1] at h2
 exact .inr (.inr h2)
theorem vP{f:Fm}(hb:KN f):(qf f).length<=10000:=by
 have h1:=iM (f.aW.map (dk f.kind)) 14 (fun x hx=>by
  obtain⟨u,hu,rfl⟩:=aoD.1 hx
  exact yS (hb.sb u hu))
 have h2:=kS 3 _ hb.w
 have h3:(av f.body).length<=7260:=vk 5 f.body hb.b
 have h4:=hb.sl
 rw[aoI] at h1
 have h5:f.aW.length*(14+1)<=60:=by omega
 unfold qf
 split<;>simp only[aod,an0,an1]<;>omega
theorem DM{f:Fm}(hb:KN f)(H:ai):aE A 8 [.agg (gb f)] H=some (.slice (strs (vg f)) (!(fF f) || !(decide (f.kind=0) || decide (f.kind=1))),none):=by
 have hp:=Wz hb H
 obtain⟨k0,k5⟩:=hb.k
 refine aD (fn:=ir8) rfl rfl rfl ?_
 rw[gb] at hp ⊢
 unfold ir8 vg
 cases BB:fF f with
 | false =>
  rw[if_neg (by decide)]
  simp(disch:=omega)only[aY,aa,simprocAttr,hp,BB,jT,aoa,aoz]
 | true =>
 rw[if_pos rfl]
 obtain⟨tV,PV⟩:=Kv BB
 have aaQ:=Rw hb
 simp(disch:=omega)only[aY,aa,simprocAttr,hp,BB,aaQ]
 generalize sj:([pS.getD f.kind.toNat [],f.name,[40]]:List cd)=pre
 have ae7:pre.length=3:=by rw[<- sj];rfl
 have hpc:([[.str (pS.getD f.kind.toNat [])],[.str f.name],[.str [40]]]:List (List AV))=strs pre:=by rw[<- sj];rfl
 simp only[hpc]
 have PI:qf f=pre++aR (f.aW.map (dk f.kind))++[[41]]++(if f.kind=0\/f.kind=1 then [] else fe (.mk f.rn f.rk)++[[61]]++av f.body):=by unfold qf;rw[sj]
 have hlen:=vP hb
 have hf4:f.aW.length<=4:=hb.sl
 refine cK f.aW.length 0 (fun i s=>∃ T g,s=⟨T,H,H.length,g⟩/\T 1=.lbox 0 [.int .i64 f.kind,.str f.name,.slice (f.aW.map fu) false,.str f.rn,.slice (ax f.rk) false,.int .i64 f.body.kind,.int .i64 f.body.n,.str f.body.name,.str f.body.field,.str f.body.wn,.slice (ax f.body.wk) false,.slice (ar f.body.kids) false,.slice (strs f.body.names) false,.slice (strs f.layout) false]/\T 4=.int .i64 i/\T 3=.slice (strs (pre++aR ((f.aW.take i).map (dk f.kind)))) true)
  (fun s=>∃ T g,s=⟨T,H,H.length,g⟩/\T 1=.lbox 0 [.int .i64 f.kind,.str f.name,.slice (f.aW.map fu) false,.str f.rn,.slice (ax f.rk) false,.int .i64 f.body.kind,.int .i64 f.body.n,.str f.body.name,.str f.body.field,.str f.body.wn,.slice (ax f.body.wk) false,.slice (ar f.body.kids) false,.slice (strs f.body.names) false,.slice (strs f.layout) false]/\T 3=.slice (strs (pre++aR (f.aW.map (dk f.kind)))) true) (fun _=>False) ?_ ?_ (fun _ h=>h.elim) 0 _ (aoW _) ?_
 ·rintro i s hi ⟨T,g,rfl,e1,e4,e3⟩
  by_cases bA:i<f.aW.length
  ·have hx:=an3 bA
   have hm:=aoX bA
   have kU:=iV hx
   generalize f.aW[i]=u at hx hm kU
   have gq:=K' hx
   rw[fu] at gq
   have hu:=hb.sb u hm
   have JK:=tV u hm
   unfold bJ at JK
   simp only[an7,aoq,apZ] at JK
   obtain⟨⟨⟨⟨u1,u2⟩,u3⟩,u4⟩,u5⟩:=JK
   have Ux:=D0 3 (.mk u.wn u.wk) H (by omega) hu.w u2
   have hwl:=kS 3 _ hu.w
   rw[hN] at Ux
   have Uk:aE A 32 [.int .i64 u.gU] H=some (.str (mH u.gU.toNat),none):=by
    have:=yw u.gU.toNat H (by omega)
    rwa [apX u3] at this
   have hs:=jO (dk f.kind u) ((f.aW.take i).map (dk f.kind))
   have lG:(f.aW.take (i+1)).map (dk f.kind)=(f.aW.take i).map (dk f.kind)++[dk f.kind u]:=by rw[kU];simp
   rw[<- lG] at hs
   have JA:(aR ((f.aW.take i).map (dk f.kind))).length<=45:=by
    have h1:=iM ((f.aW.take i).map (dk f.kind)) 14 (fun x hx=>by
     obtain⟨v,hv,rfl⟩:=aoD.1 hx
     exact yS (hb.sb v (apD hv)))
    rw[aoI,ao2] at h1
    have:min i f.aW.length<=3:=by omega
    have:min i f.aW.length*(14+1)<=60:=by omega
    omega
   have step:∀ (base:List cd),base.length<=100->base++dk f.kind u=pre++aR ((f.aW.take (i+1)).map (dk f.kind)) ->
     aF false 1 16 (.slice (strs base) true) (.slice [[.str u.name]] true)=some (.slice (strs (base++[u.name])) true) /\
     aF false 1 16 (.slice (strs (base++[u.name])) true) (.slice (strs (fe (.mk u.wn u.wk))) true)=some (.slice (strs (base++[u.name]++fe (.mk u.wn u.wk))) true) /\
     (f.kind=4->aF false 1 16 (.slice (strs (base++[u.name]++fe (.mk u.wn u.wk))) true) (.slice [[.str (mH u.gU.toNat)]] true)=some (.slice (strs (pre++aR ((f.aW.take (i+1)).map (dk f.kind)))) true)) /\
     (f.kind≠4->base++[u.name]++fe (.mk u.wn u.wk)=pre++aR ((f.aW.take (i+1)).map (dk f.kind))):=by
    intro base hbl he
    refine⟨fV (by omega),cD (by simp;omega),fun h4=>?_,fun h4=>?_⟩
    ·rw[<- he];unfold dk;rw[if_pos h4]
     simp only[<- apd]
     exact fV (by simp;omega)
    ·rw[<- he];unfold dk;rw[if_neg h4]
     simp only[<- apd,apl]
   have MG:∀ (T' : aU) (g' : Nat),T' 1=.lbox 0 [.int .i64 f.kind,.str f.name,.slice (f.aW.map fu) false,.str f.rn,.slice (ax f.rk) false,.int .i64 f.body.kind,.int .i64 f.body.n,.str f.body.name,.str f.body.field,.str f.body.wn,.slice (ax f.body.wk) false,.slice (ar f.body.kids) false,.slice (strs f.body.names) false,.slice (strs f.layout) false]->T' 4=.int .i64 ((i:Int)+1)->T' 3=.slice (strs (pre++aR ((f.aW.take (i+1)).map (dk f.kind)))) true ->
     i<f.aW.length/\∃ T g,(⟨T',H,H.length,g'⟩:AS)=⟨T,H,H.length,g⟩/\T 1=.lbox 0 [.int .i64 f.kind,.str f.name,.slice (f.aW.map fu) false,.str f.rn,.slice (ax f.rk) false,.int .i64 f.body.kind,.int .i64 f.body.n,.str f.body.name,.str f.body.field,.str f.body.wn,.slice (ax f.body.wk) false,.slice (ar f.body.kids) false,.slice (strs f.body.names) false,.slice (strs f.layout) false]/\T 4=.int .i64 ((i:Int)+1)/\T 3=.slice (strs (pre++aR ((f.aW.take (i+1)).map (dk f.kind)))) true :=
    fun T' g' q1 q2 q3=>⟨bA,_,_,rfl,q1,q2,q3⟩
   by_cases h0:i=0
   ·subst h0
    simp only[aoQ,aof] at hs e3
    rw[if_pos trivial] at hs
    rw[show aR ([]:List (List cd))=[] from rfl,apl] at e3
    obtain⟨a1,a2,a3,a4⟩:=step pre (by omega) (by rw[hs])
    generalize pre++aR ((f.aW.take (0+1)).map (dk f.kind))=out at a3 a4 MG ⊢
    generalize pre++[u.name]++fe (.mk u.wn u.wk)=b2 at a2 a3 a4
    generalize pre++[u.name]=b1 at a1 a2
    by_cases h4:f.kind=4
    ·have a3:=a3 h4
     simp(disch:=omega)only[aY,aa,simprocAttr,e1,e3,e4,iA,gq,Ux,Uk,a1,a2,a3]
     refine MG _ _ ?_ ?_ ?_
     ·simp(disch:=omega)only[aV,aa,simprocAttr,e1]
     ·simp(disch:=omega)only[aV,aa,simprocAttr,e4]
     ·simp(disch:=omega)only[aV,aa,simprocAttr]
    ·have a4:=a4 h4
     simp(disch:=omega)only[aY,aa,simprocAttr,e1,e3,e4,iA,gq,Ux,Uk,a1,a2]
     refine MG _ _ ?_ ?_ ?_
     ·simp(disch:=omega)only[aV,aa,simprocAttr,e1]
     ·simp(disch:=omega)only[aV,aa,simprocAttr,e4]
     ·simp(disch:=omega)only[aV,aa,simprocAttr,a4]
   ·have ff:¬ ((f.aW.take i).map (dk f.kind)=[]):=fun e=>by
     have:=apK List.length e
     rw[aoI,ao2,an1] at this
     omega
    rw[if_neg ff] at hs
    generalize aR ((f.aW.take i).map (dk f.kind))=acc at e3 JA hs
    have a0:aF false 1 16 (.slice (strs (pre++acc)) true) (.slice [[.str [44]]] true)=some (.slice (strs (pre++acc++[[44]])) true):=fV (by simp;omega)
    obtain⟨a1,a2,a3,a4⟩:=step (pre++acc++[[44]]) (by simp;omega) (by rw[hs];simp)
    generalize pre++aR ((f.aW.take (i+1)).map (dk f.kind))=out at a3 a4 MG ⊢
    generalize pre++acc++[[44]]++[u.name]++fe (.mk u.wn u.wk)=b2 at a2 a3 a4
    generalize pre++acc++[[44]]++[u.name]=b1 at a1 a2
    generalize pre++acc++[[44]]=b0 at a0 a1
    by_cases h4:f.kind=4
    ·have a3:=a3 h4
     simp(disch:=omega)only[aY,aa,simprocAttr,e1,e3,e4,iA,gq,Ux,Uk,a0,a1,a2,a3]
     refine MG _ _ ?_ ?_ ?_
     ·simp(disch:=omega)only[aV,aa,simprocAttr,e1]
     ·simp(disch:=omega)only[aV,aa,simprocAttr,e4]
     ·simp(disch:=omega)only[aV,aa,simprocAttr]
    ·have a4:=a4 h4
     simp(disch:=omega)only[aY,aa,simprocAttr,e1,e3,e4,iA,gq,Ux,Uk,a0,a1,a2]
     refine MG _ _ ?_ ?_ ?_
     ·simp(disch:=omega)only[aV,aa,simprocAttr,e1]
     ·simp(disch:=omega)only[aV,aa,simprocAttr,e4]
     ·simp(disch:=omega)only[aV,aa,simprocAttr,a4]
  ·rw[aoJ (by omega)] at e3
   simp(disch:=omega)only[aY,aa,simprocAttr,e1,e3,e4,iA]
   exact⟨_,_,rfl,by simp(disch:=omega)only[aV,aa,simprocAttr,e1],by simp(disch:=omega)only[aV,aa,simprocAttr,e3]⟩
 ·rintro s ⟨T,g,rfl,e1,e3⟩
  have hl2:(pre++aR (f.aW.map (dk f.kind))).length<=10000:=by
   rw[PI,aod,aod] at hlen;omega
  have a1:aF false 1 16 (.slice (strs (pre++aR (f.aW.map (dk f.kind)))) true) (.slice [[.str [41]]] true)=some (.slice (strs (pre++aR (f.aW.map (dk f.kind))++[[41]])) true):=fV (by omega)
  by_cases b0:f.kind=0\/f.kind=1
  ·rw[if_pos b0,apl] at PI
   rw[<- PI] at a1
   have eo:(!(decide (f.kind=0) || decide (f.kind=1)))=false:=by rcases b0 with b|b<;>simp[b]
   rw[eo]
   rcases b0 with b|b<;>simp(disch:=omega)only[aY,aa,simprocAttr,e1,e3,a1]
  ·rw[if_neg b0] at PI
   have eo:(!(decide (f.kind=0) || decide (f.kind=1)))=true:=by simpa using b0
   rw[eo]
   have c0:f.kind≠0:=fun h=>b0 (.inl h)
   have c1:f.kind≠1:=fun h=>b0 (.inr h)
   obtain⟨r1,r2⟩:bk (.mk f.rn f.rk)=true/\ak f.body=true:=by
    rcases PV with h|h|h
    ·exact absurd h c0
    ·exact absurd h c1
    ·exact h
   have Ux:=D0 3 (.mk f.rn f.rk) H (by omega) hb.w r1
   have oo:=(H2 5 f.body (by omega) hb.b r2).d H
   rw[hN] at Ux
   rw[al] at oo
   have hwl:=kS 3 _ hb.w
   have htl:(av f.body).length<=7260:=vk 5 f.body hb.b
   generalize fe (.mk f.rn f.rk)=w at Ux hwl PI
   generalize av f.body=tt at oo htl PI
   generalize pre++aR (f.aW.map (dk f.kind))=b0 at a1 e3 hl2 PI
   have a2:aF false 1 16 (.slice (strs (b0++[[41]])) true) (.slice (strs w) true)=some (.slice (strs (b0++[[41]]++w)) true):=cD (by simp;omega)
   have a3:aF false 1 16 (.slice (strs (b0++[[41]]++w)) true) (.slice [[.str [61]]] true)=some (.slice (strs (b0++[[41]]++w++[[61]])) true):=fV (by simp;omega)
   have a4:aF false 1 16 (.slice (strs (b0++[[41]]++w++[[61]])) true) (.slice (strs tt) true)=some (.slice (strs (b0++[[41]]++w++[[61]]++tt)) true):=cD (by simp;omega)
   rw[show qf f=b0++[[41]]++w++[[61]]++tt by rw[PI];simp]
   generalize b0++[[41]]++w++[[61]]++tt=b5 at a4 ⊢
   generalize b0++[[41]]++w++[[61]]=b4 at a3 a4
   generalize b0++[[41]]++w=b3 at a2 a3
   generalize b0++[[41]]=b1 at a1 a2
   simp(disch:=omega)only[aY,aa,simprocAttr,e1,e3,a1,a2,a3,a4,Ux,oo]
 ·exact⟨_,_,rfl,by simp(disch:=omega)only[aV,aa,simprocAttr],by simp(disch:=omega)only[aV,aa,simprocAttr,aoG],by simp(disch:=omega)only[aV,aa,simprocAttr,aoQ,aof,aR,apl]⟩
theorem Sj{s:So}(hb:SoB s)(H:ai):aE A 13 [.agg (s8 s)] H=some (.slice (strs (tP s)) (!(isWord s.name&&s.dq.all isWord)),none):=by
 have hw:=ox s.name H (by have:=hb.a;omega)
 have hul:=hb.ul
 have hn:=Hl s.dq H (by omega) (fun u hu=>by have:=hb.ub u hu;omega)
 refine aD (fn:=Qw) rfl rfl rfl ?_
 rw[s8]
 unfold Qw tP
 cases h1:isWord s.name with
 | false =>
  rw[if_neg (by simp)]
  simp(disch:=omega)only[aY,aa,simprocAttr,hw,h1,jT,aoj,aoa]
 | true =>
 cases h2:s.dq.all isWord with
 | false =>
  rw[if_neg (by simp)]
  simp(disch:=omega)only[aY,aa,simprocAttr,hw,h1,hn,h2,jT,Bool.and_false,aoa]
 | true =>
 rw[if_pos ⟨rfl,rfl⟩]
 simp(disch:=omega)only[aY,aa,simprocAttr,hw,h1,hn,h2,ao9,aoe]
 unfold heads
 generalize sj:([[109,111,100,117,108,101],s.name]:List cd)=pre
 have ae7:pre.length=2:=by rw[<- sj];rfl
 have hpc:([[.str [109,111,100,117,108,101]],[.str s.name]]:List (List AV))=strs pre:=by rw[<- sj];rfl
 simp only[hpc]
 have ful:∀ l:List cd,((l.map fun u=>[[117,115,101],u]).flatten:List cd).length=2*l.length:=by
  intro l;induction l with
  | nil=>rfl
  | cons a r ih=>simp only[aoc,ao7,aod,ih,an0,an1];omega
 refine cK s.dq.length 0 (fun i st=>∃ T g,st=⟨T,H,H.length,g⟩/\T 1=.lbox 0 [.str s.name,.slice (strs s.dq) false,.slice (s.defs.map gb) false,.slice (strs s.head) false,.str s.fin]/\T 4=.int .i64 i/\T 3=.slice (strs (pre++((s.dq.take i).map fun u=>[[117,115,101],u]).flatten)) true)
  (fun st=>∃ T g,st=⟨T,H,H.length,g⟩/\T 3=.slice (strs (pre++(s.dq.map fun u=>[[117,115,101],u]).flatten)) true) (fun _=>False) ?_ ?_ (fun _ h=>h.elim) 0 _ (aoW _) ?_
 ·rintro i st hi ⟨T,g,rfl,e1,e4,e3⟩
  by_cases bA:i<s.dq.length
  ·have hx:=an3 bA
   have kU:=iV hx
   generalize s.dq[i]=u at hx kU
   have gq:=lp hx
   have hl:=ful (s.dq.take i)
   rw[ao2] at hl
   have lG:pre++((s.dq.take (i+1)).map fun u=>[[117,115,101],u]).flatten=pre++((s.dq.take i).map fun u=>[[117,115,101],u]).flatten++[[117,115,101],u]:=by rw[kU];simp
   generalize ((s.dq.take i).map fun u=>[[117,115,101],u]).flatten=acc at e3 hl lG
   have a1:aF false 1 16 (.slice (strs (pre++acc)) true) (.slice [[.str [117,115,101]],[.str u]] true)=some (.slice (strs (pre++acc++[[117,115,101],u])) true):=cD (m:=[[117,115,101],u]) (by simp;omega)
   rw[<- lG] at a1
   simp(disch:=omega)only[aY,aa,simprocAttr,e1,e3,e4,cg,gq,a1]
   exact⟨bA,_,_,rfl,by simp(disch:=omega)only[aV,aa,simprocAttr,e1],by simp(disch:=omega)only[aV,aa,simprocAttr],by simp(disch:=omega)only[aV,aa,simprocAttr]⟩
  ·rw[aoJ (by omega)] at e3
   simp(disch:=omega)only[aY,aa,simprocAttr,e1,e3,e4,cg]
   exact⟨_,_,rfl,by simp(disch:=omega)only[aV,aa,simprocAttr,e3]⟩
 ·rintro st ⟨T,g,rfl,e3⟩
  simp(disch:=omega)only[aY,aa,simprocAttr,e3]
 ·exact⟨_,_,rfl,by simp(disch:=omega)only[aV,aa,simprocAttr],by simp(disch:=omega)only[aV,aa,simprocAttr,aoG],by simp(disch:=omega)only[aV,aa,simprocAttr,aoQ,aof,aqH,apl]⟩
theorem agF{w:Wd} : (hN w).length=2:=by rw[iQ];rfl
theorem aji{w:Wd} : RO (hN w)=true:=by rw[iQ];rfl
theorem S6{l:List Wd} : wC 2 (ax l):=by
 rw[mT]
 exact⟨fun r hr=>by obtain⟨t,_,rfl⟩:=aoD.1 hr;exact agF,wa fun r hr=>by obtain⟨t,_,rfl⟩:=aoD.1 hr;exact aji⟩
theorem NV{l m:List Wd} : ax l++ax m=ax (l++m):=by simp only[mT,List.map_append]
theorem Yr{l:List Wd}{w:Wd}{o:Bool}(h:l.length<=10000000):aF false 2 40 (.slice (ax l) true) (.slice [[.str w.name,.slice (ax w.kids) false]] o)=some (.slice (ax (l++[w])) true):=by
 have e:([[.str w.name,.slice (ax w.kids) false]]:List (List AV))=ax [w]:=by simp[ax,iQ]
 rw[e,vy S6 S6 (by rw[dG,dG];simp;omega) (by rw[dG,dG];simp;omega),NV]
theorem CA:∀ (h:Nat) (w:Wd) (H:ai),wD h w->aE A 28 [.agg (hN w)] H=some (.agg (hN w),none):=by
 intro h w
 have key:∀ (w:Wd) (H:ai),w.kids.length<=3->(∀ k∈w.kids,aE A 28 [.agg (hN k)] H=some (.agg (hN k),none))->aE A 28 [.agg (hN w)] H=some (.agg (hN w),none):=by
  intro w H og hk
  refine bP (fn:=QM) rfl rfl rfl rfl ?_
  unfold QM
  rw[iQ]
  simp(disch:=omega)only[aY,aa,simprocAttr]
  refine cK w.kids.length 0 (fun i s=>∃ T,s=⟨T,H,H.length,3⟩/\T 1=.lbox 0 [.str w.name,.slice (ax w.kids) false]/\T 2=.lbox 1 [.str [],.af]/\T 4=.int .i64 i/\(i=0/\T 3=.lbox 2 [.str w.name,.af]\/0<i/\T 3=.lbox 2 [.str w.name,.slice (ax (w.kids.take i)) true]))
   (fun s=>∃ T,s=⟨T,H,H.length,3⟩/\T 2=.lbox 1 [.str [],.af]/\(w.kids=[]/\T 3=.lbox 2 [.str w.name,.af]\/0<w.kids.length/\T 3=.lbox 2 [.str w.name,.slice (ax (w.kids)) true])) (fun _=>False) ?_ ?_ (fun _ h=>h.elim) 0 _ (aoW _) ?_
  ·rintro i s hi ⟨T,rfl,e1,e2,e4,e3⟩
   by_cases bA:i<w.kids.length
   ·have hx:=an3 bA
    have hm:=aoX bA
    have kU:=iV hx
    generalize w.kids[i]=u at hx hm kU
    have gq:=Zq hx
    have xN:=hk u hm
    rw[iQ] at xN gq
    have htl:(w.kids.take i).length<=3:=by rw[ao2];omega
    rcases e3 with ⟨h0,e3⟩|⟨h0,e3⟩
    ·subst h0
     rw[aoQ,ao0] at kU
     have a1:aF false 2 40 (.slice (ax ([])) true) (.slice [[.str u.name,.slice (ax u.kids) false]] true)=some (.slice (ax (([])++[u])) true):=Yr (l:=[]) (by simp)
     rw[nL] at a1
     rw[ao0] at a1
     simp(disch:=omega)only[aY,aa,Nat.reduceEqDiff,Nat.reduceBEq,Nat.reduceAdd,Nat.reduceMul,reduceCtorEq,↓reduceIte,Nat.reduceLeDiff,Int.reduceEq,Int.reduceLT,Int.reduceLE,Int.reduceBEq,Int.reduceBNe,Int.reduceAdd,Int.reduceNeg,Int.reduceSub,Int.reduceMul,e1,e2,e3,e4,dG,gq,xN,a1,ay,an,anW,anX,ab]
     exact⟨bA,_,rfl,by simp(disch:=omega)only[aV,aa,simprocAttr,e1],by simp(disch:=omega)only[aV,aa,simprocAttr,e2],by simp(disch:=omega)only[aV,aa,simprocAttr],.inr ⟨by omega,by rw[kU];simp(disch:=omega)only[aV,aa,simprocAttr]⟩⟩
    ·have a1:aF false 2 40 (.slice (ax (w.kids.take i)) true) (.slice [[.str u.name,.slice (ax u.kids) false]] true)=some (.slice (ax ((w.kids.take i)++[u])) true):=Yr (by omega)
     rw[<- kU] at a1
     simp(disch:=omega)only[aY,aa,simprocAttr,e1,e2,e3,e4,dG,gq,xN,a1,ay,an,anW,anX,ab]
     exact⟨bA,_,rfl,by simp(disch:=omega)only[aV,aa,simprocAttr,e1],by simp(disch:=omega)only[aV,aa,simprocAttr,e2],by simp(disch:=omega)only[aV,aa,simprocAttr],.inr ⟨by omega,by simp(disch:=omega)only[aV,aa,simprocAttr]⟩⟩
   ·have hiN:i=w.kids.length:=by omega
    simp(disch:=omega)only[aY,aa,simprocAttr,e1,e2,e4,dG]
    refine⟨_,rfl,by simp(disch:=omega)only[aV,aa,simprocAttr,e2],?_⟩
    rcases e3 with ⟨h0,e3⟩|⟨h0,e3⟩
    ·exact .inl ⟨aoy.1 (by omega),by simp(disch:=omega)only[aV,aa,simprocAttr,e3]⟩
    ·rw[aoJ (by omega)] at e3
     exact .inr ⟨by omega,by simp(disch:=omega)only[aV,aa,simprocAttr,e3]⟩
  ·rintro s ⟨T,rfl,e2,e3⟩
   rcases e3 with ⟨h0,e3⟩|⟨h0,e3⟩
   ·simp(disch:=omega)only[aY,aa,simprocAttr,e2,e3,h0,nL,LR,cP,aoc,aof,dh,cL,cO,cH,di,dn,df,fB,iv,ik,ig]
   ·simp(disch:=omega)only[aY,aa,simprocAttr,e2,e3,cP,aoc,aof,dh,cL,cO,cH,di,dn,df,fB,iv,ik,ig]
  ·exact⟨_,rfl,by simp(disch:=omega)only[aV,aa,simprocAttr],by simp(disch:=omega)only[aV,aa,simprocAttr],by simp(disch:=omega)only[aV,aa,simprocAttr,aoG],.inl ⟨rfl,by simp(disch:=omega)only[aV,aa,simprocAttr]⟩⟩
 induction h generalizing w with
 | zero =>
  intro H hb
  obtain⟨n,ks⟩:=w
  obtain⟨h1,h2⟩:=hb
  simp only[Wd.kids] at h2
  subst h2
  exact key _ H (by simp[Wd.kids]) (by simp[Wd.kids])
 | succ h ih =>
  intro H hb
  obtain⟨n,ks⟩:=w
  obtain⟨h1,h2,h3⟩:=hb
  exact key _ H (by omega) (fun k hk=>ih k H (h3 k hk))
theorem TC:∀ (h:Nat) (t:Tm) (H:ai),LW h t->aE A 29 [.agg (cV t)] H=some (.agg (cV t),none):=by
 intro h
 induction h with
 | zero=>intro t H hb;cases hb
 | succ h ih =>
  intro t H hb
  have hF:=hb.out
  have hw:=CA 3 (.mk t.wn t.wk) H hF.w
  rw[hN] at hw
  have og:=hF.kl
  refine bP (fn:=QN) rfl rfl rfl rfl ?_
  unfold QN
  rw[al]
  simp(disch:=omega)only[aY,aa,simprocAttr,hw,cF]
  refine cK t.kids.length 0 (fun i s=>∃ T,s=⟨T,H,H.length,3⟩/\T 1=.lbox 0 [.int .i64 t.kind,.int .i64 t.n,.str t.name,.str t.field,.str t.wn,.slice (ax t.wk) false,.slice (ar t.kids) false,.slice (strs t.names) false]/\T 2=.lbox 1 [.int .i64 0,.int .i64 0,.str [],.str [],.str [],.af,.af,.af]/\T 4=.int .i64 i/\(i=0/\T 3=.lbox 2 [.int .i64 t.kind,.int .i64 t.n,.str t.name,.str t.field,.str t.wn,.slice (ax t.wk) false,.af,.slice (strs t.names) false]\/0<i/\T 3=.lbox 2 [.int .i64 t.kind,.int .i64 t.n,.str t.name,.str t.field,.str t.wn,.slice (ax t.wk) false,.slice (ar (t.kids.take i)) true,.slice (strs t.names) false]))
   (fun s=>∃ T,s=⟨T,H,H.length,3⟩/\T 2=.lbox 1 [.int .i64 0,.int .i64 0,.str [],.str [],.str [],.af,.af,.af]/\(t.kids=[]/\T 3=.lbox 2 [.int .i64 t.kind,.int .i64 t.n,.str t.name,.str t.field,.str t.wn,.slice (ax t.wk) false,.af,.slice (strs t.names) false]\/0<t.kids.length/\T 3=.lbox 2 [.int .i64 t.kind,.int .i64 t.n,.str t.name,.str t.field,.str t.wn,.slice (ax t.wk) false,.slice (ar (t.kids)) true,.slice (strs t.names) false])) (fun _=>False) ?_ ?_ (fun _ h=>h.elim) 0 _ (aoW _) ?_
  ·rintro i s hi ⟨T,rfl,e1,e2,e4,e3⟩
   by_cases bA:i<t.kids.length
   ·have hx:=an3 bA
    have hm:=aoX bA
    have kU:=iV hx
    generalize t.kids[i]=u at hx hm kU
    have gq:=sL hx
    have xN:=ih u H (hF.kb u hm)
    rw[al] at xN gq
    have htl:(t.kids.take i).length<=3:=by rw[ao2];omega
    rcases e3 with ⟨h0,e3⟩|⟨h0,e3⟩
    ·subst h0
     rw[aoQ,ao0] at kU
     have a1:aF false 8 136 (.slice (ar ([])) true) (.slice [[.int .i64 u.kind,.int .i64 u.n,.str u.name,.str u.field,.str u.wn,.slice (ax u.wk) false,.slice (ar u.kids) false,.slice (strs u.names) false]] true)=some (.slice (ar (([])++[u])) true):=Ow (l:=[]) (by simp)
     rw[LR] at a1
     rw[ao0] at a1
     simp(disch:=omega)only[aY,aa,Nat.reduceEqDiff,Nat.reduceBEq,Nat.reduceAdd,Nat.reduceMul,reduceCtorEq,↓reduceIte,Nat.reduceLeDiff,Int.reduceEq,Int.reduceLT,Int.reduceLE,Int.reduceBEq,Int.reduceBNe,Int.reduceAdd,Int.reduceNeg,Int.reduceSub,Int.reduceMul,e1,e2,e3,e4,bK,gq,xN,a1,ay,an,anW,anX,ab]
     exact⟨bA,_,rfl,by simp(disch:=omega)only[aV,aa,simprocAttr,e1],by simp(disch:=omega)only[aV,aa,simprocAttr,e2],by simp(disch:=omega)only[aV,aa,simprocAttr],.inr ⟨by omega,by rw[kU];simp(disch:=omega)only[aV,aa,simprocAttr]⟩⟩
    ·have a1:aF false 8 136 (.slice (ar (t.kids.take i)) true) (.slice [[.int .i64 u.kind,.int .i64 u.n,.str u.name,.str u.field,.str u.wn,.slice (ax u.wk) false,.slice (ar u.kids) false,.slice (strs u.names) false]] true)=some (.slice (ar ((t.kids.take i)++[u])) true):=Ow (by omega)
     rw[<- kU] at a1
     simp(disch:=omega)only[aY,aa,simprocAttr,e1,e2,e3,e4,bK,gq,xN,a1,ay,an,anW,anX,ab]
     exact⟨bA,_,rfl,by simp(disch:=omega)only[aV,aa,simprocAttr,e1],by simp(disch:=omega)only[aV,aa,simprocAttr,e2],by simp(disch:=omega)only[aV,aa,simprocAttr],.inr ⟨by omega,by simp(disch:=omega)only[aV,aa,simprocAttr]⟩⟩
   ·have hiN:i=t.kids.length:=by omega
    simp(disch:=omega)only[aY,aa,simprocAttr,e1,e2,e4,bK]
    refine⟨_,rfl,by simp(disch:=omega)only[aV,aa,simprocAttr,e2],?_⟩
    rcases e3 with ⟨h0,e3⟩|⟨h0,e3⟩
    ·exact .inl ⟨aoy.1 (by omega),by simp(disch:=omega)only[aV,aa,simprocAttr,e3]⟩
    ·rw[aoJ (by omega)] at e3
     exact .inr ⟨by omega,by simp(disch:=omega)only[aV,aa,simprocAttr,e3]⟩
  ·rintro s ⟨T,rfl,e2,e3⟩
   rcases e3 with ⟨h0,e3⟩|⟨h0,e3⟩
   ·simp(disch:=omega)only[aY,aa,simprocAttr,e2,e3,h0,nL,LR,cP,aoc,aof,dh,cL,cO,cH,di,dn,df,fB,iv,ik,ig]
   ·simp(disch:=omega)only[aY,aa,simprocAttr,e2,e3,cP,aoc,aof,dh,cL,cO,cH,di,dn,df,fB,iv,ik,ig]
  ·exact⟨_,rfl,by simp(disch:=omega)only[aV,aa,simprocAttr],by simp(disch:=omega)only[aV,aa,simprocAttr],by simp(disch:=omega)only[aV,aa,simprocAttr,aoG],.inl ⟨rfl,by simp(disch:=omega)only[aV,aa,simprocAttr]⟩⟩
theorem La{l:List Fd} : wC 4 (l.map fu):=⟨fun r hr=>by obtain⟨t,_,rfl⟩:=aoD.1 hr;rfl,wa fun r hr=>by obtain⟨t,_,rfl⟩:=aoD.1 hr;rfl⟩
theorem ye{l:List Fd}{u:Fd}{o:Bool}(h:l.length<=10000000):aF false 4 64 (.slice (l.map fu) true) (.slice [[.str u.name,.str u.wn,.slice (ax u.wk) false,.int .i64 u.gU]] o)=some (.slice ((l++[u]).map fu) true):=by
 have e:([[.str u.name,.str u.wn,.slice (ax u.wk) false,.int .i64 u.gU]]:List (List AV))=[u].map fu:=rfl
 rw[e,vy La La (by simp;omega) (by simp;omega),List.map_append]
theorem Y9{l:List Fd} : ((l.map fu).map fun r=>r.map n1)=l.map fu:=by
 rw[apH]
 exact aoA fun w _=>rfl
theorem Lg{l:List Fm} : wC 14 (l.map gb):=⟨fun r hr=>by obtain⟨t,_,rfl⟩:=aoD.1 hr;rfl,wa fun r hr=>by obtain⟨t,_,rfl⟩:=aoD.1 hr;rfl⟩
theorem Cg{l:List Fm}{f:Fm}{o:Bool}(h:l.length<=10000000):aF false 14 248 (.slice (l.map gb) true) (.slice [[.int .i64 f.kind,.str f.name,.slice (f.aW.map fu) false,.str f.rn,.slice (ax f.rk) false,
  .int .i64 f.body.kind,.int .i64 f.body.n,.str f.body.name,.str f.body.field,.str f.body.wn,.slice (ax f.body.wk) false,.slice (ar f.body.kids) false,.slice (strs f.body.names) false,.slice (strs f.layout) false]] o)=some (.slice ((l++[f]).map gb) true):=by
 have e:([[.int .i64 f.kind,.str f.name,.slice (f.aW.map fu) false,.str f.rn,.slice (ax f.rk) false,
  .int .i64 f.body.kind,.int .i64 f.body.n,.str f.body.name,.str f.body.field,.str f.body.wn,.slice (ax f.body.wk) false,.slice (ar f.body.kids) false,.slice (strs f.body.names) false,.slice (strs f.layout) false]]:List (List AV))=[f].map gb:=rfl
 rw[e,vy Lg Lg (by simp;omega) (by simp;omega),List.map_append]
theorem LB{l:List Fm} : ((l.map gb).map fun r=>r.map n1)=l.map gb:=by
 rw[apH]
 exact aoA fun w _=>rfl
theorem KV{f:Fm}(hb:Zu f)(H:ai):aE A 7 [.agg (gb f)] H=some (.agg (gb f),none):=by
 have hw:=CA 3 (.mk f.rn f.rk) H hb.w
 rw[hN] at hw
 have ht:=TC 5 f.body H hb.b
 rw[al] at ht
 have og:=hb.sl
 refine bP (fn:=ir7) rfl rfl rfl rfl ?_
 unfold ir7
 rw[gb]
 simp(disch:=omega)only[aY,aa,simprocAttr,hw,ht,cF]
 refine cK f.aW.length 0 (fun i s=>∃ T,s=⟨T,H,H.length,3⟩/\T 1=.lbox 0 [.int .i64 f.kind,.str f.name,.slice (f.aW.map fu) false,.str f.rn,.slice (ax f.rk) false,.int .i64 f.body.kind,.int .i64 f.body.n,.str f.body.name,.str f.body.field,.str f.body.wn,.slice (ax f.body.wk) false,.slice (ar f.body.kids) false,.slice (strs f.body.names) false,.slice (strs f.layout) false]/\T 2=.lbox 1 [.int .i64 0,.str [],.af,.str [],.af,.int .i64 0,.int .i64 0,.str [],.str [],.str [],.af,.af,.af,.af]/\T 4=.int .i64 i/\(i=0/\T 3=.lbox 2 [.int .i64 f.kind,.str f.name,.af,.str f.rn,.slice (ax f.rk) false,.int .i64 f.body.kind,.int .i64 f.body.n,.str f.body.name,.str f.body.field,.str f.body.wn,.slice (ax f.body.wk) false,.slice (ar f.body.kids) false,.slice (strs f.body.names) false,.slice (strs f.layout) false]\/0<i/\T 3=.lbox 2 [.int .i64 f.kind,.str f.name,.slice ((f.aW.take i).map fu) true,.str f.rn,.slice (ax f.rk) false,.int .i64 f.body.kind,.int .i64 f.body.n,.str f.body.name,.str f.body.field,.str f.body.wn,.slice (ax f.body.wk) false,.slice (ar f.body.kids) false,.slice (strs f.body.names) false,.slice (strs f.layout) false]))
  (fun s=>∃ T,s=⟨T,H,H.length,3⟩/\T 2=.lbox 1 [.int .i64 0,.str [],.af,.str [],.af,.int .i64 0,.int .i64 0,.str [],.str [],.str [],.af,.af,.af,.af]/\(f.aW=[]/\T 3=.lbox 2 [.int .i64 f.kind,.str f.name,.af,.str f.rn,.slice (ax f.rk) false,.int .i64 f.body.kind,.int .i64 f.body.n,.str f.body.name,.str f.body.field,.str f.body.wn,.slice (ax f.body.wk) false,.slice (ar f.body.kids) false,.slice (strs f.body.names) false,.slice (strs f.layout) false]\/0<f.aW.length/\T 3=.lbox 2 [.int .i64 f.kind,.str f.name,.slice ((f.aW).map fu) true,.str f.rn,.slice (ax f.rk) false,.int .i64 f.body.kind,.int .i64 f.body.n,.str f.body.name,.str f.body.field,.str f.body.wn,.slice (ax f.body.wk) false,.slice (ar f.body.kids) false,.slice (strs f.body.names) false,.slice (strs f.layout) false])) (fun _=>False) ?_ ?_ (fun _ h=>h.elim) 0 _ (aoW _) ?_
 ·rintro i s hi ⟨T,rfl,e1,e2,e4,e3⟩
  by_cases bA:i<f.aW.length
  ·have hx:=an3 bA
   have hm:=aoX bA
   have kU:=iV hx
   generalize f.aW[i]=u at hx hm kU
   have gq:=K' hx
   rw[fu] at gq
   have xN:=CA 3 (.mk u.wn u.wk) H (hb.sb u hm).w
   rw[hN] at xN
   have htl:(f.aW.take i).length<=3:=by rw[ao2];omega
   rcases e3 with ⟨h0,e3⟩|⟨h0,e3⟩
   ·subst h0
    rw[aoQ,ao0] at kU
    have a1:aF false 4 64 (.slice (([]).map fu) true) (.slice [[.str u.name,.str u.wn,.slice (ax u.wk) false,.int .i64 u.gU]] true)=some (.slice ((([])++[u]).map fu) true):=ye (l:=[]) (by simp)
    rw[aof] at a1
    rw[ao0] at a1
    simp(disch:=omega)only[aY,aa,Nat.reduceEqDiff,Nat.reduceBEq,Nat.reduceAdd,Nat.reduceMul,reduceCtorEq,↓reduceIte,Nat.reduceLeDiff,Int.reduceEq,Int.reduceLT,Int.reduceLE,Int.reduceBEq,Int.reduceBNe,Int.reduceAdd,Int.reduceNeg,Int.reduceSub,Int.reduceMul,e1,e2,e3,e4,iA,gq,xN,a1,ay,an,anW,anX,ab,cF]
    exact⟨bA,_,rfl,by simp(disch:=omega)only[aV,aa,simprocAttr,e1],by simp(disch:=omega)only[aV,aa,simprocAttr,e2],by simp(disch:=omega)only[aV,aa,simprocAttr],.inr ⟨by omega,by rw[kU];simp(disch:=omega)only[aV,aa,simprocAttr]⟩⟩
   ·have a1:aF false 4 64 (.slice ((f.aW.take i).map fu) true) (.slice [[.str u.name,.str u.wn,.slice (ax u.wk) false,.int .i64 u.gU]] true)=some (.slice (((f.aW.take i)++[u]).map fu) true):=ye (by omega)
    rw[<- kU] at a1
    simp(disch:=omega)only[aY,aa,simprocAttr,e1,e2,e3,e4,iA,gq,xN,a1,ay,an,anW,anX,ab,cF]
    exact⟨bA,_,rfl,by simp(disch:=omega)only[aV,aa,simprocAttr,e1],by simp(disch:=omega)only[aV,aa,simprocAttr,e2],by simp(disch:=omega)only[aV,aa,simprocAttr],.inr ⟨by omega,by simp(disch:=omega)only[aV,aa,simprocAttr]⟩⟩
  ·have hiN:i=f.aW.length:=by omega
   simp(disch:=omega)only[aY,aa,simprocAttr,e1,e2,e4,iA]
   refine⟨_,rfl,by simp(disch:=omega)only[aV,aa,simprocAttr,e2],?_⟩
   rcases e3 with ⟨h0,e3⟩|⟨h0,e3⟩
   ·exact .inl ⟨aoy.1 (by omega),by simp(disch:=omega)only[aV,aa,simprocAttr,e3]⟩
   ·rw[aoJ (by omega)] at e3
    exact .inr ⟨by omega,by simp(disch:=omega)only[aV,aa,simprocAttr,e3]⟩
 ·rintro s ⟨T,rfl,e2,e3⟩
  rcases e3 with ⟨h0,e3⟩|⟨h0,e3⟩
  ·simp(disch:=omega)only[aY,aa,simprocAttr,e2,e3,h0,nL,LR,cP,aoc,aof,dh,cL,cO,cH,di,dn,df,fB,iv,ik,ig,Y9]
  ·simp(disch:=omega)only[aY,aa,simprocAttr,e2,e3,cP,aoc,aof,dh,cL,cO,cH,di,dn,df,fB,iv,ik,ig,Y9]
 ·exact⟨_,rfl,by simp(disch:=omega)only[aV,aa,simprocAttr],by simp(disch:=omega)only[aV,aa,simprocAttr],by simp(disch:=omega)only[aV,aa,simprocAttr,aoG],.inl ⟨rfl,by simp(disch:=omega)only[aV,aa,simprocAttr]⟩⟩
theorem TB{s:So}(hb:SoB s)(H:ai):aE A 12 [.agg (s8 s)] H=some (.agg (s8 s),none):=by
 have og:=hb.dl
 refine bP (fn:=Qq) rfl rfl rfl rfl ?_
 unfold Qq
 rw[s8]
 simp(disch:=omega)only[mf,cZ,ca,cA,cu,gr,bj,aA,bf,aC.eval,AS.bW,↓reduceIte,Nat.reduceEqDiff,Option.isSome,Option.isNone,cond_true,anZ,Nat.reduceBEq,Nat.reduceAdd,Nat.reduceMul,aa,cj,eq_self,reduceCtorEq,gk,cQ,cm,bH,bound,dj,AS.bI,aQ,bF,bu,Nat.reduceLeDiff,cn,putAt,Int.reduceEq,Int.reduceLT,Int.reduceLE,Int.reduceBEq,Int.reduceBNe,Int.reduceAdd,Int.reduceNeg,Int.reduceSub,Int.reduceMul,dZ,dY,dX,dW,dV,dU,fc,fa,aN,bO,Int.toNat_natCast,aos,cF]
 refine cK s.defs.length 0 (fun i st=>∃ T,st=⟨T,H,H.length,3⟩/\T 1=.lbox 0 [.str s.name,.slice (strs s.dq) false,.slice (s.defs.map gb) false,.slice (strs s.head) false,.str s.fin]/\T 2=.lbox 1 [.str [],.af,.af,.af,.str []]/\T 4=.int .i64 i/\(i=0/\T 3=.lbox 2 [.str s.name,.slice (strs s.dq) false,.af,.slice (strs s.head) false,.str s.fin]\/0<i/\T 3=.lbox 2 [.str s.name,.slice (strs s.dq) false,.slice ((s.defs.take i).map gb) true,.slice (strs s.head) false,.str s.fin]))
  (fun st=>∃ T,st=⟨T,H,H.length,3⟩/\T 2=.lbox 1 [.str [],.af,.af,.af,.str []]/\(s.defs=[]/\T 3=.lbox 2 [.str s.name,.slice (strs s.dq) false,.af,.slice (strs s.head) false,.str s.fin]\/0<s.defs.length/\T 3=.lbox 2 [.str s.name,.slice (strs s.dq) false,.slice ((s.defs).map gb) true,.slice (strs s.head) false,.str s.fin])) (fun _=>False) ?_ ?_ (fun _ h=>h.elim) 0 _ (aoW _) ?_
 ·rintro i st hi ⟨T,rfl,e1,e2,e4,e3⟩
  by_cases bA:i<s.defs.length
  ·have hx:=an3 bA
   have hm:=aoX bA
   have kU:=iV hx
   generalize s.defs[i]=u at hx hm kU
   have gq:=YH hx
   have xN:=KV (hb.db u hm).b0 H
   rw[gb] at xN gq
   have htl:(s.defs.take i).length<=3:=by rw[ao2];omega
   rcases e3 with ⟨h0,e3⟩|⟨h0,e3⟩
   ·subst h0
    rw[aoQ,ao0] at kU
    have a1:aF false 14 248 (.slice (([]).map gb) true) (.slice [[.int .i64 u.kind,.str u.name,.slice (u.aW.map fu) false,.str u.rn,.slice (ax u.rk) false,.int .i64 u.body.kind,.int .i64 u.body.n,.str u.body.name,.str u.body.field,.str u.body.wn,.slice (ax u.body.wk) false,.slice (ar u.body.kids) false,.slice (strs u.body.names) false,.slice (strs u.layout) false]] true)=some (.slice ((([])++[u]).map gb) true):=Cg (l:=[]) (by simp)
    rw[aof] at a1
    rw[ao0] at a1
    simp(disch:=omega)only[mf,cZ,ca,cA,cu,gr,bj,aA,bf,aC.eval,AS.bW,↓reduceIte,Nat.reduceEqDiff,Option.isSome,Option.isNone,cond_true,anZ,Nat.reduceBEq,Nat.reduceAdd,Nat.reduceMul,aa,cj,eq_self,reduceCtorEq,gk,cQ,cm,bH,bound,dj,AS.bI,aQ,bF,bu,Nat.reduceLeDiff,cn,putAt,Int.reduceEq,Int.reduceLT,Int.reduceLE,Int.reduceBEq,Int.reduceBNe,Int.reduceAdd,Int.reduceNeg,Int.reduceSub,Int.reduceMul,dZ,dY,dX,dW,dV,dU,fc,fa,aN,bO,Int.toNat_natCast,aos,e1,e2,e3,e4,pN,gq,xN,a1,ay,an,anW,anX,ab]
    exact⟨bA,_,rfl,by simp(disch:=omega)only[mf,cZ,ca,cA,cu,gr,bj,aA,bf,aC.eval,AS.bW,↓reduceIte,Nat.reduceEqDiff,Option.isSome,Option.isNone,cond_true,anZ,Nat.reduceBEq,Nat.reduceAdd,Nat.reduceMul,aa,cj,eq_self,reduceCtorEq,gk,cQ,cm,bH,bound,dj,AS.bI,aQ,bF,bu,Nat.reduceLeDiff,cn,putAt,Int.reduceEq,Int.reduceLT,Int.reduceLE,Int.reduceBEq,Int.reduceBNe,Int.reduceAdd,Int.reduceNeg,Int.reduceSub,Int.reduceMul,dZ,dY,dX,dW,dV,dU,fc,fa,e1],by simp(disch:=omega)only[mf,cZ,ca,cA,cu,gr,bj,aA,bf,aC.eval,AS.bW,↓reduceIte,Nat.reduceEqDiff,Option.isSome,Option.isNone,cond_true,anZ,Nat.reduceBEq,Nat.reduceAdd,Nat.reduceMul,aa,cj,eq_self,reduceCtorEq,gk,cQ,cm,bH,bound,dj,AS.bI,aQ,bF,bu,Nat.reduceLeDiff,cn,putAt,Int.reduceEq,Int.reduceLT,Int.reduceLE,Int.reduceBEq,Int.reduceBNe,Int.reduceAdd,Int.reduceNeg,Int.reduceSub,Int.reduceMul,dZ,dY,dX,dW,dV,dU,fc,fa,e2],by simp(disch:=omega)only[mf,cZ,ca,cA,cu,gr,bj,aA,bf,aC.eval,AS.bW,↓reduceIte,Nat.reduceEqDiff,Option.isSome,Option.isNone,cond_true,anZ,Nat.reduceBEq,Nat.reduceAdd,Nat.reduceMul,aa,cj,eq_self,reduceCtorEq,gk,cQ,cm,bH,bound,dj,AS.bI,aQ,bF,bu,Nat.reduceLeDiff,cn,putAt,Int.reduceEq,Int.reduceLT,Int.reduceLE,Int.reduceBEq,Int.reduceBNe,Int.reduceAdd,Int.reduceNeg,Int.reduceSub,Int.reduceMul,dZ,dY,dX,dW,dV,dU,fc,fa],.inr ⟨by omega,by rw[kU];simp(disch:=omega)only[mf,cZ,ca,cA,cu,gr,bj,aA,bf,aC.eval,AS.bW,↓reduceIte,Nat.reduceEqDiff,Option.isSome,Option.isNone,cond_true,anZ,Nat.reduceBEq,Nat.reduceAdd,Nat.reduceMul,aa,cj,eq_self,reduceCtorEq,gk,cQ,cm,bH,bound,dj,AS.bI,aQ,bF,bu,Nat.reduceLeDiff,cn,putAt,Int.reduceEq,Int.reduceLT,Int.reduceLE,Int.reduceBEq,Int.reduceBNe,Int.reduceAdd,Int.reduceNeg,Int.reduceSub,Int.reduceMul,dZ,dY,dX,dW,dV,dU,fc,fa]⟩⟩
   ·have a1:aF false 14 248 (.slice ((s.defs.take i).map gb) true) (.slice [[.int .i64 u.kind,.str u.name,.slice (u.aW.map fu) false,.str u.rn,.slice (ax u.rk) false,.int .i64 u.body.kind,.int .i64 u.body.n,.str u.body.name,.str u.body.field,.str u.body.wn,.slice (ax u.body.wk) false,.slice (ar u.body.kids) false,.slice (strs u.body.names) false,.slice (strs u.layout) false]] true)=some (.slice (((s.defs.take i)++[u]).map gb) true):=Cg (by omega)
    rw[<- kU] at a1
    simp(disch:=omega)only[mf,cZ,ca,cA,cu,gr,bj,aA,bf,aC.eval,AS.bW,↓reduceIte,Nat.reduceEqDiff,Option.isSome,Option.isNone,cond_true,anZ,Nat.reduceBEq,Nat.reduceAdd,Nat.reduceMul,aa,cj,eq_self,reduceCtorEq,gk,cQ,cm,bH,bound,dj,AS.bI,aQ,bF,bu,Nat.reduceLeDiff,cn,putAt,Int.reduceEq,Int.reduceLT,Int.reduceLE,Int.reduceBEq,Int.reduceBNe,Int.reduceAdd,Int.reduceNeg,Int.reduceSub,Int.reduceMul,dZ,dY,dX,dW,dV,dU,fc,fa,aN,bO,Int.toNat_natCast,aos,e1,e2,e3,e4,pN,gq,xN,a1,ay,an,anW,anX,ab]
    exact⟨bA,_,rfl,by simp(disch:=omega)only[aV,aa,Nat.reduceEqDiff,Nat.reduceBEq,Nat.reduceAdd,Nat.reduceMul,reduceCtorEq,↓reduceIte,Nat.reduceLeDiff,Int.reduceEq,Int.reduceLT,Int.reduceLE,Int.reduceBEq,Int.reduceBNe,Int.reduceAdd,Int.reduceNeg,Int.reduceSub,Int.reduceMul,e1],by simp(disch:=omega)only[aV,aa,Nat.reduceEqDiff,Nat.reduceBEq,Nat.reduceAdd,Nat.reduceMul,reduceCtorEq,↓reduceIte,Nat.reduceLeDiff,Int.reduceEq,Int.reduceLT,Int.reduceLE,Int.reduceBEq,Int.reduceBNe,Int.reduceAdd,Int.reduceNeg,Int.reduceSub,Int.reduceMul,e2],by simp(disch:=omega)only[aV,aa,Nat.reduceEqDiff,Nat.reduceBEq,Nat.reduceAdd,Nat.reduceMul,reduceCtorEq,↓reduceIte,Nat.reduceLeDiff,Int.reduceEq,Int.reduceLT,Int.reduceLE,Int.reduceBEq,Int.reduceBNe,Int.reduceAdd,Int.reduceNeg,Int.reduceSub,Int.reduceMul],.inr ⟨by omega,by simp(disch:=omega)only[aV,aa,Nat.reduceEqDiff,Nat.reduceBEq,Nat.reduceAdd,Nat.reduceMul,reduceCtorEq,↓reduceIte,Nat.reduceLeDiff,Int.reduceEq,Int.reduceLT,Int.reduceLE,Int.reduceBEq,Int.reduceBNe,Int.reduceAdd,Int.reduceNeg,Int.reduceSub,Int.reduceMul]⟩⟩
  ·have hiN:i=s.defs.length:=by omega
   simp(disch:=omega)only[aY,aa,simprocAttr,e1,e2,e4,pN]
   refine⟨_,rfl,by simp(disch:=omega)only[aV,aa,simprocAttr,e2],?_⟩
   rcases e3 with ⟨h0,e3⟩|⟨h0,e3⟩
   ·exact .inl ⟨aoy.1 (by omega),by simp(disch:=omega)only[aV,aa,simprocAttr,e3]⟩
   ·rw[aoJ (by omega)] at e3
    exact .inr ⟨by omega,by simp(disch:=omega)only[aV,aa,simprocAttr,e3]⟩
 ·rintro st ⟨T,rfl,e2,e3⟩
  rcases e3 with ⟨h0,e3⟩|⟨h0,e3⟩
  ·simp(disch:=omega)only[aY,aa,simprocAttr,e2,e3,h0,nL,LR,cP,aoc,aof,dh,cL,cO,cH,di,dn,df,fB,iv,ik,ig,LB]
  ·simp(disch:=omega)only[aY,aa,simprocAttr,e2,e3,cP,aoc,aof,dh,cL,cO,cH,di,dn,df,fB,iv,ik,ig,LB]
 ·exact⟨_,rfl,by simp(disch:=omega)only[aV,aa,simprocAttr],by simp(disch:=omega)only[aV,aa,simprocAttr],by simp(disch:=omega)only[aV,aa,simprocAttr,aoG],.inl ⟨rfl,by simp(disch:=omega)only[aV,aa,simprocAttr]⟩⟩
theorem nW:∀ L:List cd,chunks 1 L.length (L.map AV.str)=strs L
 | []=>rfl
 | a :: r=>by
  have:=nW r
  simp only[strs,an0,aoc,chunks,apj,aoQ,apF,ape] at this ⊢
  rw[this]
theorem Jw{l:List cd}{B:Nat}(h:∀ s∈l,s.length<=B)(i:Nat):(l.getD i []).length<=B:=by
 by_cases hi:i<l.length
 ·rw[getD_at hi];exact h _ (aoX hi)
 ·simp[List.getD,apq (Nat.le_of_not_lt hi)]
theorem pt{l:List cd}{i:Nat}(h:i<l.length):(strs l)[i]?=some [.str (l.getD i [])]:=by rw[getD_at h];exact lp (an3 h)
structure x6 (m:Nat) (f:Fm):Prop where
 k:0<=f.kind/\f.kind<=5
 a:f.name.length<=1100000
 sl:f.aW.length<=3
 sb:∀ s∈f.aW,FdB s
 w:wD 3 (.mk f.rn f.rk)
 b:oH m 5 f.body
 ll:f.layout.length<=19000+m
 lb:∀ s∈f.layout,s.length<=1100000
structure Og (m:Nat) (s:So):Prop where
 a:s.name.length<=1100000
 ul:s.dq.length<=2+m
 ub:∀ u∈s.dq,u.length<=1100000
 dl:s.defs.length<=3
 db:∀ f∈s.defs,x6 m f
 hl:s.head.length<=19000
 hb:∀ u∈s.head,u.length<=1100000
 e:s.fin.length<=1100000
theorem x6.B{m:Nat}{f:Fm}(hm:m<=8)(h:x6 m f):KN f:=⟨h.k,h.a,by have:=h.sl;omega,h.sb,h.w,h.b.le hm _ _ _ (an4 _),by have:=h.ll;omega,h.lb⟩
theorem x6.up{m m' : Nat}{f:Fm}(hm:m<=m')(h:x6 m f):x6 m' f:=⟨h.k,h.a,h.sl,h.sb,h.w,h.b.up hm _ _ _ (an4 _),by have:=h.ll;omega,h.lb⟩
structure SA (c:Cc) (so:So) (b:Bool) (T:aU):Prop where
 t2:T 2=.lbox 0 [.str [],.slice [] true,.slice [] true,.slice [] true,.str []]
 t3:T 3=.ref c.mm 0
 t5:T 5=.bool b
 t4:∃ g,T 4=.lbox g [.str so.name,.slice (strs so.dq) true,.slice (so.defs.map gb) true,.slice (strs so.head) true,.str so.fin]
def Yp(c:Cc)(K:ai)(b:Bool)(P:So->Prop)(s:AS):Prop:=∃ T p g so,s=⟨T,da c p K,c.mm,g⟩/\SA c so b T/\Og 4 so/\P so
structure FA (c:Cc) (so:So) (b:Bool) (many i:Int) (f:Fm) (T:aU):Prop where
 sa:SA c so b T
 t7:T 7=.int .i64 many
 t8:T 8=.int .i64 i
 t9:∃ g o1 o2 o3,T 9=.lbox g [.int .i64 f.kind,.str f.name,.slice (f.aW.map fu) true,.str f.rn,.slice (ax f.rk) o1,.int .i64 f.body.kind,.int .i64 f.body.n,.str f.body.name,.str f.body.field,.str f.body.wn,.slice (ax f.body.wk) o2,.slice (ar f.body.kids) o2,.slice (strs f.body.names) o2,.slice (strs f.layout) o3]
def Yo(c:Cc)(K:ai)(so:So)(b:Bool)(many i:Int)(P:Fm->aU->Prop)(s:AS):Prop:=∃ T p g f,s=⟨T,da c p K,c.mm,g⟩/\FA c so b many i f T/\x6 4 f/\P f T
theorem Ds{c:Cc}{p0:Int}{K:ai}(h:CH c p0 K)(p n:Int)(hn:0<n):∃ x p',0<=x/\x<n/\aE A 16 [.ref c.mm 0,.int .i64 n] (da c p K)=some (.int .i64 x,some ⟨da c p' K,c.mm⟩):=by
 obtain⟨x,p',a,b,e⟩:=kR (h.set (p':=p)) n hn
 rw[bo] at e
 exact⟨x,p',a,b,e⟩
theorem LA{c:Cc}{p0:Int}{K:ai}(h:CH c p0 K)(p:Int):∃ s p',s.length<=1100000/\aE A 15 [.ref c.mm 0] (da c p K)=some (.str s,some ⟨da c p' K,c.mm⟩):=by
 obtain⟨s,p',a,e⟩:=mr (h.set (p':=p))
 rw[bo] at e
 exact⟨s,p',by have:=iG s a;omega,e⟩
theorem Y6{c:Cc}{p0:Int}{K:ai}(h:CH c p0 K)(p:Int):∃ w p',wD 3 w/\aE A 19 [.ref c.mm 0,.int .i64 2] (da c p K)=some (.agg [.str w.name,.slice (ax w.kids) false],some ⟨da c p' K,c.mm⟩):=by
 obtain⟨w,p',a,e⟩:=G1 2 p (da c p K) (by omega) h.set
 rw[bo,iQ] at e
 exact⟨w,p',S8 (by omega) a,e⟩
theorem B3{c:Cc} : ∀ d:Nat,d<=101->x7 c d
 | 0,_=>agu
 | d+1,h=>agw (by omega) (B3 d (by omega))
theorem Zm{c:Cc}{p0:Int}{K:ai}(h:CH c p0 K)(p:Int)(d:Nat)(hd:d<=4):∃ t p',oH 4 5 t/\aE A 20 [.ref c.mm 0,.int .i64 d] (da c p K)=some (.agg [.int .i64 t.kind,.int .i64 t.n,.str t.name,.str t.field,.str t.wn,.slice (ax t.wk) false,.slice (ar t.kids) false,.slice (strs t.names) false],some ⟨da c p' K,c.mm⟩):=by
 obtain⟨t,p',a,e⟩:=B3 d (by omega) p (da c p K) h.set
 rw[bo,al] at e
 exact⟨t,p',a.up (an4 _) _ _ _ (by omega),e⟩
theorem afv{c:Cc}{p0:Int}{K:ai}(h:CH c p0 K)(p:Int)(n:Nat)(hn:n<=12000):∃ (x:Int) (b:cd) (out:List cd) (p1 p2:Int),out.length<=19000/\(∀ s∈out,s.length<=1100000) /\
  aE A 16 [.ref c.mm 0,.int .i64 1000] (da c p K)=some (.int .i64 x,some ⟨da c p1 K,c.mm⟩) /\
  aE A 18 [.int .i64 x,.int .i64 0] (da c p1 K)=some (.str b,none)/\aE A 17 [.ref c.mm 0,.int .i64 n,.str b] (da c p1 K)=some (.slice (strs out) true,some ⟨da c p2 K,c.mm⟩):=by
 obtain⟨x,p1,x0,x1,e1⟩:=Ds h p 1000 (by omega)
 obtain⟨b,hb,e2⟩:=YI x 0 (da c p1 K) (BF x0 (by omega))
 obtain⟨out,p2,ol,ob,e3⟩:=RB (h.set (p':=p1)) n (by omega) b hb
 rw[bo] at e3
 exact⟨x,b,out,p1,p2,by omega,ob,e1,e2,e3⟩
theorem Xz{c:Cc}{p0:Int}{K:ai}(h:CH c p0 K){so:So}{b:Bool}{T:aU}{p:Int}{g:Nat}{Q:cq->AS->Prop}(hs:SA c so b T)(hG:Og 4 so)(hu:so.dq=[])(hd:so.defs=[]) :
  W A ((BJ.body.post 3).pre 0) ⟨T,da c p K,c.mm,g⟩ (andThen (Yp c K b (fun XA=>XA.defs=[])) Q):=by
 obtain⟨q2,q3,q5,g4,q4⟩:=hs
 unfold BJ
 simp only[bq.post,bq.pre]
 simp(disch:=omega)only[aY,aa,simprocAttr,q2,q3,q4,q5]
 refine cK 2 0 (fun i s=>∃ T p g so,s=⟨T,da c p K,c.mm,g⟩/\SA c so b T/\Og 4 so/\so.defs=[]/\T 6=.int .i64 i/\so.dq.length=i)
  (Yp c K b (fun XA=>XA.defs=[])) (fun _=>False) ?_ (fun s hs=>hs) (fun _ h=>h.elim) 0 _ (by omega) ?_
 ·rintro i s hi ⟨T,p,g,so,rfl,⟨q2,q3,q5,g4,q4⟩,hG,hd,q6,hl⟩
  obtain⟨x,p1,x0,x1,e1⟩:=Ds h p 3 (by omega)
  by_cases hc:(i:Int)<x
  ·obtain⟨u,p2,ul,e2⟩:=LA h p1
   have a1:aF false 1 16 (.slice (strs so.dq) true) (.slice [[.str u]] true)=some (.slice (strs (so.dq++[u])) true):=fV (by omega)
   simp(disch:=omega)only[aY,aa,simprocAttr,q2,q3,q4,q5,q6,e1,e2,a1,ay,an,anW,anX,ab,az,an6,an5,anZ,bg]
   refine⟨by omega,_,_,_,{ so with dq:=so.dq++[u] },rfl,⟨?_,?_,?_,g4,?_⟩,⟨hG.a,by simp;omega,fun v hv=>?_,hG.dl,hG.db,hG.hl,hG.hb,hG.e⟩,hd,?_,by simp[hl]⟩
   ·simp(disch:=omega)only[aV,aa,simprocAttr,q2]
   ·simp(disch:=omega)only[aV,aa,simprocAttr,q3]
   ·simp(disch:=omega)only[aV,aa,simprocAttr,q5]
   ·simp(disch:=omega)only[aV,aa,simprocAttr]
   ·rcases an9.1 hv with hv|hv
    ·exact hG.ub v hv
    ·rw[aom.1 hv];exact ul
   ·simp(disch:=omega)only[aV,aa,simprocAttr]
  ·simp(disch:=omega)only[aY,aa,simprocAttr,q2,q3,q4,q5,q6,e1,az,an6,an5,anZ,bg]
   refine⟨_,_,_,so,rfl,⟨?_,?_,?_,g4,?_⟩,hG,hd⟩
   ·simp(disch:=omega)only[aV,aa,simprocAttr,q2]
   ·simp(disch:=omega)only[aV,aa,simprocAttr,q3]
   ·simp(disch:=omega)only[aV,aa,simprocAttr,q5]
   ·simp(disch:=omega)only[aV,aa,simprocAttr,q4]
 ·refine⟨_,_,_,so,rfl,⟨?_,?_,?_,g4,?_⟩,hG,hd,?_,by rw[hu];rfl⟩
  ·simp(disch:=omega)only[aV,aa,simprocAttr,q2]
  ·simp(disch:=omega)only[aV,aa,simprocAttr,q3]
  ·simp(disch:=omega)only[aV,aa,simprocAttr,q5]
  ·simp(disch:=omega)only[aV,aa,simprocAttr,q4]
  ·simp(disch:=omega)only[aV,aa,simprocAttr,aoG]
theorem Xy{c:Cc}{p0:Int}{K:ai}(h:CH c p0 K){b:Bool}{s:AS}{Q:cq->AS->Prop}(hs:Yp c K b (fun XA=>XA.defs=[]) s) :
  W A ((BJ.body.post 4).pre 1) s (andThen (fun s=>∃ n:Nat,n<=3/\s.T 7=.int .i64 n/\Yp c K b (fun XA=>XA.defs=[]) s) Q):=by
 obtain⟨T,p,g,so,rfl,⟨q2,q3,q5,g4,q4⟩,hG,hd⟩:=hs
 unfold BJ
 simp only[bq.post,bq.pre]
 have hul:=hG.ul
 cases b with
 | true =>
  obtain⟨x,bs,out,p1,p2,ol,ob,e1,e2,e3⟩:=afv h p (2+2*so.dq.length) (by omega)
  have en:((2+2*so.dq.length:Nat):Int)=2+2*(so.dq.length:Int):=by omega
  rw[en] at e3
  obtain⟨n,p3,n0,n1,e4⟩:=Ds h p2 4 (by omega)
  simp(disch:=omega)only[aY,aa,simprocAttr,q2,q3,q4,q5,e1,e2,e3,e4,cg,ay,an,anW,anX,ab,az,an6,an5,anZ,bg]
  refine⟨n.toNat,by omega,?_,_,_,_,{ so with head:=out },rfl,⟨?_,?_,?_,g4,?_⟩,⟨hG.a,hG.ul,hG.ub,hG.dl,hG.db,ol,ob,hG.e⟩,hd⟩
  ·rw[apX n0]
  ·simp(disch:=omega)only[aV,aa,simprocAttr,q2]
  ·simp(disch:=omega)only[aV,aa,simprocAttr,q3]
  ·simp(disch:=omega)only[aV,aa,simprocAttr,q5]
  ·simp(disch:=omega)only[aV,aa,simprocAttr]
 | false =>
  obtain⟨n,p3,n0,n1,e4⟩:=Ds h p 4 (by omega)
  simp(disch:=omega)only[aY,aa,simprocAttr,q2,q3,q4,q5,e4,az,an6,an5,anZ,bg]
  refine⟨n.toNat,by omega,?_,_,_,_,so,rfl,⟨?_,?_,?_,g4,?_⟩,hG,hd⟩
  ·rw[apX n0]
  ·simp(disch:=omega)only[aV,aa,simprocAttr,q2]
  ·simp(disch:=omega)only[aV,aa,simprocAttr,q3]
  ·simp(disch:=omega)only[aV,aa,simprocAttr,q5]
  ·simp(disch:=omega)only[aV,aa,simprocAttr,q4]
abbrev su:bq:=BJ.body.sub [true,true,true,true,true,true,true,false,true,false,false,true,false,false]
abbrev j9:Tm:=.mk 0 0 [] [] [] [] [] []
theorem NC{f:Fm}(h:KN f):(vg f).length<=10000:=by
 unfold vg;split
 ·exact vP h
 ·simp
theorem adp:oH 4 5 j9:=ji (by omega) (by omega) (by decide)
theorem Pq{c:Cc}{p0:Int}{K:ai}(h:CH c p0 K){so:So}{b:Bool}{many i:Int}{T:aU}{p:Int}{g:Nat}{Q:cq->AS->Prop}(hs:SA c so b T)(h7:T 7=.int .i64 many)(h8:T 8=.int .i64 i) :
  W A (su.pre 1) ⟨T,da c p K,c.mm,g⟩ (andThen (Yo c K so b many i (fun f T=>f.aW=[]/\∃ n:Nat,n<=3/\T 10=.int .i64 n)) Q):=by
 obtain⟨q2,q3,q5,g4,q4⟩:=hs
 unfold su BJ
 simp only[bq.sub,bq.pre]
 obtain⟨k,p1,k0,k1,e1⟩:=Ds h p 6 (by omega)
 obtain⟨u,p2,ul,e2⟩:=LA h p1
 obtain⟨n,p3,n0,n1,e3⟩:=Ds h p2 4 (by omega)
 simp(disch:=omega)only[aY,aa,simprocAttr,q2,q3,q4,q5,e1,e2,e3,cF,az,an6,an5,anZ,bg]
 refine⟨_,_,_,⟨k,u,[],[],[],j9,[]⟩,rfl,⟨⟨?_,?_,?_,g4,?_⟩,?_,?_,g,true,true,true,?_⟩,⟨by simp only;omega,ul,by simp,by simp,j7,adp,by simp,by simp⟩,rfl,n.toNat,by omega,?_⟩
 ·simp(disch:=omega)only[aV,aa,simprocAttr,q2]
 ·simp(disch:=omega)only[aV,aa,simprocAttr,q3]
 ·simp(disch:=omega)only[aV,aa,simprocAttr,q5]
 ·simp(disch:=omega)only[aV,aa,simprocAttr,q4]
 ·simp(disch:=omega)only[aV,aa,simprocAttr,h7]
 ·simp(disch:=omega)only[aV,aa,simprocAttr,h8]
 ·simp(disch:=omega)only[aV,aa,simprocAttr,j9,Tm.kind,Tm.n,Tm.name,Tm.field,Tm.wn,Tm.wk,Tm.kids,Tm.names,ax,ar,jT,aof]
 ·simp(disch:=omega)only[aV,aa,simprocAttr,apX n0]
theorem Pp{c:Cc}{p0:Int}{K:ai}(h:CH c p0 K){so:So}{b:Bool}{many i:Int}{s:AS}{Q:cq->AS->Prop}(hs:Yo c K so b many i (fun f T=>f.aW=[]/\∃ n:Nat,n<=3/\T 10=.int .i64 n) s) :
  W A ((su.post 1).pre 0) s (andThen (Yo c K so b many i (fun _ _=>True)) Q):=by
 obtain⟨T,p,g,f,rfl,⟨⟨q2,q3,q5,g4,q4⟩,q7,q8,g9,o1,o2,o3,q9⟩,hF,tV,n,hn,D9⟩:=hs
 unfold su BJ
 simp only[bq.sub,bq.pre,bq.post]
 simp(disch:=omega)only[aY,aa,simprocAttr,q2,q3,q4,q5]
 refine cK n 4 (fun j s=>∃ T p g f,s=⟨T,da c p K,c.mm,g⟩/\FA c so b many i f T/\x6 4 f/\T 10=.int .i64 n/\T 11=.int .i64 j/\f.aW.length=j)
  (Yo c K so b many i (fun _ _=>True)) (fun _=>False) ?_ (fun s hs=>hs) (fun _ h=>h.elim) 0 _ (by omega) ?_
 ·rintro j s hj ⟨T,p,g,f,rfl,⟨⟨q2,q3,q5,g4,q4⟩,q7,q8,g9,o1,o2,o3,q9⟩,hF,D9,WD,hl⟩
  by_cases hc:j<n
  ·obtain⟨u,p1,ul,e1⟩:=LA h p
   obtain⟨w,p2,wb,e2⟩:=Y6 h p1
   obtain⟨m,p3,m0,m1,e3⟩:=Ds h p2 12 (by omega)
   have fin:∀ (T' : aU) (p' : Int) (g' : Nat) (x:Int),0<=x->x<12->SA c so b T'->T' 7=.int .i64 many->T' 8=.int .i64 i->T' 10=.int .i64 n->T' 11=.int .i64 ((j:Int)+1) ->
     T' 9=.lbox g9 [.int .i64 f.kind,.str f.name,.slice ((f.aW++[Fd.mk u w.name w.kids x]).map fu) true,.str f.rn,.slice (ax f.rk) o1,.int .i64 f.body.kind,.int .i64 f.body.n,.str f.body.name,.str f.body.field,.str f.body.wn,.slice (ax f.body.wk) o2,.slice (ar f.body.kids) o2,.slice (strs f.body.names) o2,.slice (strs f.layout) o3] ->
     j<n/\∃ T p g f,(⟨T',da c p' K,c.mm,g'⟩:AS)=⟨T,da c p K,c.mm,g⟩/\FA c so b many i f T/\x6 4 f/\T 10=.int .i64 n/\T 11=.int .i64 ((j:Int)+1)/\f.aW.length=j+1:=by
    intro T' p' g' x x0 x1 Tj r7 r8 r10 r11 r9
    refine⟨hc,_,_,_,{ f with aW:=f.aW++[Fd.mk u w.name w.kids x] },rfl,⟨Tj,r7,r8,g9,o1,o2,o3,r9⟩,⟨hF.k,hF.a,by simp;omega,fun v hv=>?_,hF.w,hF.b,hF.ll,hF.lb⟩,r10,r11,by simp[hl]⟩
    rcases an9.1 hv with hv|hv
    ·exact hF.sb v hv
    ·rw[aom.1 hv];exact⟨ul,by cases w;exact wb,by simp only;omega⟩
   by_cases h4:f.kind=4
   ·have a1:aF false 4 64 (.slice (f.aW.map fu) true) (.slice [[.str u,.str w.name,.slice (ax w.kids) false,.int .i64 m]] true)=some (.slice ((f.aW++[Fd.mk u w.name w.kids m]).map fu) true):=ye (l:=f.aW) (u:=Fd.mk u w.name w.kids m) (by omega)
    simp(disch:=omega)only[aY,aa,simprocAttr,q2,q3,q4,q5,q7,q8,q9,D9,WD,e1,e2,e3,a1,cF,ay,an,anW,anX,ab,az,an6,an5,anZ,bg]
    refine fin _ _ _ m m0 m1 ⟨?_,?_,?_,g4,?_⟩ ?_ ?_ ?_ ?_ ?_
    ·simp(disch:=omega)only[aV,aa,simprocAttr,q2]
    ·simp(disch:=omega)only[aV,aa,simprocAttr,q3]
    ·simp(disch:=omega)only[aV,aa,simprocAttr,q5]
    ·simp(disch:=omega)only[aV,aa,simprocAttr,q4]
    ·simp(disch:=omega)only[aV,aa,simprocAttr,q7]
    ·simp(disch:=omega)only[aV,aa,simprocAttr,q8]
    ·simp(disch:=omega)only[aV,aa,simprocAttr,D9]
    ·simp(disch:=omega)only[aV,aa,simprocAttr]
    ·simp(disch:=omega)only[aV,aa,simprocAttr]
   ·have a1:aF false 4 64 (.slice (f.aW.map fu) true) (.slice [[.str u,.str w.name,.slice (ax w.kids) false,.int .i64 0]] true)=some (.slice ((f.aW++[Fd.mk u w.name w.kids 0]).map fu) true):=ye (l:=f.aW) (u:=Fd.mk u w.name w.kids 0) (by omega)
    simp(disch:=omega)only[aY,aa,simprocAttr,q2,q3,q4,q5,q7,q8,q9,D9,WD,e1,e2,a1,cF,ay,an,anW,anX,ab,az,an6,an5,anZ,bg]
    refine fin _ _ _ 0 (by omega) (by omega) ⟨?_,?_,?_,g4,?_⟩ ?_ ?_ ?_ ?_ ?_
    ·simp(disch:=omega)only[aV,aa,simprocAttr,q2]
    ·simp(disch:=omega)only[aV,aa,simprocAttr,q3]
    ·simp(disch:=omega)only[aV,aa,simprocAttr,q5]
    ·simp(disch:=omega)only[aV,aa,simprocAttr,q4]
    ·simp(disch:=omega)only[aV,aa,simprocAttr,q7]
    ·simp(disch:=omega)only[aV,aa,simprocAttr,q8]
    ·simp(disch:=omega)only[aV,aa,simprocAttr,D9]
    ·simp(disch:=omega)only[aV,aa,simprocAttr]
    ·simp(disch:=omega)only[aV,aa,simprocAttr]
  ·simp(disch:=omega)only[aY,aa,simprocAttr,q2,q3,q4,q5,D9,WD,az,an6,an5,anZ,bg]
   refine⟨_,_,_,f,rfl,⟨⟨?_,?_,?_,g4,?_⟩,?_,?_,g9,o1,o2,o3,?_⟩,hF,trivial⟩
   ·simp(disch:=omega)only[aV,aa,simprocAttr,q2]
   ·simp(disch:=omega)only[aV,aa,simprocAttr,q3]
   ·simp(disch:=omega)only[aV,aa,simprocAttr,q5]
   ·simp(disch:=omega)only[aV,aa,simprocAttr,q4]
   ·simp(disch:=omega)only[aV,aa,simprocAttr,q7]
   ·simp(disch:=omega)only[aV,aa,simprocAttr,q8]
   ·simp(disch:=omega)only[aV,aa,simprocAttr,q9]
 ·refine⟨_,_,_,f,rfl,⟨⟨?_,?_,?_,g4,?_⟩,?_,?_,g9,o1,o2,o3,?_⟩,hF,?_,?_,by rw[tV];rfl⟩
  ·simp(disch:=omega)only[aV,aa,simprocAttr,q2]
  ·simp(disch:=omega)only[aV,aa,simprocAttr,q3]
  ·simp(disch:=omega)only[aV,aa,simprocAttr,q5]
  ·simp(disch:=omega)only[aV,aa,simprocAttr,q4]
  ·simp(disch:=omega)only[aV,aa,simprocAttr,q7]
  ·simp(disch:=omega)only[aV,aa,simprocAttr,q8]
  ·simp(disch:=omega)only[aV,aa,simprocAttr,q9]
  ·simp(disch:=omega)only[aV,aa,simprocAttr,D9]
  ·simp(disch:=omega)only[aV,aa,simprocAttr,aoG]
theorem T5{c:Cc}{p0:Int}{K:ai}(h:CH c p0 K){so:So}{b:Bool}{many i:Int}{s:AS}{Q:cq->AS->Prop}(hs:Yo c K so b many i (fun _ _=>True) s) :
  W A ((su.post 2).pre 0) s (andThen (Yo c K so b many i (fun _ _=>True)) Q):=by
 obtain⟨T,p,g,f,rfl,⟨⟨q2,q3,q5,g4,q4⟩,q7,q8,g9,o1,o2,o3,q9⟩,hF, -⟩:=hs
 unfold su BJ
 simp only[bq.sub,bq.pre,bq.post]
 have fin:∀ (T' : aU) (p' : Int) (g' : Nat) (f' : Fm) (o1 o2:Bool),T' 2=.lbox 0 [.str [],.slice [] true,.slice [] true,.slice [] true,.str []]->T' 3=.ref c.mm 0->T' 5=.bool b->T' 4=.lbox g4 [.str so.name,.slice (strs so.dq) true,.slice (so.defs.map gb) true,.slice (strs so.head) true,.str so.fin]->T' 7=.int .i64 many->T' 8=.int .i64 i ->
   T' 9=.lbox g9 [.int .i64 f'.kind,.str f'.name,.slice (f'.aW.map fu) true,.str f'.rn,.slice (ax f'.rk) o1,.int .i64 f'.body.kind,.int .i64 f'.body.n,.str f'.body.name,.str f'.body.field,.str f'.body.wn,.slice (ax f'.body.wk) o2,.slice (ar f'.body.kids) o2,.slice (strs f'.body.names) o2,.slice (strs f'.layout) o3]->x6 4 f'->Yo c K so b many i (fun _ _=>True) ⟨T',da c p' K,c.mm,g'⟩ :=
  fun T' p' g' f' o1 o2 r2 r3 r5 r4 r7 r8 r9 hf=>⟨_,_,_,f',rfl,⟨⟨r2,r3,r5,g4,r4⟩,r7,r8,g9,o1,o2,o3,r9⟩,hf,trivial⟩
 by_cases k0:f.kind=0
 ·simp(disch:=omega)only[aY,aa,simprocAttr,q2,q3,q4,q5,q9,ay,an,anW,anX,ab,az,an6,an5,anZ,bg]
  refine fin _ _ _ f o1 o2 ?_ ?_ ?_ ?_ ?_ ?_ ?_ hF
  all_goals simp(disch:=omega)only[aV,aa,simprocAttr,q2,q3,q4,q5,q7,q8,q9]
 by_cases k1:f.kind=1
 ·simp(disch:=omega)only[aY,aa,simprocAttr,q2,q3,q4,q5,q9,ay,an,anW,anX,ab,az,an6,an5,anZ,bg]
  refine fin _ _ _ f o1 o2 ?_ ?_ ?_ ?_ ?_ ?_ ?_ hF
  all_goals simp(disch:=omega)only[aV,aa,simprocAttr,q2,q3,q4,q5,q7,q8,q9]
 obtain⟨w,p1,wb,e1⟩:=Y6 h p
 obtain⟨t,p2,tb,e2⟩:=Zm h p1 4 (by omega)
 rw[show ((4:Nat):Int)=4 from rfl] at e2
 obtain⟨u,p3,ub,e3⟩:=Zm h p2 0 (by omega)
 rw[show ((0:Nat):Int)=0 from rfl] at e3
 have xw:x6 4 { f with rn:=w.name,rk:=w.kids,body:=t }:=⟨hF.k,hF.a,hF.sl,hF.sb,by cases w;exact wb,tb,hF.ll,hF.lb⟩
 have GD:x6 4 { f with rn:=w.name,rk:=w.kids,body:=u }:=⟨hF.k,hF.a,hF.sl,hF.sb,by cases w;exact wb,ub,hF.ll,hF.lb⟩
 have e4:=DM (xw.B (by omega)) (da c p2 K)
 rw[gb] at e4
 simp only at e4
 simp(disch:=omega)only[aY,aa,simprocAttr,q2,q3,q4,q5,q9,e1,e2,e4,cg,ay,an,anW,anX,ab,az,an6,an5,anZ,bg]
 refine kN ?_ ?_<;>intro hlen
 ·simp(disch:=omega)only[aY,aa,simprocAttr,q2,q3,q4,q5,q9,e3,ay,an,anW,anX,ab,az,an6,an5,anZ,bg]
  refine fin _ _ _ { f with rn:=w.name,rk:=w.kids,body:=u } false false ?_ ?_ ?_ ?_ ?_ ?_ ?_ GD
  all_goals simp(disch:=omega)only[aV,aa,simprocAttr,q2,q3,q4,q5,q7,q8,q9]
 ·simp(disch:=omega)only[aY,aa,simprocAttr,q2,q3,q4,q5,q9,ay,an,anW,anX,ab,az,an6,an5,anZ,bg]
  refine fin _ _ _ { f with rn:=w.name,rk:=w.kids,body:=t } false false ?_ ?_ ?_ ?_ ?_ ?_ ?_ xw
  all_goals simp(disch:=omega)only[aV,aa,simprocAttr,q2,q3,q4,q5,q7,q8,q9]
def Oe(c:Cc)(K:ai)(b:Bool)(many i:Int)(nd:Nat)(s:AS):Prop:=∃ T p g so,s=⟨T,da c p K,c.mm,g⟩/\SA c so b T/\Og 4 so/\T 7=.int .i64 many/\T 8=.int .i64 i/\so.defs.length=nd
theorem aaq{c:Cc}{p0:Int}{K:ai}(h:CH c p0 K){so:So}(hG:Og 4 so)(hd:so.defs.length<3){b:Bool}{many i:Int}{s:AS}{R:AS->Prop}{Q:cq->AS->Prop}(hs:Yo c K so b many i (fun _ _=>True) s)
  (hR:∀ s',Oe c K b many i (so.defs.length+1) s'->R s'):W A (su.post 3) s (andThen R Q):=by
 obtain⟨T,p,g,f,rfl,⟨⟨q2,q3,q5,g4,q4⟩,q7,q8,g9,o1,o2,o3,q9⟩,hF, -⟩:=hs
 unfold su BJ
 simp only[bq.sub,bq.pre,bq.post]
 have nP:∀ f',x6 4 f'->Og 4 { so with defs:=so.defs++[f'] }:=fun f' hf=>⟨hG.a,hG.ul,hG.ub,by simp;omega,fun v hv=>by
  rcases an9.1 hv with hv|hv
  ·exact hG.db v hv
  ·rw[aom.1 hv];exact hf,hG.hl,hG.hb,hG.e⟩
 have fin:∀ (T' : aU) (p' : Int) (g' : Nat) (f' : Fm),x6 4 f'->T' 2=.lbox 0 [.str [],.slice [] true,.slice [] true,.slice [] true,.str []]->T' 3=.ref c.mm 0->T' 5=.bool b->T' 4=.lbox g4 [.str so.name,.slice (strs so.dq) true,.slice ((so.defs++[f']).map gb) true,.slice (strs so.head) true,.str so.fin]->T' 7=.int .i64 many->T' 8=.int .i64 i->R ⟨T',da c p' K,c.mm,g'⟩ :=
  fun T' p' g' f' hf r2 r3 r5 r4 r7 r8=>hR _ ⟨_,_,_,{ so with defs:=so.defs++[f'] },rfl,⟨r2,r3,r5,g4,r4⟩,nP f' hf,r7,r8,by simp⟩
 cases b with
 | false =>
  have a1:=Cg (l:=so.defs) (f:=f) (o:=true) (by omega)
  simp(disch:=omega)only[mf,cZ,ca,cA,cu,gr,bj,aA,bf,aC.eval,AS.bW,↓reduceIte,Nat.reduceEqDiff,Option.isSome,Option.isNone,cond_true,anZ,Nat.reduceBEq,Nat.reduceAdd,Nat.reduceMul,aa,cj,eq_self,reduceCtorEq,gk,cQ,cm,bH,bound,dj,AS.bI,aQ,bF,bu,Nat.reduceLeDiff,cn,putAt,Int.reduceEq,Int.reduceLT,Int.reduceLE,Int.reduceBEq,Int.reduceBNe,Int.reduceAdd,Int.reduceNeg,Int.reduceSub,Int.reduceMul,dZ,dY,dX,dW,dV,dU,fc,fa,aN,bO,Int.toNat_natCast,aos,q2,q3,q4,q5,q9,a1,ay,an,anW,anX,ab,az,an6,an5,anZ,bg]
  refine fin _ _ _ f hF ?_ ?_ ?_ ?_ ?_ ?_
  all_goals simp(disch:=omega)only[mf,cZ,ca,cA,cu,gr,bj,aA,bf,aC.eval,AS.bW,↓reduceIte,Nat.reduceEqDiff,Option.isSome,Option.isNone,cond_true,anZ,Nat.reduceBEq,Nat.reduceAdd,Nat.reduceMul,aa,cj,eq_self,reduceCtorEq,gk,cQ,cm,bH,bound,dj,AS.bI,aQ,bF,bu,Nat.reduceLeDiff,cn,putAt,Int.reduceEq,Int.reduceLT,Int.reduceLE,Int.reduceBEq,Int.reduceBNe,Int.reduceAdd,Int.reduceNeg,Int.reduceSub,Int.reduceMul,dZ,dY,dX,dW,dV,dU,fc,fa,q2,q3,q4,q5,q7,q8,q9]
 | true =>
  have hB:=hF.B (by omega)
  have e4:=DM hB (da c p K)
  rw[gb] at e4
  obtain⟨x,bs,out,p1,p2,ol,ob,e1,e2,e3⟩:=afv h p (vg f).length (by have:=NC hB;omega)
  have a1:=Cg (l:=so.defs) (f:={ f with layout:=out }) (o:=true) (by omega)
  simp only at a1
  simp(disch:=omega)only[mf,cZ,ca,cA,cu,gr,bj,aA,bf,aC.eval,AS.bW,↓reduceIte,Nat.reduceEqDiff,Option.isSome,Option.isNone,cond_true,anZ,Nat.reduceBEq,Nat.reduceAdd,Nat.reduceMul,aa,cj,eq_self,reduceCtorEq,gk,cQ,cm,bH,bound,dj,AS.bI,aQ,bF,bu,Nat.reduceLeDiff,cn,putAt,Int.reduceEq,Int.reduceLT,Int.reduceLE,Int.reduceBEq,Int.reduceBNe,Int.reduceAdd,Int.reduceNeg,Int.reduceSub,Int.reduceMul,dZ,dY,dX,dW,dV,dU,fc,fa,aN,bO,Int.toNat_natCast,aos,q2,q3,q4,q5,q9,e1,e2,e3,e4,cg,a1,ay,an,anW,anX,ab,az,an6,an5,anZ,bg]
  refine fin _ _ _ { f with layout:=out } ⟨hF.k,hF.a,hF.sl,hF.sb,hF.w,hF.b,by simp only;omega,ob⟩ ?_ ?_ ?_ ?_ ?_ ?_
  all_goals simp(disch:=omega)only[mf,cZ,ca,cA,cu,gr,bj,aA,bf,aC.eval,AS.bW,↓reduceIte,Nat.reduceEqDiff,Option.isSome,Option.isNone,cond_true,anZ,Nat.reduceBEq,Nat.reduceAdd,Nat.reduceMul,aa,cj,eq_self,reduceCtorEq,gk,cQ,cm,bH,bound,dj,AS.bI,aQ,bF,bu,Nat.reduceLeDiff,cn,putAt,Int.reduceEq,Int.reduceLT,Int.reduceLE,Int.reduceBEq,Int.reduceBNe,Int.reduceAdd,Int.reduceNeg,Int.reduceSub,Int.reduceMul,dZ,dY,dX,dW,dV,dU,fc,fa,q2,q3,q4,q5,q7,q8,q9]
theorem lM:∀ (n:Nat) (c:bq),(c.post n).post 0=c.post (n+1)
 | 0,.seq a b=>by cases b<;>rfl
 | n+1,.seq a b=>lM n b
 | n,.skip|n,.region ..|n,.nf ..|n,.cond ..|n,.block ..|n,.loop ..|n,.exit ..|n,.ret=>by cases n<;>rfl
theorem aap{c:Cc}{p0:Int}{K:ai}(h:CH c p0 K){so:So}(hG:Og 4 so)(hd:so.defs.length<3){b:Bool}{many i:Int}{T:aU}{p:Int}{g:Nat}{R:AS->Prop}{Q:cq->AS->Prop}(hs:SA c so b T)(h7:T 7=.int .i64 many)(h8:T 8=.int .i64 i)
  (hR:∀ s',Oe c K b many i (so.defs.length+1) s'->R s'):W A su ⟨T,da c p K,c.mm,g⟩ (andThen R Q):=by
 refine iz 1 _ (Pq h hs h7 h8) fun s1 h1=>?_
 refine iz 0 _ (Pp h h1) fun s2 h2=>?_
 rw[lM]
 refine iz 0 _ (T5 h h2) fun s3 h3=>?_
 rw[lM]
 exact aaq h hG hd h3 hR
theorem Xx{c:Cc}{p0:Int}{K:ai}(h:CH c p0 K){b:Bool}{s:AS}{Q:cq->AS->Prop}(hs:∃ n:Nat,n<=3/\s.T 7=.int .i64 n/\Yp c K b (fun XA=>XA.defs=[]) s) :
  W A ((BJ.body.post 6).pre 0) s (andThen (Yp c K b (fun _=>True)) Q):=by
 obtain⟨n,hn,q7,T,p,g,so,rfl,⟨q2,q3,q5,g4,q4⟩,hG,hd⟩:=hs
 unfold BJ
 simp only[bq.post,bq.pre]
 simp only at q7
 simp(disch:=omega)only[aY,aa,simprocAttr]
 have Ru:∀ {T:aU} {T' : aU},SA c so b T->T' 2=T 2->T' 3=T 3->T' 4=T 4->T' 5=T 5->SA c so b T':=fun h a2 a3 a4 a5=>by
  obtain⟨q2,q3,q5,g4,q4⟩:=h
  exact⟨a2.trans q2,a3.trans q3,a5.trans q5,g4,a4.trans q4⟩
 refine cK n 2 (fun i s=>Oe c K b n i i s) (Yp c K b (fun _=>True)) (fun _=>False) ?_ (fun s hs=>hs) (fun _ h=>h.elim) 0 _ (by omega) ?_
 ·rintro i s hi ⟨T,p,g,so,rfl,Tj,hG,q7,q8,hl⟩
  have Ru:∀ {T T' : aU} {so:So},SA c so b T->T' 2=T 2->T' 3=T 3->T' 4=T 4->T' 5=T 5->SA c so b T':=fun h a2 a3 a4 a5=>by
   obtain⟨q2,q3,q5,g4,q4⟩:=h
   exact⟨a2.trans q2,a3.trans q3,a5.trans q5,g4,a4.trans q4⟩
  by_cases hc:i<n
  ·refine Oi (fun s'=>∃ T g,s'=⟨T,da c p K,c.mm,g⟩/\SA c so b T/\T 7=.int .i64 n/\T 8=.int .i64 i) ?_ ?_
   ·simp(disch:=omega)only[aY,aa,simprocAttr,q7,q8]
    refine⟨_,_,rfl,Ru Tj ?_ ?_ ?_ ?_,?_,?_⟩
    all_goals simp(disch:=omega)only[aV,aa,simprocAttr,q7,q8]
   ·rintro s' ⟨T,g,rfl,Tj,q7,q8⟩
    refine Oi (Oe c K b n i (i+1)) ?_ ?_
    ·rw[Cd]
     refine vw (c:=su) (aap h hG (by omega) Tj q7 q8 (R:=Oe c K b n i (i+1)) (Q:=fun _ _=>False) (fun s h=>by rw[hl] at h;exact h)) ?_
     intro e s hs
     cases e with
     | normal=>exact hs
     | _=>exact hs.elim
    ·rintro s' ⟨T,p,g,so,rfl,Tj,hG,q7,q8,hl⟩
     simp(disch:=omega)only[aY,aa,simprocAttr,q7,q8]
     refine⟨hc,_,_,_,so,rfl,Ru Tj ?_ ?_ ?_ ?_,hG,?_,?_,hl⟩
     all_goals simp(disch:=omega)only[aV,aa,simprocAttr,q7,q8]
  ·simp(disch:=omega)only[aY,aa,simprocAttr,q7,q8]
   refine⟨_,_,_,so,rfl,Ru Tj ?_ ?_ ?_ ?_,hG,trivial⟩
   all_goals simp(disch:=omega)only[aV,aa,simprocAttr]
 ·refine⟨_,_,_,so,rfl,Ru ⟨q2,q3,q5,g4,q4⟩ ?_ ?_ ?_ ?_,hG,?_,?_,by rw[hd];rfl⟩
  all_goals simp(disch:=omega)only[aV,aa,simprocAttr,q7,aoG]
theorem aht{x:Int}(h0:0<=x)(h1:x<4):∃ s:cd,s.length<=1100000/\([[.str []],[.str [32]],[.str [35,32,101,110,100]],[.str [10,10]]]:List (List AV))[x.toNat]?=some [.str s]:=by
 have:x.toNat=0\/x.toNat=1\/x.toNat=2\/x.toNat=3:=by omega
 rcases this with e|e|e|e<;>rw[e]<;>exact⟨_,by decide,rfl⟩
theorem Sy{c:Cc}{K:ai}(h:CH c 0 K)(hK:K.take c.mm=K.take c.mm){b:Bool}{s:AS}(hs:Yp c K b (fun _=>True) s) :
  W A (BJ.body.post 7) s (yA c.mm [.cell 2 true 5] fun x=>∃ so,Og 4 so/\(mE x.1,x.2)=(.agg (s8 so),none)):=by
 obtain⟨T,p,g,so,rfl,⟨q2,q3,q5,g4,q4⟩,hG, -⟩:=hs
 unfold BJ
 simp only[bq.post]
 have NVr:=@ig
 cases b with
 | true =>
  obtain⟨x,p1,x0,x1,e1⟩:=Ds h p 4 (by omega)
  obtain⟨e,el,ee⟩:=aht x0 x1
  simp(disch:=omega)only[aY,aa,simprocAttr,q2,q3,q4,q5,e1,ee,ay,an,anW,anX,ab,az,an6,an5,anZ,bg,cP,aoc,aof,dh,cL,cO,cH,di,dn,df,fB,ig,LB]
  exact⟨{ so with fin:=e },⟨hG.a,hG.ul,hG.ub,hG.dl,hG.db,hG.hl,hG.hb,el⟩,rfl⟩
 | false =>
  simp(disch:=omega)only[aY,aa,simprocAttr,q2,q3,q4,q5,ay,an,anW,anX,ab,az,an6,an5,anZ,bg,cP,aoc,aof,dh,cL,cO,cH,di,dn,df,fB,ig,LB]
  exact⟨so,hG,rfl⟩
theorem Sw(l:List Int)(hl:∀ n∈l,D1 n)(H:ai):∃ so,Og 4 so/\aE A 4 [.slice (ints l) false] H=some (.agg (s8 so),none):=by
 have key:∃ r,aE A 4 [.slice (ints l) false] H=some r/\∃ so,Og 4 so/\r=(.agg (s8 so),none):=by
  obtain⟨c,hc⟩:∃ c:Cc,c=⟨H.length,l⟩:=⟨_,rfl⟩
  obtain⟨K,hK⟩:∃ K,K=H++[.box 65 [.slice (ints l) false,.int .i64 0]]:=⟨_,rfl⟩
  have hcm:c.mm=H.length:=by rw[hc]
  have h:CH c 0 K:=⟨by rw[hcm,hK];rw[hc];exact gy,by rw[hc];exact hl,by rw[hcm,hK];simp⟩
  have hs0:da c 0 K=K:=by
   unfold da
   refine aql fun j=>?_
   rw[ao8]
   split
   ·rename_i e;subst e;rw[if_pos h.lt,h.h0]
   ·rfl
  obtain⟨u,p1,ul,e1⟩:=LA h 0
  rw[hs0] at e1
  obtain⟨x,p2,x0,x1,e2⟩:=Ds h p1 2 (by omega)
  refine mR (fn:=BJ) rfl rfl rfl rfl ?_
  rw[<- hcm]
  refine iz 3 (fun s=>∃ T p g b so,s=⟨T,da c p K,c.mm,g⟩/\SA c so b T/\Og 4 so/\so.dq=[]/\so.defs=[]) ?_ ?_
  ·unfold BJ
   simp only[bq.pre]
   have hK' : H++[cJ.box 65 [.slice (ints l) false,.int .i64 0]]=K:=hK.symm
   simp(disch:=omega)only[aY,aa,simprocAttr,<- hcm,hK',e1,e2,cF,az,an6,an5,anZ,bg]
   refine⟨_,_,_,x==1,⟨u,[],[],[],[]⟩,rfl,⟨?_,?_,?_,1,?_⟩,⟨ul,by simp,by simp,by simp,by simp,by simp,by simp,by simp⟩,rfl,rfl⟩
   all_goals simp(disch:=omega)only[aV,aa,simprocAttr,jT,aof]
  ·rintro s ⟨T,p,g,b,so,rfl,Tj,hG,hu,hd⟩
   refine iz 0 _ (Xz h Tj hG hu hd) fun s1 h1=>?_
   rw[lM]
   refine iz 1 _ (Xy h h1) fun s2 h2=>?_
   have e:(BJ.body.post 4).post 1=BJ.body.post 6:=rfl
   rw[e]
   refine iz 0 _ (Xx h h2) fun s3 h3=>?_
   rw[lM]
   exact Sy h rfl h3
 obtain⟨r,h1,so,h2,rfl⟩:=key
 exact⟨so,h2,h1⟩
end Go.Proofs.YtbdhkgiakaegdaaGreatDoor
