/-
  A part of the proof of ScopeNames: V21, V22, V23, V24, V25, V26, V27, V28, V29, V30, V31.
-/
import Derived.Test.YthbncinhhdogpaaGreatDoorP11
set_option linter.unusedSimpArgs false
set_option linter.unusedVariables false
set_option linter.defProp false
set_option maxHeartbeats 4000000
set_option maxRecDepth 100000
namespace Go.Proofs.YthbncinhhdogpaaGreatDoor
open Go Go.Abs Go.Proofs
theorem drop_drop{v:AV} : v.drop.drop=v.drop:=by cases v<;>rfl
theorem AU{agg:Bool}{sz j:Nat}{r:List AV} : ag false agg sz j r=ag false agg sz j (r.map AV.drop):=by
 unfold ag
 rw[ao',<- List.map_drop,<- List.map_take,aqQ,ao1]
 have:(AV.drop ∘ AV.drop)=AV.drop:=funext fun v=>drop_drop
 rw[this]
 cases agg with
 | true=>rfl
 | false =>
  simp only[aoZ,aqF]
  cases r[j]? with
  | none=>rfl
  | some v=>simp[drop_drop]
def ql(e:List (List AV)):List (List AV):=e.map fun r=>r.map AV.drop
theorem sU{e f:List (List AV)}{z:Nat}(h:ql e=f)(hf:∀ r∈f,r.length=z):∀ r∈e,r.length=z:=by
 intro r hr
 have:r.map AV.drop∈f:=by rw[<- h];exact List.mem_map_of_mem hr
 simpa using hf _ this
theorem Fb{e f:List (List AV)}{i:Nat}{q:List AV}(h:ql e=f)(hi:f[i]?=some q):∃ r,e[i]?=some r/\r.map AV.drop=q:=by
 subst h
 rw[ql,ao1] at hi
 cases he:e[i]? with
 | none=>rw[he] at hi;simp at hi
 | some r=>rw[he] at hi;exact⟨r,rfl,by simpa using hi⟩
theorem LA{e f:List (List AV)}(h:ql e=f):e.length=f.length:=by rw[<- h,ql,ao']
theorem MR{l:List Mod} : ∀ r∈cx l,r.length=6:=KI.wide
structure PH (c:Cx) (lm ld:Nat) (M D:List (List AV)) (ms:List Mod) (ds:List Def) (H:ah):Prop where
 pm:c.pm=.sref lm 0 ms.length 6
 pd:c.pd=.sref ld 0 ds.length 31
 hm:H[lm]?=some (.box aJ M.flatten)
 hd:H[ld]?=some (.box aJ D.flatten)
 rm:ql M=cx ms
 rd:ql D=cn ds
 n1:c.mm≠lm
 n2:c.mm≠ld
theorem PH.set{c:Cx}{lm ld:Nat}{M D:List (List AV)}{ms:List Mod}{ds:List Def}{H:ah}{m:Mk}(h:PH c lm ld M D ms ds H):PH c lm ld M D ms ds (cb c m H) :=
 ⟨h.pm,h.pd,by rw[qf h.n1];exact h.hm,by rw[qf h.n2];exact h.hd,h.rm,h.rd,h.n1,h.n2⟩
theorem PH.app{c:Cx}{lm ld:Nat}{M D:List (List AV)}{ms:List Mod}{ds:List Def}{H K:ah}(h:PH c lm ld M D ms ds H):PH c lm ld M D ms ds (H++K) :=
 ⟨h.pm,h.pd,by rw[ao7 (aoR.1 h.hm).1];exact h.hm,by rw[ao7 (aoR.1 h.hd).1];exact h.hd,h.rm,h.rd,h.n1,h.n2⟩
theorem PH.mod{c:Cx}{lm ld:Nat}{M D:List (List AV)}{ms:List Mod}{ds:List Def}{H:ah}(h:PH c lm ld M D ms ds H){i j sz:Nat}{e:Mod}{agg:Bool}(hi:ms[i]?=some e)(hj:j+sz<=6)(hjz:j<6) :
  ag false agg sz (i*6+j) M.flatten=ag false agg sz j (dK e):=by
 obtain⟨r,h1,h2⟩:=Fb h.rm (CG hi)
 rw[gp (sU h.rm MR) h1 (by omega) hj hjz,AU,h2]
theorem PH.def{c:Cx}{lm ld:Nat}{M D:List (List AV)}{ms:List Mod}{ds:List Def}{H:ah}(h:PH c lm ld M D ms ds H){i j sz:Nat}{e:Def}{agg:Bool}(hi:ds[i]?=some e)(hj:j+sz<=31)(hjz:j<31) :
  ag false agg sz (i*31+j) D.flatten=ag false agg sz j (bg e):=by
 obtain⟨r,h1,h2⟩:=Fb h.rd (tV hi)
 rw[gp (sU h.rd Lz) h1 (by omega) hj hjz,AU,h2]
theorem Ox{d:Def} : ag false true 3 0 (bg d)=some (.agg (av d.id)):=by
 have:((bg d).drop 0).take 3=av d.id:=aeR
 simp only[ag,cJ,this,cond_true];rfl
theorem Oy{d:Def} : ag false true 3 4 (bg d)=some (.agg (av d.mod)):=by
 have:((bg d).drop 4).take 3=av d.mod:=Aj
 simp only[ag,cJ,this,cond_true];rfl
theorem Oz{d:Def} : ag false true 31 0 (bg d)=some (.agg (bg d)):=by
 simp only[ag,cJ,apN,cS,cQ,cond_true];rfl
theorem ab8{d:Mod} : ag false true 3 0 (dK d)=some (.agg (av d.id)):=by
 have:((dK d).drop 0).take 3=av d.id:=agl
 simp only[ag,iJ,this,cond_true];rfl
def Zo(t:List AV):Prop:=t.length=5/\t.all dh=true/\t.map n2=t
theorem R5{c:Cx}{ld n:Nat}{D:List (List AV)}{m:Mk}{H:ah}(h:MH c m H)(AJ:c.pd=.sref ld 0 n 31)(vX:c.mm≠ld)(hhd:H[ld]?=some (.box aJ D.flatten))(hd:2<=n)(i0 i1:Id)(l0:ag false true 3 (0*31) D.flatten=some (.agg (av i0)))(l1:ag false true 3 (1*31) D.flatten=some (.agg (av i1))) :
  ∃ (t:List AV) (m' : Mk),Zo t/\m'.next=m.next/\m'.own=m.own/\aE A 18 [.ref c.mm 0] H=some (.agg t,some ⟨cb c m' H,c.mm⟩):=by
 obtain⟨x,p,qY,hx6,fB⟩:=KK h 6 (by omega)
 have bB:Nat.beq c.mm H.length=false:=tq (by have:=h.lt;omega)
 have cy:=h.open (m':={ m with pos:=p })
 have h0:=ry (c:=c) (m:={ m with pos:=p }) h.lt
 have hdd:(cb c { m with pos:=p } H)[ld]?=some (.box aJ D.flatten):=by rw[qf vX];exact hhd
 rw[fu,AJ] at h0
 have aU:=h.lt
 rw[aqI] at l0
 rw[aqE] at l1
 have zf:=fun H=>agq i0 H
 have pP:=fun H=>agq i1 H
 have hli:=fun H=>Jf 3 i1 [] H rfl
 have Pv:=fun H=>Jf 0 ⟨0,0,0⟩ [] H rfl
 have h6:x=0\/x=1\/x=2\/x=3\/x=4\/x=5:=by omega
 simp only[wz] at zf pP hli Pv
 rw[av] at l0 l1
 simp only[av] at zf pP
 rcases h6 with rfl|rfl|rfl|rfl|rfl|rfl
 ·refine⟨wz 1 ⟨0,0,0⟩ [],{ m with pos:=p },⟨rfl,rfl,rfl⟩,rfl,rfl,bX (fn:=tf) rfl rfl rfl rfl ?_⟩
  unfold tf
  simp(disch:=omega)only[aL,aa,simprocAttr,fB,au,ar,cy,bB,wz,bT,cq,cE]
 ·refine⟨wz 2 ⟨0,0,0⟩ [wz 0 ⟨0,0,0⟩ []],{ m with pos:=p },⟨rfl,rfl,rfl⟩,rfl,rfl,bX (fn:=tf) rfl rfl rfl rfl ?_⟩
  unfold tf
  simp(disch:=omega)only[aL,aa,simprocAttr,fB,au,ar,cy,bB,wz,bT,cq,cE,Pv,fJ,Sj,Za]
 ·refine⟨wz 3 i0 [],{ m with pos:=p },⟨rfl,rfl,rfl⟩,rfl,rfl,bX (fn:=tf) rfl rfl rfl rfl ?_⟩
  unfold tf
  simp(disch:=omega)only[aL,aa,simprocAttr,fB,au,ar,cy,bB,wz,bT,cq,cE,h0,aY,hdd,l0,zf,fJ]
 ·refine⟨wz 2 ⟨0,0,0⟩ [wz 3 i1 []],{ m with pos:=p },⟨rfl,rfl,rfl⟩,rfl,rfl,bX (fn:=tf) rfl rfl rfl rfl ?_⟩
  unfold tf
  simp(disch:=omega)only[aL,aa,simprocAttr,fB,au,ar,cy,bB,wz,bT,cq,cE,h0,aY,hdd,l1,pP,hli,fJ,Sj,Za]
 ·refine⟨wz 0 ⟨0,0,0⟩ [],{ m with pos:=p },⟨rfl,rfl,rfl⟩,rfl,rfl,bX (fn:=tf) rfl rfl rfl rfl ?_⟩
  unfold tf
  simp(disch:=omega)only[aL,aa,simprocAttr,fB,au,ar,cy,bB,wz,bT,cq,cE]
 ·refine⟨wz 0 ⟨0,0,0⟩ [],{ m with pos:=p },⟨rfl,rfl,rfl⟩,rfl,rfl,bX (fn:=tf) rfl rfl rfl rfl ?_⟩
  unfold tf
  simp(disch:=omega)only[aL,aa,simprocAttr,fB,au,ar,cy,bB,wz,bT,cq,cE]
theorem R4{c:Cx}{lm ld:Nat}{M D:List (List AV)}{ms:List Mod}{ds:List Def}{m:Mk}{H:ah}(h:MH c m H)(hp:PH c lm ld M D ms ds H)(hd:2<=ds.length) :
  ∃ (t:List AV) (m' : Mk),Zo t/\m'.next=m.next/\m'.own=m.own/\aE A 18 [.ref c.mm 0] H=some (.agg t,some ⟨cb c m' H,c.mm⟩):=by
 obtain⟨d0,NH⟩:∃ d,ds[0]?=some d:=⟨_,aoT (by omega)⟩
 obtain⟨d1,hd1⟩:∃ d,ds[1]?=some d:=⟨_,aoT (by omega)⟩
 exact R5 h hp.pd hp.n2 hp.hd hd d0.id d1.id ((hp.def (j:=0) NH (by omega) (by omega)).trans Ox) ((hp.def (j:=0) hd1 (by omega) (by omega)).trans Ox)
theorem Of(k:Int)(H:ah):aE A 20 [.int .i64 k] H=some (.bool (k==2 || k==3 || k==4 || k==5),none):=by
 refine cc (fn:=Rz) rfl rfl rfl ?_
 unfold Rz
 cases h2:(k==2)<;>cases h3:(k==3)<;>cases h4:(k==4)<;>cases h5:(k==5)
 all_goals simp(disch:=omega)only[aL,aa,simprocAttr,h2,h3,h4,h5]
theorem PQ(k:Int)(H:ah):∃ i:Int,0<=i/\i<4/\aE A 59 [.int .i64 k] H=some (.int .i64 i,none):=by
 by_cases h3:k=3
 ·refine⟨0,by omega,by omega,cc (fn:=yh) rfl rfl rfl ?_⟩
  unfold yh
  simp(disch:=omega)only[aL,aa,simprocAttr,h3]
 by_cases h7:k=7
 ·refine⟨1,by omega,by omega,cc (fn:=yh) rfl rfl rfl ?_⟩
  unfold yh
  simp(disch:=omega)only[aL,aa,simprocAttr,h7]
 by_cases h8:k=8
 ·refine⟨2,by omega,by omega,cc (fn:=yh) rfl rfl rfl ?_⟩
  unfold yh
  simp(disch:=omega)only[aL,aa,simprocAttr,h8]
 ·refine⟨3,by omega,by omega,cc (fn:=yh) rfl rfl rfl ?_⟩
  unfold yh
  simp(disch:=omega)only[aL,aa,simprocAttr,h3,h7,h8]
structure Vr where
 name:ga
 id:Id
 n:Int
def J7(v:Vr):List AV:=[.str v.name,.int .i64 v.id.bN,.int .i64 v.id.seq,.int .i64 v.id.index,.int .i64 v.n]
def dz(l:List Vr):List (List AV):=l.map J7
theorem gS{l:List Vr} : (dz l).length=l.length:=by simp[dz]
theorem adC{l:List Vr}{i:Nat}{e:Vr}(h:l[i]?=some e):(dz l)[i]?=some (J7 e):=by simp[dz,h]
theorem Ti{l:List Vr} : dO 5 (dz l):=fun r hr=>by simp only[dz,apu] at hr;obtain⟨e,_,rfl⟩:=hr;exact⟨rfl,rfl⟩
theorem yO(l:List Vr)(v:Vr)(H:ah)(hl:l.length<=1000):aE A 21 [.slice (dz l) false,.str v.name,.agg (av v.id),.int .i64 v.n] H=some (.slice (dz (l++[v])) true,none):=by
 refine bX (fn:=RA) rfl rfl rfl rfl ?_
 unfold RA
 have h1:bw false 5 48 (.slice [] true) (.slice (dz l) false)=some (.slice (dz l) true):=na (e:=[]) dO.nil Ti (by omega) (by rw[gS];simp;omega)
 have h2:bw false 5 48 (.slice (dz l) true) (.slice [[.str v.name,.int .i64 v.id.bN,.int .i64 v.id.seq,.int .i64 v.id.index,.int .i64 v.n]] true)=some (.slice (dz (l++[v])) true):=by
  rw[na Ti (dO.one rfl rfl) (by omega) (by rw[gS];simp;omega)];simp[dz,J7]
 rw[av]
 simp(disch:=omega)only[aL,aa,simprocAttr,h1,h2,ace]
theorem ado{c:Cx}{lm ld:Nat}{M D:List (List AV)}{ms:List Mod}{ds:List Def}{m:Mk}{H:ah}(h:MH c m H)(hp:PH c lm ld M D ms ds H)(own:Nat)(ho:m.own=own)(hd:own<ds.length)(wE:ds.length<=1000)(hm:0<ms.length)(k1 k2:Int) :
  ∃ (r:AV) (m' : Mk),(r=.tuple [.agg zD,.bool false]\/∃ d∈ds.take own,r=.tuple [.agg (bg d),.bool true])/\m'.own=m.own/\aE A 58 [.ref c.mm 0,.int .i64 k1,.int .i64 k2] H=some (r,some ⟨cb c m' H,c.mm⟩):=by
 obtain⟨x,p,qY,hx8,fB⟩:=KK h 8 (by omega)
 have key:∃ r,aE A 58 [.ref c.mm 0,.int .i64 k1,.int .i64 k2] H=some r/\((r.1=.tuple [.agg zD,.bool false]\/∃ d∈ds.take own,r.1=.tuple [.agg (bg d),.bool true])/\r.2=some ⟨cb c { m with pos:=p } H,c.mm⟩):=by
  refine tI (fn:=RS) rfl rfl rfl ?_
  unfold RS
  have bB:Nat.beq c.mm H.length=false:=tq (by have:=h.lt;omega)
  have cy:=h.open (m':={ m with pos:=p })
  have h0:=ry (c:=c) (m:={ m with pos:=p }) h.lt
  have hdd:(cb c { m with pos:=p } H)[ld]?=some (.box aJ D.flatten):=by rw[qf hp.n2];exact hp.hd
  have hmm:(cb c { m with pos:=p } H)[lm]?=some (.box aJ M.flatten):=by rw[qf hp.n1];exact hp.hm
  have hlen:=au (c:=c) (m:={ m with pos:=p }) (H:=H)
  have Cs:=ar (c:=c) (m:={ m with pos:=p }) (H:=H)
  rw[fu,hp.pd,hp.pm] at h0
  have aU:=h.lt
  obtain⟨m0,Tv⟩:∃ d,ms[0]?=some d:=⟨_,aoT (by omega)⟩
  obtain⟨do_,hdo⟩:∃ d,ds[own]?=some d:=⟨_,aoT (by omega)⟩
  have l0:ag false true 3 0 M.flatten=some (.agg (av m0.id)):=(hp.mod (j:=0) Tv (by omega) (by omega)).trans ab8
  have l1:ag false true 3 (own*31+4) D.flatten=some (.agg (av do_.mod)):=(hp.def (j:=4) hdo (by omega) (by omega)).trans Oy
  have Kp:decide (0<ms.length)=true:=by simpa using hm
  have PC:decide (own<ds.length)=true:=by simpa using hd
  generalize cb c { m with pos:=p } H=H1 at *
  rw[av] at l0 l1
  simp only[ho] at h0
  simp(disch:=omega)only[aL,aa,simprocAttr,fB]
  refine bQ own 0 (fun i=>w6 (fun T=>T 0=.ref c.mm 0/\T 1=.int .i64 k1/\T 2=.int .i64 k2/\T 6=.lbox 0 zD/\T 8=.int .i64 x/\T 9=.int .i64 i) H1 c.mm)
   (w6 (fun T=>T 6=.lbox 0 zD) H1 c.mm) (w6 (fun T=>∃ d∈ds.take own,T 6=.lbox 0 (bg d)/\T 7=.bool true) H1 c.mm) ?_ ?_ ?_ 0 _ (by omega) ?_
  ·rintro i s hi hs
   obtain⟨T,g,rfl,e0,e1,e2,e6,e8,e9⟩:=hs.out
   by_cases jT:i<own
   ·have hx:∃ y:Nat,((i:Int)+x).tmod (own:Int)=y/\y<own:=by
     have h1:0<=((i:Int)+x).tmod (own:Int):=Int.tmod_nonneg _ (by omega)
     have h2:((i:Int)+x).tmod (own:Int)<own:=Int.tmod_lt_of_pos _ (by omega)
     exact⟨(((i:Int)+x).tmod (own:Int)).toNat,by omega,by omega⟩
    obtain⟨y,hy,hyo⟩:=hx
    have hy2:((i:Int)+x) % (own:Int)=y:=by rw[<- K2 (by omega)];exact hy
    have hdy:=aoT (l:=ds) (i:=y) (by omega)
    have Py:ds[y]∈ds.take own:=by
     rw[apn]
     exact⟨y,by rw[List.getElem?_take_of_lt hyo];exact hdy⟩
    generalize ds[y]=d at *
    have l2:ag false true 31 (y*31) D.flatten=some (.agg (bg d)):=(hp.def (j:=0) hdy (by omega) (by omega)).trans Oz
    have h3:=aeS (d:=d)
    have h4:=Aj (d:=d)
    rw[av] at h4
    have hyl:decide (y<ds.length)=true:=by simp;omega
    have Mq:¬ ((own:Int)=0):=by omega
    have e6':=e6
    rw[zD] at e6'
    cases c1:(d.kind==k1)<;>cases c2:(d.kind==k2)<;>cases c3:(d.mod==m0.id)<;>cases c4:(d.mod==do_.mod)
    all_goals
     simp(disch:=omega)only[aL,aa,simprocAttr,e0,e1,e2,e6',e8,e9,h0,aY,hdd,hmm,hy,hy2,l0,l1,l2,h3,h4,cJ,cQ,cS,cv,dH,hyl,Kp,PC,fT,ib,c1,c2,c3,c4,Mq]
     first|exact⟨jT,rfl⟩|exact⟨d,Py,rfl⟩|exact jT
   ·have:i=own:=by omega
    subst this
    simp(disch:=omega)only[aL,aa,simprocAttr,e0,e1,e2,e6,e8,e9,h0,aY]
  ·rintro s hs
   obtain⟨T,g,rfl,e6⟩:=hs.out
   rw[zD] at e6
   simp(disch:=omega)only[aL,aa,simprocAttr,e6,hlen,Cs,cy,bB]
   exact .inl rfl
  ·rintro s hs
   obtain⟨T,g,rfl,d,hd,e6,e7⟩:=hs.out
   simp(disch:=omega)only[aL,aa,simprocAttr,e6,e7,hlen,Cs,cy,bB,cJ,cQ,cS,cv,dH]
   exact .inr ⟨d,hd,rfl⟩
  ·simp(disch:=omega)only[aL,aa,simprocAttr,zD,apb]
 obtain⟨⟨r1,r2⟩,h1,h2,h3⟩:=key
 simp only at h2 h3
 subst h3
 exact⟨r1,{ m with pos:=p },h2,rfl,h1⟩
section
structure GH (c:Cx) (lm ld:Nat) (M D:List (List AV)) (ms:List Mod) (ds:List Def) (own:Nat) (H:ah):Prop where
 mh:∀ m,MH c m (cb c m H)
 lt:c.mm<H.length
 ph:PH c lm ld M D ms ds H
 ol:own<ds.length
 dl:ds.length<=1000
 ml:0<ms.length
 sl:∀ d∈ds.take own,1<=d.aZ.length/\d.aZ.length<=10
section
variable {c:Cx}{lm ld:Nat}{M D:List (List AV)}{ms:List Mod}{ds:List Def}{own:Nat}{H:ah}
theorem GH.of(m0:Mk)(h:MH c m0 H)(hp:PH c lm ld M D ms ds H)(h1:own<ds.length)(h2:ds.length<=1000)(h3:0<ms.length)(h4:∀ d∈ds.take own,1<=d.aZ.length/\d.aZ.length<=10):GH c lm ld M D ms ds own H :=
 ⟨fun m=>h.set,h.lt,hp,h1,h2,h3,h4⟩
theorem GH.ph'(g:GH c lm ld M D ms ds own H)(m:Mk):PH c lm ld M D ms ds (cb c m H):=g.ph.set
theorem GH.open(g:GH c lm ld M D ms ds own H)(m:Mk):Abs.jW H.length c.mm (cb c m H)=true:=NV.jW (g.mh m).out au.symm
theorem GH.get(g:GH c lm ld M D ms ds own H)(m:Mk):(cb c m H)[c.mm]?=some (.ca (fu c m)):=ry g.lt
theorem GH.ne(g:GH c lm ld M D ms ds own H):Nat.beq c.mm H.length=false:=tq (by have:=g.lt;omega)
theorem rj(g:GH c lm ld M D ms ds own H)(m:Mk)(n:Int)(hn:0<n):∃ x p,0<=x/\x<n/\aE A 17 [.ref c.mm 0,.int .i64 n] (cb c m H)=some (.int .i64 x,some ⟨cb c { m with pos:=p } H,c.mm⟩):=by
 obtain⟨x,p,h1,h2,h3⟩:=KK (g.mh m) n hn
 rw[aW] at h3
 exact⟨x,p,h1,h2,h3⟩
theorem x7(g:GH c lm ld M D ms ds own H)(m:Mk):∃ (i:Id) (x:Int),i.bN=0/\aE A 16 [.ref c.mm 0] (cb c m H)=some (.agg (av i),some ⟨cb c { m with next:=x } H,c.mm⟩):=by
 obtain⟨i,x,h1,h3⟩:=Y6 (g.mh m)
 rw[aW] at h3
 exact⟨i,x,h1,h3⟩
theorem abU(g:GH c lm ld M D ms ds own H)(m:Mk)(h2:2<=ds.length):∃ (t:List AV) (m' : Mk),Zo t/\m'.next=m.next/\m'.own=m.own/\aE A 18 [.ref c.mm 0] (cb c m H)=some (.agg t,some ⟨cb c m' H,c.mm⟩):=by
 obtain⟨t,m',h1,h2,h3,h4⟩:=R4 (g.mh m) (g.ph' m) h2
 rw[aW] at h4
 exact⟨t,m',h1,h2,h3,h4⟩
theorem SY(g:GH c lm ld M D ms ds own H)(m:Mk)(ho:m.own=own)(k1 k2:Int) :
  ∃ (r:AV) (m' : Mk),(r=.tuple [.agg zD,.bool false]\/∃ d∈ds.take own,r=.tuple [.agg (bg d),.bool true])/\m'.own=m.own/\aE A 58 [.ref c.mm 0,.int .i64 k1,.int .i64 k2] (cb c m H)=some (r,some ⟨cb c m' H,c.mm⟩):=by
 obtain⟨r,m',h1,h2,h3⟩:=ado (g.mh m) (g.ph' m) own ho g.ol g.dl g.ml k1 k2
 rw[aW] at h3
 exact⟨r,m',h1,h2,h3⟩
theorem G2(m:Mk)(v:Int)(pm pd:AV)(h1:c.pm=pm)(h2:c.pd=pd):(cb c m H).set c.mm (.ca [pm,pd,.slice (ints c.l) false,.int .i64 m.pos,.int .i64 m.next,.int .i64 v,.int .i64 m.own])=cb c { m with left:=v } H:=by
 subst h1 h2
 unfold cb
 rw[List.set_set];rfl
end
def CE(i:Id)(k n:Int)(r:Id)(t:List AV)(ht:Zo t)(ks:List Ex)(ns:List ga):Ex :=
 .mk i ⟨[.int .i64 k,.int .i64 n,.int .i64 r.bN,.int .i64 r.seq,.int .i64 r.index]++t,by simp[ht.1],by rw[are,ht.2.1];rfl⟩ ks ns
def tyZ:List AV:=wz 0 ⟨0,0,0⟩ []
theorem adB:Zo tyZ:=⟨rfl,rfl,rfl⟩
theorem lK{i:Id}{k n:Int}{r:Id}{t:List AV}{ht:Zo t}{ks:List Ex}{ns:List ga} : bj (CE i k n r t ht ks ns)=[.int .i64 i.bN,.int .i64 i.seq,.int .i64 i.index,.int .i64 k,.int .i64 n,.int .i64 r.bN,.int .i64 r.seq,.int .i64 r.index]++t++[.slice (bz ks) false,.slice (strs ns) false]:=by
 simp[CE,qM,Ex.id,Ex.WD,Ex.kids,Ex.names,av]
def Gj(i:Id)(k n:Int)(r:Id)(ks:List Ex)(ns:List ga):Ex:=CE i k n r tyZ adB ks ns
theorem cK{i:Id}{k n:Int}{r:Id}{ks:List Ex}{ns:List ga} : bj (Gj i k n r ks ns)=[.int .i64 i.bN,.int .i64 i.seq,.int .i64 i.index,.int .i64 k,.int .i64 n,.int .i64 r.bN,.int .i64 r.seq,.int .i64 r.index,.int .i64 0,.int .i64 0,.int .i64 0,.int .i64 0,.slice [] false,.slice (bz ks) false,.slice (strs ns) false]:=lK
inductive BE:Ex->Prop where
 | mk (e:Ex) (h0:(bj e).map n2=bj e) (h1:e.kids.length<=1000) (h2:e.names.length<=1000) (h3:∀ k∈e.kids,BE k):BE e
structure EN (e:Ex):Prop where
 n:(bj e).map n2=bj e
 b:BE e
theorem agm{x:AV}(h:n2 x=x):n1 x=x:=by
 cases x<;>first|rfl|(simp[n2] at h)
theorem Sk:∀ {l:List AV},l.map n2=l->l.map n1=l
 | [],_=>rfl
 | a :: l,h=>by
  simp only[apm,aqd] at h ⊢
  exact⟨agm h.1,Sk h.2⟩
theorem EN.n1{e:Ex}(h:EN e):(bj e).map Abs.n1=bj e:=Sk h.n
theorem gM{l:List Ex}(h:∀ e∈l,EN e):(bz l).map (fun r=>r.map n1)=bz l:=by
 rw[lj,aqQ]
 exact aph fun e he=>(h e he).n1
theorem kB{l:List ga} : (strs l).map (fun r=>r.map n1)=strs l:=by
 rw[strs,aqQ];rfl
theorem gC{i:Id}{k n:Int}{r:Id}{t:List AV}{ht:Zo t}{ks:List Ex}{ns:List ga}(h:∀ k∈ks,EN k)(hk:ks.length<=1000:=by simp)(hn:ns.length<=1000:=by simp):EN (CE i k n r t ht ks ns):=by
 have h0:(bj (CE i k n r t ht ks ns)).map n2=bj (CE i k n r t ht ks ns):=by
  rw[lK]
  simp only[aq3,apm,apz,ht.2.2,cq,fJ,gM h,kB]
 exact⟨h0,.mk _ h0 hk hn fun k hk=>(h k hk).b⟩
section
variable {c:Cx}{lm ld:Nat}{M D:List (List AV)}{ms:List Mod}{ds:List Def}{own:Nat}{H:ah}
def tF(c:Cx)(H:ah)(n:Int)(env:List Vr)(m:Mk):Prop:=∃ (e:Ex) (m' : Mk),EN e/\m'.own=m.own/\aE A 22 [.ref c.mm 0,.slice (dz env) false,.int .i64 n] (cb c m H)=some (.agg (bj e),some ⟨cb c m' H,c.mm⟩)
theorem xK(g:GH c lm ld M D ms ds own H)(n:Int)(env:List Vr)(m:Mk)(hn:pr n)(he:env.length<=1000)(x p:Int)(qY:0<=x)(hx:x<16)
  (fB:aE A 17 [.ref c.mm 0,.int .i64 16] (cb c m H)=some (.int .i64 x,some ⟨cb c { m with pos:=p } H,c.mm⟩))
  (hc:n<=0\/IntKind.i64.wrap (m.left-1)<=0\/x<5):tF c H n env m:=by
 have bB:=g.ne
 have aU:=g.lt
 have cy:=fun m=>g.open m
 have fY:(bif decide (c.mm<c.mm) then c.mm else c.mm)=c.mm:=by simp
 have fE:=fun m=>g.get m
 have dB:=fun (m:Mk) (v:Int)=>G2 (c:=c) (H:=H) m v _ _ g.ph.pm g.ph.pd
 simp only[fu,g.ph.pd,g.ph.pm] at fE
 have fH:=dB { m with pos:=p } (IntKind.i64.wrap (m.left-1))
 have hh:∀ (P:Prop),(∀ (b2 b1:Bool),(decide (n<=0)=true\/(decide (n<=0)=false/\(decide (IntKind.i64.wrap (m.left-1)<=0)=true\/(decide (IntKind.i64.wrap (m.left-1)<=0)=false/\decide (x<5)=true))))->P)->P:=by
  intro P hP
  refine hP true true ?_
  by_cases h1:n<=0
  ·exact .inl (by simpa using h1)
  ·by_cases h2:IntKind.i64.wrap (m.left-1)<=0
   ·exact .inr ⟨by simpa using h1,.inl (by simpa using h2)⟩
   ·exact .inr ⟨by simpa using h1,.inr ⟨by simpa using h2,by simp;omega⟩⟩
 by_cases hv:0<env.length/\x≠1/\x≠2
 ·obtain⟨y,p2,Kv,PN,dr⟩:=rj g { m with pos:=p,left:=IntKind.i64.wrap (m.left-1) } env.length (by omega)
  obtain⟨i,nx,hi,hid⟩:=x7 g { m with pos:=p2,left:=IntKind.i64.wrap (m.left-1) }
  obtain⟨z,rfl⟩:∃ z:Nat,y=z:=⟨y.toNat,by omega⟩
  have hz:=aoT (l:=env) (i:=z) (by omega)
  generalize env[z]=v at hz
  have hzz:=adC hz
  rw[J7] at hzz
  rw[av] at hid
  refine⟨Gj i 2 v.n v.id [] [],{ m with pos:=p2,left:=IntKind.i64.wrap (m.left-1),next:=nx },gC (by simp),rfl,?_⟩
  refine bX (fn:=gX) rfl rfl rfl rfl ?_
  unfold gX
  refine hh _ fun _ _ hc=>?_
  rcases hc with h1|⟨h1,h2|⟨h2,h3⟩⟩
  ·simp(disch:=omega)only[aL,aa,simprocAttr,fB,dr,hid,fE,fH,au,ar,cy,bB,fY,gS,aY,cK,bT,cq,cE,dg,strs,hzz,h1]
  ·simp(disch:=omega)only[aL,aa,simprocAttr,fB,dr,hid,fE,fH,au,ar,cy,bB,fY,gS,aY,cK,bT,cq,cE,dg,strs,hzz,h1,h2]
  ·simp(disch:=omega)only[aL,aa,simprocAttr,fB,dr,hid,fE,fH,au,ar,cy,bB,fY,gS,aY,cK,bT,cq,cE,dg,strs,hzz,h1,h2,h3]
 ·
  have anC:env.length=0\/x=1\/x=2:=by omega
  have ak7:(0<env.length)\/env.length=0:=by omega
  have ze:(x != 1)=decide (x≠1):=by by_cases e:x=1<;>simp[e]
  have iO:(x != 2)=decide (x≠2):=by by_cases e:x=2<;>simp[e]
  have hv3:(env.length=0)\/(0<env.length/\x=1)\/(0<env.length/\x=2):=by omega
  by_cases bc:x % 2=0
  ·obtain⟨i,nx,hi,hid⟩:=x7 g { m with pos:=p,left:=IntKind.i64.wrap (m.left-1) }
   obtain⟨y,p2,Kv,PN,dr⟩:=rj g { m with pos:=p,left:=IntKind.i64.wrap (m.left-1),next:=nx } 2 (by omega)
   rw[av] at hid
   refine⟨Gj i 1 y ⟨0,0,0⟩ [] [],{ m with pos:=p2,left:=IntKind.i64.wrap (m.left-1),next:=nx },gC (by simp),rfl,?_⟩
   refine bX (fn:=gX) rfl rfl rfl rfl ?_
   unfold gX
   refine hh _ fun _ _ hc=>?_
   rcases hv3 with hv|⟨hv,rfl⟩|⟨hv,rfl⟩
   ·have hz:(env.length:Int)=0:=by omega
    rcases hc with h1|⟨h1,h2|⟨h2,h3⟩⟩
    ·simp(disch:=omega)only[aL,aa,simprocAttr,fB,dr,hid,fE,fH,au,ar,cy,bB,fY,gS,aY,cK,bT,cq,cE,dg,strs,hz,bc,gt_iff_lt,Int.lt_irrefl,h1]
    ·simp(disch:=omega)only[aL,aa,simprocAttr,fB,dr,hid,fE,fH,au,ar,cy,bB,fY,gS,aY,cK,bT,cq,cE,dg,strs,hz,bc,gt_iff_lt,Int.lt_irrefl,h1,h2]
    ·simp(disch:=omega)only[aL,aa,simprocAttr,fB,dr,hid,fE,fH,au,ar,cy,bB,fY,gS,aY,cK,bT,cq,cE,dg,strs,hz,bc,gt_iff_lt,Int.lt_irrefl,h1,h2,h3]
   ·omega
   ·have hz:(0:Int)<env.length:=by omega
    rcases hc with h1|⟨h1,h2|⟨h2,h3⟩⟩
    ·simp(disch:=omega)only[aL,aa,simprocAttr,fB,dr,hid,fE,fH,au,ar,cy,bB,fY,gS,aY,cK,bT,cq,cE,dg,strs,hz,bc,gt_iff_lt,bne_self_eq_false,h1]
    ·simp(disch:=omega)only[aL,aa,simprocAttr,fB,dr,hid,fE,fH,au,ar,cy,bB,fY,gS,aY,cK,bT,cq,cE,dg,strs,hz,bc,gt_iff_lt,bne_self_eq_false,h1,h2]
    ·simp(disch:=omega)only[aL,aa,simprocAttr,fB,dr,hid,fE,fH,au,ar,cy,bB,fY,gS,aY,cK,bT,cq,cE,dg,strs,hz,bc,gt_iff_lt,bne_self_eq_false,h1,h2,h3]
  ·obtain⟨i,nx,hi,hid⟩:=x7 g { m with pos:=p,left:=IntKind.i64.wrap (m.left-1) }
   obtain⟨y,p2,Kv,PN,dr⟩:=rj g { m with pos:=p,left:=IntKind.i64.wrap (m.left-1),next:=nx } 20 (by omega)
   rw[av] at hid
   refine⟨Gj i 0 (y-9) ⟨0,0,0⟩ [] [],{ m with pos:=p2,left:=IntKind.i64.wrap (m.left-1),next:=nx },gC (by simp),rfl,?_⟩
   refine bX (fn:=gX) rfl rfl rfl rfl ?_
   unfold gX
   refine hh _ fun _ _ hc=>?_
   rcases hv3 with hv|⟨hv,rfl⟩|⟨hv,rfl⟩
   ·have hz:(env.length:Int)=0:=by omega
    rcases hc with h1|⟨h1,h2|⟨h2,h3⟩⟩
    ·simp(disch:=omega)only[aL,aa,simprocAttr,fB,dr,hid,fE,fH,au,ar,cy,bB,fY,gS,aY,cK,bT,cq,cE,dg,strs,hz,bc,gt_iff_lt,Int.lt_irrefl,h1]
    ·simp(disch:=omega)only[aL,aa,simprocAttr,fB,dr,hid,fE,fH,au,ar,cy,bB,fY,gS,aY,cK,bT,cq,cE,dg,strs,hz,bc,gt_iff_lt,Int.lt_irrefl,h1,h2]
    ·simp(disch:=omega)only[aL,aa,simprocAttr,fB,dr,hid,fE,fH,au,ar,cy,bB,fY,gS,aY,cK,bT,cq,cE,dg,strs,hz,bc,gt_iff_lt,Int.lt_irrefl,h1,h2,h3]
   ·have hz:(0:Int)<env.length:=by omega
    rcases hc with h1|⟨h1,h2|⟨h2,h3⟩⟩
    ·simp(disch:=omega)only[aL,aa,simprocAttr,fB,dr,hid,fE,fH,au,ar,cy,bB,fY,gS,aY,cK,bT,cq,cE,dg,strs,hz,bc,gt_iff_lt,bne_self_eq_false,h1]
    ·simp(disch:=omega)only[aL,aa,simprocAttr,fB,dr,hid,fE,fH,au,ar,cy,bB,fY,gS,aY,cK,bT,cq,cE,dg,strs,hz,bc,gt_iff_lt,bne_self_eq_false,h1,h2]
    ·simp(disch:=omega)only[aL,aa,simprocAttr,fB,dr,hid,fE,fH,au,ar,cy,bB,fY,gS,aY,cK,bT,cq,cE,dg,strs,hz,bc,gt_iff_lt,bne_self_eq_false,h1,h2,h3]
   ·omega
end
end
section
section
variable {c:Cx}{lm ld:Nat}{M D:List (List AV)}{ms:List Mod}{ds:List Def}{own:Nat}{H:ah}
theorem Ya(n:Int)(env:List Vr)(H:ah)(r:AV):∃ o,aE A 43 [.ref c.mm 0,.int .i64 0,.slice (dz env) false,.int .i64 n] H=some (.slice [] o,none):=by
 have key:∃ r,aE A 43 [.ref c.mm 0,.int .i64 0,.slice (dz env) false,.int .i64 n] H=some r/\∃ o,r=(.slice [] o,none):=by
  refine rK (fn:=I3) rfl rfl rfl rfl ?_
  unfold I3
  simp(disch:=omega)only[aL,aa,simprocAttr]
  refine bQ 0 0 (fun j=>Hd (fun T=>T 1=.int .i64 0/\T 9=.slice [] true/\T 10=.int .i64 0) H H.length 0) (Hd (fun T=>T 9=.slice [] true) H H.length 0) (fun _=>False) ?_ ?_ (fun _ h=>h.elim) 0 _ (by omega) ?_
  ·rintro j s hj hs
   obtain⟨T,rfl,e1,e9,qs⟩:=hs.out
   simp(disch:=omega)only[aL,aa,simprocAttr,e1,e9,qs,Int.lt_irrefl]
  ·rintro s hs
   obtain⟨T,rfl,e9⟩:=hs.out
   simp(disch:=omega)only[aL,aa,simprocAttr,e9]
   exact⟨_,rfl⟩
  ·simp(disch:=omega)only[aL,aa,simprocAttr]
 obtain⟨r,h1,o,rfl⟩:=key
 exact⟨o,h1⟩
theorem qg(g:GH c lm ld M D ms ds own H)(n:Int)(env:List Vr)(k:Nat)(YN:1<=k)(hk:k<=1000)(ih:∀ m,m.own=(own:Int)->tF c H n env m)(m:Mk)(ho:m.own=(own:Int)) :
  ∃ (es:List Ex) (m' : Mk),es.length=k/\(∀ e∈es,EN e)/\m'.own=m.own/\aE A 43 [.ref c.mm 0,.int .i64 k,.slice (dz env) false,.int .i64 n] (cb c m H)=some (.slice (bz es) false,some ⟨cb c m' H,c.mm⟩):=by
 have key:∃ r,aE A 43 [.ref c.mm 0,.int .i64 k,.slice (dz env) false,.int .i64 n] (cb c m H)=some r/\∃ (es:List Ex) (m' : Mk),es.length=k/\(∀ e∈es,EN e)/\m'.own=m.own/\r=(.slice (bz es) false,some ⟨cb c m' H,c.mm⟩):=by
  refine rK (fn:=I3) rfl rfl rfl rfl ?_
  unfold I3
  have bB:=g.ne
  have aU:=g.lt
  have cy:=fun m=>g.open m
  have fY:(bif decide (c.mm<c.mm) then c.mm else c.mm)=c.mm:=by simp
  simp(disch:=omega)only[aL,aa,simprocAttr,au]
  refine bQ k 0 (fun j s=>∃ T m' es lo,s=⟨T,cb c m' H,lo,0⟩/\m'.own=m.own/\es.length=j/\(∀ e∈es,EN e)/\(lo=c.mm\/(lo=H.length/\j=0))/\T 0=.ref c.mm 0/\T 1=.int .i64 k/\T 2=.slice (dz env) false/\T 3=.int .i64 n/\T 9=.slice (bz es) true/\T 10=.int .i64 j)
   (fun s=>∃ T m' es,s=⟨T,cb c m' H,c.mm,0⟩/\m'.own=m.own/\es.length=k/\(∀ e∈es,EN e)/\T 9=.slice (bz es) true) (fun _=>False) ?_ ?_ (fun _ h=>h.elim) 0 _ (by omega) ?_
  ·rintro j s hj ⟨T,m1,es,lo,rfl,pP,qS,fV,qn,e0,e1,e2,e3,e9,qs⟩
   by_cases iL:j<k
   ·obtain⟨e,m2,he,qx,hx⟩:=ih m1 (by rw[pP,ho])
    have jS:=HA (l:=es) (e:=e) (o:=true) (by omega)
    have ajj:(bif decide (c.mm<lo) then c.mm else lo)=c.mm:=by
     rcases qn with rfl|⟨rfl,_⟩
     ·simp
     ·simp[aU]
    simp(disch:=omega)only[aL,aa,simprocAttr,bS,bV,bA,bW,cH,bu,dL,au,ar,aW,e0,e1,e2,e3,e9,qs,hx,jS,ajj]
    exact⟨iL,_,m2,es++[e],_,rfl,by rw[qx,pP],by simp[qS],fun x hx=>(aoX.1 hx).elim (fV x) (fun h=>by rw[ao3.1 h];exact he),.inl rfl,by simp(disch:=omega)only[aL,aa,simprocAttr,bS,bV,bA,bW,cH,bu,dL,au,ar,aW,e0,e1,e2,e3,e9,qs]⟩
   ·have:j=k:=by omega
    subst this
    have aaz:lo=c.mm:=by rcases qn with h|⟨_,h⟩;exact h;omega
    subst aaz
    simp(disch:=omega)only[aL,aa,simprocAttr,e0,e1,e2,e3,e9,qs]
    exact⟨_,m1,es,rfl,pP,qS,fV,by simp(disch:=omega)only[aL,aa,simprocAttr,bS,bV,bA,bW,cH,bu,dL,au,ar,aW,e9]⟩
  ·rintro s ⟨T,m1,es,rfl,pP,qS,fV,e9⟩
   simp(disch:=omega)only[aL,aa,simprocAttr,e9,au,ar,cy,bB]
   exact⟨es,m1,qS,fV,pP,by rw[acd,gM fV];trivial⟩
  ·exact⟨_,m,[],_,rfl,rfl,rfl,by simp,.inr ⟨rfl,rfl⟩,by simp(disch:=omega)only[aL,aa,simprocAttr,apb,dg]⟩
 obtain⟨r,h1,es,m',h2,h3,h4,rfl⟩:=key
 exact⟨es,m',h2,h3,h4,h1⟩
def JT(f:FuncId)(c:Cx)(H:ah)(k n:Int)(env:List Vr)(m:Mk):Prop:=∃ (e:Ex) (m' : Mk),EN e/\m'.own=m.own/\aE A f [.ref c.mm 0,.int .i64 k,.slice (dz env) false,.int .i64 n] (cb c m H)=some (.agg (bj e),some ⟨cb c m' H,c.mm⟩)
theorem re(g:GH c lm ld M D ms ds own H)(k n:Int)(env:List Vr)(ih:∀ m,m.own=(own:Int)->tF c H n env m)(m:Mk)(ho:m.own=(own:Int)):JT 45 c H k n env m:=by
 have bB:=g.ne
 have aU:=g.lt
 have cy:=fun m=>g.open m
 have fY:(bif decide (c.mm<c.mm) then c.mm else c.mm)=c.mm:=by simp
 obtain⟨i,nx,hi,hid⟩:=x7 g m
 obtain⟨ix,amH,amI,YM⟩:=PQ k (cb c { m with next:=nx } H)
 rw[av] at hid
 obtain⟨one,vZ,ak3⟩:∃ one:Int,([[AV.int .i64 2],[AV.int .i64 0],[AV.int .i64 0],[AV.int .i64 1]]:List (List AV))[ix.toNat]?=some [.int .i64 one]/\(one=2\/one=0\/one=1):=by
  have h:ix=0\/ix=1\/ix=2\/ix=3:=by omega
  rcases h with rfl|rfl|rfl|rfl
  ·exact⟨2,rfl,.inl rfl⟩
  ·exact⟨0,rfl,.inr (.inl rfl)⟩
  ·exact⟨0,rfl,.inr (.inl rfl)⟩
  ·exact⟨1,rfl,.inr (.inr rfl)⟩
 have af0:=fun k2=>SY g { m with next:=nx } ho one k2
 have hzt:zD.map AV.drop=zD:=rfl
 have hzf:zD.all al=true:=rfl
 have qV:∃ k2:Int,(one=2/\k2=5)\/(one≠2/\k2=one):=by
  by_cases h:one=2
  ·exact⟨5,.inl ⟨h,rfl⟩⟩
  ·exact⟨one,.inr ⟨h,rfl⟩⟩
 obtain⟨k2,hk2⟩:=qV
 obtain⟨r,m1,hr,pP,wW⟩:=af0 k2
 rcases hr with rfl|⟨d,hd,rfl⟩
 ·refine⟨Gj i 1 1 ⟨0,0,0⟩ [] [],m1,gC (by simp),pP,bX (fn:=Cv) rfl rfl rfl rfl ?_⟩
  unfold Cv
  rw[zD] at wW
  rcases hk2 with ⟨rfl,rfl⟩|⟨h2,rfl⟩
  ·simp(disch:=omega)only[aL,aa,simprocAttr,hid,YM,vZ,wW,au,ar,cy,bB,fY,cK,bT,cq,cE,dg,strs]
  ·simp(disch:=omega)only[aL,aa,simprocAttr,hid,YM,vZ,wW,h2,au,ar,cy,bB,fY,cK,bT,cq,cE,dg,strs]
 ·obtain⟨AL,NO⟩:=g.sl d hd
  have PB:m1.own=(own:Int):=by rw[pP];exact ho
  have h0:=xw (d:=d)
  have h8:=Ow (d:=d)
  rw[av] at h0
  by_cases hk:k=8\/k=9
  ·obtain⟨y,p2,Kv,PN,dr⟩:=rj g m1 d.aZ.length (by omega)
   obtain⟨es,m3,qS,fV,vY,jJ⟩:=qg g n env 1 (by omega) (by omega) ih { m1 with pos:=p2 } PB
   have nO:=gM fV
   refine⟨Gj i k y d.id es [],m3,gC fV (by omega),by rw[vY];exact pP,bX (fn:=Cv) rfl rfl rfl rfl ?_⟩
   unfold Cv
   have iv:aE A 43 [.ref c.mm 0,.int .i64 1,.slice (dz env) false,.int .i64 n] (cb c { m1 with pos:=p2 } H)=some (.slice (bz es) false,some ⟨cb c m3 H,c.mm⟩):=jJ
   have Kl:(k==8)=true\/((k==8)=false/\(k==9)=true):=by rcases hk with rfl|rfl<;>decide
   rcases hk2 with ⟨rfl,rfl⟩|⟨h2,rfl⟩<;>rcases Kl with hb|⟨hb,iO⟩
   ·simp(disch:=omega)only[aL,aa,simprocAttr,hid,YM,vZ,wW,au,ar,cy,bB,fY,cK,bT,cq,cE,fJ,nO,strs,cJ,cQ,cS,cv,dH,h0,h8,dr,iv,fh,hb]
   ·simp(disch:=omega)only[aL,aa,simprocAttr,hid,YM,vZ,wW,au,ar,cy,bB,fY,cK,bT,cq,cE,fJ,nO,strs,cJ,cQ,cS,cv,dH,h0,h8,dr,iv,fh,hb,iO]
   ·simp(disch:=omega)only[aL,aa,simprocAttr,hid,YM,vZ,wW,h2,au,ar,cy,bB,fY,cK,bT,cq,cE,fJ,nO,strs,cJ,cQ,cS,cv,dH,h0,h8,dr,iv,fh,hb]
   ·simp(disch:=omega)only[aL,aa,simprocAttr,hid,YM,vZ,wW,h2,au,ar,cy,bB,fY,cK,bT,cq,cE,fJ,nO,strs,cJ,cQ,cS,cv,dH,h0,h8,dr,iv,fh,hb,iO]
  ·obtain⟨es,m3,qS,fV,vY,jJ⟩:=qg g n env d.aZ.length (by omega) (by omega) ih m1 PB
   have nO:=gM fV
   refine⟨Gj i k 0 d.id es [],m3,gC fV (by omega),by rw[vY];exact pP,bX (fn:=Cv) rfl rfl rfl rfl ?_⟩
   unfold Cv
   have hb:(k==8)=false:=by simp;omega
   have iO:(k==9)=false:=by simp;omega
   rcases hk2 with ⟨rfl,rfl⟩|⟨h2,rfl⟩
   ·simp(disch:=omega)only[aL,aa,simprocAttr,hid,YM,vZ,wW,au,ar,cy,bB,fY,cK,bT,cq,cE,fJ,nO,strs,cJ,cQ,cS,cv,dH,h0,h8,jJ,fh,hb,iO]
   ·simp(disch:=omega)only[aL,aa,simprocAttr,hid,YM,vZ,wW,h2,au,ar,cy,bB,fY,cK,bT,cq,cE,fJ,nO,strs,cJ,cQ,cS,cv,dH,h0,h8,jJ,fh,hb,iO]
end
end
section
theorem W5{x:AV}{H:ah}{base k:Nat}(h:x.aG base=true):dY H base k x=x:=by
 cases k with
 | zero=>rfl
 | succ k =>
  cases x with
  | sref l o n z =>
   have:Nat.ble base l=false:=by
    simp only[AV.aG,api] at h
    cases hb:Nat.ble base l with
    | false=>rfl
    | true=>rw[Nat.ble_eq] at hb;omega
   simp only[dY,this,aoZ]
  | _=>rfl
theorem B6(cs:List AV):(cs.map AV.drop).map AV.drop=cs.map AV.drop:=by
 rw[aqQ];exact aph fun x _=>drop_drop
theorem ve{base tc n g:Nat}{fn:ax}{s:AS}{cs:List AV}(hr:fn.results=[.cell tc true n])(m8:fn.muts.elem 888888=false)
  (hT:s.T tc=.lbox g cs) (hn:cs.length=n) (cy:jW base s.lo s.H=true) (mf:((cs.map AV.drop).map (dY s.H base 3)).all AV.plain=true) :
  kI base fn s=some (.agg ((cs.map AV.drop).map (dY s.H base 3)),cond (Nat.beq s.lo base) none (some ⟨s.H.take base,s.lo⟩)):=by
 have h1:nD base s=true:=cy
 have hc:iR s (.cell tc true n)=some (.agg (cs.map AV.drop)):=by
  simp only[iR,hT,ag,cond_true,Nat.zero_add,hn,apD (aoU _),apN]
  rw[<- hn,aq0]
 unfold kI rP nW
 rw[h1,m8,hr]
 simp only[cond_true,aoZ]
 have hd:AV.aX (.agg (cs.map AV.drop))=.agg (cs.map AV.drop):=by simp only[AV.aX,B6]
 cases hl:(cs.map AV.drop).all (AV.aG base) with
 | true =>
  have e:(cs.map AV.drop).map (dY s.H base 3)=cs.map AV.drop:=by
   conv=>rhs;rw[<- List.map_id (cs.map AV.drop)]
   exact aph fun x hx=>W5 (aoV.1 hl x hx)
  have h0:gN base [.cell tc true n] s=some (.agg (cs.map AV.drop),cond (Nat.beq s.lo base) none (some ⟨s.H.take base,s.lo⟩)):=by
   have q1:mr s (.cell tc true n)=none:=rfl
   simp only[gN,kO,q1,hc,hd,Option.map_some,aoW,AV.leaves,AV.bn,hl,cond_true]
  rw[h0,e]
 | false =>
  have h0:gN base [.cell tc true n] s=none:=by
   have q1:mr s (.cell tc true n)=none:=rfl
   simp only[gN,kO,q1,hc,hd,Option.map_some,aoW,AV.leaves,AV.bn,hl,aoZ]
  have hp:pL base [.cell tc true n] s=none:=by simp only[pL,List.length_cons,List.length_nil];rfl
  have hf:pK base [.cell tc true n] s=some (.agg ((cs.map AV.drop).map (dY s.H base 3)),cond (Nat.beq s.lo base) none (some ⟨s.H.take base,s.lo⟩)):=by
   have hx:((cs.map AV.drop).map (dY s.H base 3)).all (AV.aG base)=true:=by
    rw[aoV] at mf ⊢
    exact fun x hx=>dU (mf x hx) base
   simp only[pK,uG,hc,hd,Option.map_some,aoW,L4,AV.leaves,AV.bn,hx,cond_true]
  rw[h0,hp,hf]
theorem L1{base tc n g:Nat}{fn:ax}{s:AS}{cs out:List AV}(hr:fn.results=[.cell tc true n])(m8:fn.muts.elem 888888=false)(m7:fn.muts.elem 777777=true)
  (hT:s.T tc=.lbox g cs) (hn:cs.length=n) (cy:jW base s.lo s.H=true) (mf:((cs.map AV.drop).map (dY s.H base 3)).all AV.plain=true) (ho:((cs.map AV.drop).map (dY s.H base 3)).map n2=out) :
  finish base fn s=some (.agg out,cond (Nat.beq s.lo base) none (some ⟨s.H.take base,s.lo⟩)):=by
 unfold finish
 rw[ve hr m8 hT hn cy mf,Option.map_some,Gr m7,bT,ho]
theorem BM{x:AV}{a b:Nat}(h:x.aG a=true)(hab:a<=b):x.aG b=true:=by
 cases x<;>simp only[AV.aG,api] at h ⊢<;>first|exact h|omega
def cj.shut:cj->Bool
 | .ca _=>false
 | _=>true
section
variable {c:Cx}{lm ld:Nat}{M D:List (List AV)}{ms:List Mod}{ds:List Def}{own:Nat}{H:ah}
theorem MH.app{m:Mk}{K:ah}(h:MH c m H)(hK:∀ o∈K,cj.shut o=true):MH c m (H++K):=by
 refine⟨by rw[ao7 h.lt];exact h.h0,?_,h.hl,?_,?_⟩
 ·intro j cs hj fi
  by_cases e:j<H.length
  ·rw[ao7 e] at fi
   have:=h.out j cs hj fi
   rw[aoV] at this ⊢
   exact fun x hx=>BM (this x hx) (by simp)
  ·rw[ao5 (by omega)] at fi
   have:=hK _ (ao0 fi)
   simp[cj.shut] at this
 ·rcases h.fm with e|⟨l,n,z,e,hl⟩
  ·exact .inl e
  ·exact .inr ⟨l,n,z,e,by simp;omega⟩
 ·rcases h.fd with e|⟨l,n,z,e,hl⟩
  ·exact .inl e
  ·exact .inr ⟨l,n,z,e,by simp;omega⟩
theorem GH.app(g:GH c lm ld M D ms ds own H){K:ah}(hK:∀ o∈K,cj.shut o=true):GH c lm ld M D ms ds own (H++K) :=
 ⟨fun m=>by rw[pb g.lt];exact (g.mh m).app hK,by have:=g.lt;simp;omega,g.ph.app,g.ol,g.dl,g.ml,g.sl⟩
end
def kT(q:List Ex):ah:=List.replicate (q.length-1) .dead++[.box aJ (bz q).flatten]
theorem abT{q:List Ex}(h:q≠[]):(kT q).length=q.length:=by
 have:0<q.length:=apF.2 h
 simp[kT];omega
theorem KG{q:List Ex} : ∀ o∈kT q,cj.shut o=true:=by
 intro o ho
 rcases aoX.1 ho with h|h
 ·rw[(List.mem_replicate.1 h).2];rfl
 ·rw[ao3.1 h];rfl
theorem R3{H:ah}{q:List Ex}(h:q≠[]):(H++kT q)[H.length+(q.length-1)]?=some (.box aJ (bz q).flatten):=by
 rw[ao5 (by omega),Nat.add_sub_cancel_left,kT,ao5 (by simp)]
 simp
theorem O5{l:List Ex} : ∀ r∈bz l,r.length=15:=Il.wide
theorem Wt{H:ah}{q:List Ex}{e:Ex}(h:q≠[]):(H++kT q).set (H.length+(q.length-1)) .dead++[.box aJ ((bz q).flatten++[bj e].flatten)]=H++kT (q++[e]):=by
 have hp:0<q.length:=apF.2 h
 rw[apx _ _ (by omega),Nat.add_sub_cancel_left,ap']
 congr 1
 rw[kT,apx _ _ (by simp),List.length_replicate,apW,List.set_cons_zero,kT,ao6,apt,Nat.add_sub_cancel,<- Fu,List.flatten_append]
 conv=>rhs;rw[show q.length=(q.length-1)+1 by omega,List.replicate_succ',ap']
 simp
theorem abS{B:AP}{T:aw}{H:ah}{lo gen:Nat}{K:AS->Prop}{os:List aj}{t:Nat}{q:List Ex}{e:Ex}{o:Bool}(h:q≠[])(hq:q.length<=1000000)(qn:lo<=H.length) :
  Bs B 15 168 (.sref (H.length+(q.length-1)) 0 q.length 15) (.slice [bj e] o) t os T (H++kT q) lo gen K=WO B false os ⟨T.put t (.sref (H.length+((q++[e]).length-1)) 0 (q++[e]).length 15),H++kT (q++[e]),lo,gen⟩ K:=by
 have hp:0<q.length:=apF.2 h
 have qw:(bz q).flatten.length=q.length*15:=by rw[dp O5,pJ]
 have hh:fR 15 [bj e]=true:=by unfold fR;simp[bS]
 have vi:cC [bj e]=true:=by unfold cC;simp only[List.all_cons,List.all_nil,bu,Bool.and_self]
 rw[wQ (R3 h) qw (by simp;omega) (by simp;omega) hh vi,Wt h]
 have hb:Nat.blt (H.length+(q.length-1)) lo=false:=by
  cases hb:Nat.blt (H.length+(q.length-1)) lo with
  | true=>have:=Nat.le_of_ble_eq_true hb;omega
  | false=>rfl
 have hl:(H++kT q).length=H.length+((q++[e]).length-1):=by rw[ao6,abT h];simp
 rw[hb,hl]
 simp
end
section
section
variable {c:Cx}{lm ld:Nat}{M D:List (List AV)}{ms:List Mod}{ds:List Def}{own:Nat}{H:ah}
theorem GH.Zf(g:GH c lm ld M D ms ds own H){m:Mk}{K:ah} : (cb c m (H++K)).take H.length=cb c m H:=by
 rw[pb g.lt,List.take_left' au]
theorem GH.agr(g:GH c lm ld M D ms ds own H)(m:Mk){K:ah} : jW H.length c.mm (cb c m (H++K))=true:=by
 have:=g.open m
 unfold jW at this ⊢
 rw[g.Zf]
 rwa [ar] at this
theorem DF(g:GH c lm ld M D ms ds own H)(n:Int)(env:List Vr)(he:env.length<=900)(ih:∀ u7:List Vr,u7.length<=env.length+2->∀ m,m.own=(own:Int)->tF c H n u7 m)(m:Mk)(ho:m.own=(own:Int)):JT 44 c H 6 n env m:=by
 have bB:=g.ne
 have aU:=g.lt
 have cy:=fun m=>g.open m
 have fY:(bif decide (c.mm<c.mm) then c.mm else c.mm)=c.mm:=by simp
 obtain⟨i,nx,hi,hid⟩:=x7 g m
 obtain⟨e1,m2,sE,pP,qZ⟩:=ih env (by omega) { m with next:=nx } ho
 have mf:=fun H=>yO env ⟨[117],i,0⟩ H (by omega)
 obtain⟨e2,m3,vX,qx,Y4⟩:=ih (env++[⟨[117],i,0⟩]) (by simp) m2 (by rw[pP];exact ho)
 rw[av] at hid
 simp only[av] at mf
 have nO:([bj e1,bj e2]:List (List AV)).map (fun r=>r.map n1)=[bj e1,bj e2]:=by simp only[apm,apz,show (bj e1).map n1=bj e1 from sE.n1,show (bj e2).map n1=bj e2 from vX.n1]
 refine⟨Gj i 6 0 ⟨0,0,0⟩ [e1,e2] [[117]],m3,gC (by simp[sE,vX]),by rw[qx,pP],bX (fn:=yg) rfl rfl rfl rfl ?_⟩
 unfold yg
 simp(disch:=omega)only[aL,aa,simprocAttr,bS,bV,bA,bW,cH,bu,dL,au,ar,aW,hid,qZ,mf,Y4,au,ar,cy,bB,fY,cK,bT,cq,cE,fJ,yD,nO,bz,strs,Sl]
theorem BA(g:GH c lm ld M D ms ds own H)(n:Int)(env:List Vr)(he:env.length<=900)(ih:∀ u7:List Vr,u7.length<=env.length+2->∀ m,m.own=(own:Int)->tF c H n u7 m)(m:Mk)(ho:m.own=(own:Int)):JT 44 c H 12 n env m:=by
 have bB:=g.ne
 have aU:=g.lt
 have cy:=fun m=>g.open m
 have fY:(bif decide (c.mm<c.mm) then c.mm else c.mm)=c.mm:=by simp
 obtain⟨i,nx,hi,hid⟩:=x7 g m
 obtain⟨e1,m2,sE,pP,qZ⟩:=ih env (by omega) { m with next:=nx } ho
 obtain⟨e2,m3,vX,qx,Y4⟩:=ih env (by omega) m2 (by rw[pP];exact ho)
 have mf:=fun H=>yO env ⟨[120],i,0⟩ H (by omega)
 have afT:=fun H=>yO (env++[⟨[120],i,0⟩]) ⟨[97,99,99],i,1⟩ H (by simp;omega)
 obtain⟨e3,m4,hn3,vY,hx3⟩:=ih (env++[⟨[120],i,0⟩]++[⟨[97,99,99],i,1⟩]) (by simp) m3 (by rw[qx,pP];exact ho)
 rw[av] at hid
 simp only[av] at mf afT
 have nO:([bj e1,bj e2,bj e3]:List (List AV)).map (fun r=>r.map n1)=[bj e1,bj e2,bj e3]:=by simp only[apm,apz,show (bj e1).map n1=bj e1 from sE.n1,show (bj e2).map n1=bj e2 from vX.n1,show (bj e3).map n1=bj e3 from hn3.n1]
 refine⟨Gj i 12 0 ⟨0,0,0⟩ [e1,e2,e3] [[120],[97,99,99]],m4,gC (by simp[sE,vX,hn3]),by rw[vY,qx,pP],bX (fn:=yg) rfl rfl rfl rfl ?_⟩
 unfold yg
 simp(disch:=omega)only[aL,aa,simprocAttr,bS,bV,bA,bW,cH,bu,dL,au,ar,aW,hid,qZ,mf,afT,Y4,hx3,au,ar,cy,bB,fY,cK,bT,cq,cE,fJ,yD,nO,bz,strs,Sl]
theorem sx(g:GH c lm ld M D ms ds own H)(n:Int)(env:List Vr)(he:env.length<=900)(ih:∀ (H' : ah),GH c lm ld M D ms ds own H'->∀ u7:List Vr,u7.length<=env.length+2->∀ m,m.own=(own:Int)->tF c H' n u7 m)(m:Mk)(ho:m.own=(own:Int)):JT 44 c H 10 n env m:=by
 have bB:=g.ne
 have aU:=g.lt
 have cy:=fun m=>g.open m
 have fY:(bif decide (c.mm<c.mm) then c.mm else c.mm)=c.mm:=by simp
 obtain⟨i,nx,hi,hid⟩:=x7 g m
 obtain⟨r,m1,hr,pP,wW⟩:=SY g { m with next:=nx } ho 1 1
 rw[av] at hid
 rcases hr with rfl|⟨d,hd,rfl⟩
 ·refine⟨Gj i 0 7 ⟨0,0,0⟩ [] [],m1,gC (by simp),pP,bX (fn:=yg) rfl rfl rfl rfl ?_⟩
  unfold yg
  rw[zD] at wW
  simp(disch:=omega)only[aL,aa,simprocAttr,hid,wW,au,ar,cy,bB,fY,cK,bT,cq,cE,dg,strs]
 ·obtain⟨AL,NO⟩:=g.sl d hd
  have PB:m1.own=(own:Int):=by rw[pP];exact ho
  have h0:=xw (d:=d)
  have h8:=Ow (d:=d)
  rw[av] at h0
  obtain⟨e1,m2,sE,qx,qZ⟩:=ih H g env (by omega) m1 PB
  have am6:m2.own=(own:Int):=by rw[qx];exact PB
  have key:∃ r,aE A 44 [.ref c.mm 0,.int .i64 10,.slice (dz env) false,.int .i64 n] (cb c m H)=some r/\∃ (e:Ex) (m' : Mk),EN e/\m'.own=m.own/\r=(.agg (bj e),some ⟨cb c m' H,c.mm⟩):=by
   refine rJ (fn:=yg) rfl rfl rfl ?_
   unfold yg
   have YN:∀ m,cb c m H++[cj.box aJ [bj e1].flatten]=cb c m (H++kT [e1]):=fun m=>by rw[pb aU];simp[kT,bz]
   have hk2:∀ m,cb c m H++[cj.box aJ (bj e1)]=cb c m (H++kT [e1]):=fun m=>by rw[pb aU];simp[kT,bz]
   have vi:cC [bj e1]=true:=by unfold cC;simp only[List.all_cons,List.all_nil,bu,Bool.and_self]
   have hk3:∀ m,cb c m H++[cj.box aJ (bj e1++[])]=cb c m (H++kT [e1]):=fun m=>by rw[apR];exact hk2 m
   have Pk:(bif decide (H.length<c.mm) then H.length else c.mm)=c.mm:=by
    rw[apS (by omega)];rfl
   simp(disch:=omega)only[aL,aa,simprocAttr,bS,bV,bA,bW,cH,bu,dL,au,ar,aW,hid,wW,qZ,au,fY,cJ,cQ,cS,cv,dH,h0,h8,YN,hk2,hk3,vi,Pk]
   refine bQ d.aZ.length 0 (fun j s=>∃ T m' q,s=⟨T,cb c m' (H++kT q),c.mm,3⟩/\m'.own=m.own/\q.length=j+1/\(∀ e∈q,EN e)/\T 0=.ref c.mm 0/\T 2=.slice (dz env) false/\T 3=.int .i64 n /\
     T 8=.lbox 0 [.int .i64 0,.int .i64 0,.int .i64 0,.int .i64 0,.int .i64 0,.int .i64 0,.int .i64 0,.int .i64 0,.int .i64 0,.int .i64 0,.int .i64 0,.int .i64 0,.ae,.ae,.ae] /\
     (∃ nm,T 9=.lbox 1 [.int .i64 i.bN,.int .i64 i.seq,.int .i64 i.index,.int .i64 10,.int .i64 0,.int .i64 d.id.bN,.int .i64 d.id.seq,.int .i64 d.id.index,.int .i64 0,.int .i64 0,.int .i64 0,.int .i64 0,.ae,.sref (H.length+(q.length-1)) 0 q.length 15,nm]/\((j=0/\nm=.ae)\/∃ l:List ga,nm=.slice (strs l) true/\l.length<=j)) /\
     T 10=.lbox 2 (bg d)/\T 12=.int .i64 j)
    (fun s=>∃ T m' q,s=⟨T,cb c m' (H++kT q),c.mm,3⟩/\m'.own=m.own/\(q≠[]/\q.length<=100)/\(∀ e∈q,EN e) /\
     T 8=.lbox 0 [.int .i64 0,.int .i64 0,.int .i64 0,.int .i64 0,.int .i64 0,.int .i64 0,.int .i64 0,.int .i64 0,.int .i64 0,.int .i64 0,.int .i64 0,.int .i64 0,.ae,.ae,.ae] /\
     (∃ nm,T 9=.lbox 1 [.int .i64 i.bN,.int .i64 i.seq,.int .i64 i.index,.int .i64 10,.int .i64 0,.int .i64 d.id.bN,.int .i64 d.id.seq,.int .i64 d.id.index,.int .i64 0,.int .i64 0,.int .i64 0,.int .i64 0,.ae,.sref (H.length+(q.length-1)) 0 q.length 15,nm]/\(nm=.ae\/∃ l:List ga,nm=.slice (strs l) true/\l.length<=100)))
    (fun _=>False) ?_ ?_ (fun _ h=>h.elim) 0 _ (by omega) ?_
   ·rintro j s hj ⟨T,m3,q,rfl,vY,hq,fV,e0,e2,e3,e8,⟨nm,e9,su⟩,qs,rN⟩
    by_cases iL:j<d.aZ.length
    ·have hqn:q≠[]:=by intro h;rw[h] at hq;simp at hq
     have g':=g.app (K:=kT q) KG
     have gW:=g'.lt
     have mf:=fun H=>yO env ⟨[118],i,j⟩ H (by omega)
     obtain⟨e4,m4,hn4,ho4,hx4⟩:=ih (H++kT q) g' (env++[⟨[118],i,j⟩]) (by simp) m3 (by rw[vY];exact ho)
     simp only[av] at mf
     have xX:∀ {B:AP} {T:aw} {gen:Nat} {K:AS->Prop} {os:List aj} {t:Nat} {o:Bool},Bs B 15 168 (.sref (H.length+(q.length-1)) 0 q.length 15) (.slice [bj e4] o) t os T (cb c m4 (H++kT q)) c.mm gen K=WO B false os ⟨T.put t (.sref (H.length+((q++[e4]).length-1)) 0 (q++[e4]).length 15),cb c m4 (H++kT (q++[e4])),c.mm,gen⟩ K:=by
      intro B T gen K os t o
      have:=abS (B:=B) (T:=T) (H:=cb c m4 H) (lo:=c.mm) (gen:=gen) (K:=K) (os:=os) (t:=t) (q:=q) (e:=e4) (o:=o) hqn (by omega) (by rw[au];omega)
      rw[au] at this
      rw[pb aU,pb aU,this]
     have UF:∀ x∈q++[e4],EN x:=fun x hx=>(aoX.1 hx).elim (fV x) (fun h=>by rw[ao3.1 h];exact hn4)
     rcases su with ⟨rfl,rfl⟩|⟨l,rfl,hl⟩
     ·simp only[apb] at mf hx4
      have han:bw false 1 16 (.slice [] true) (.slice [[.str [118]]] true)=some (.slice (strs [[118]]) true):=rfl
      simp(disch:=omega)only[aL,aa,simprocAttr,bS,bV,bA,bW,cH,bu,dL,au,ar,aW,cM,bP,apO,apP,ag,cJ,cQ,cS,cv,dH,h8,fh,e0,e2,e3,e8,e9,qs,rN,mf,hx4,xX,han,fY]
      exact⟨iL,_,m4,q++[e4],rfl,by rw[ho4,vY],by simp[hq],UF,by simp(disch:=omega)only[aL,aa,simprocAttr,e0,e2,e3,e8,e9,qs,rN];exact⟨_,rfl,.inr ⟨_,rfl,by simp⟩⟩⟩
     ·have han:bw false 1 16 (.slice (strs l) true) (.slice [[.str [118]]] true)=some (.slice (strs (l++[[118]])) true):=by
       rw[na (z:=1) (fun r hr=>by simp only[strs,apu] at hr;obtain⟨a,_,rfl⟩:=hr;exact⟨rfl,rfl⟩) (dO.one rfl rfl) (by omega) (by simp[strs];omega)];simp[strs]
      simp(disch:=omega)only[aL,aa,simprocAttr,bS,bV,bA,bW,cH,bu,dL,au,ar,aW,cM,bP,apO,apP,ag,cJ,cQ,cS,cv,dH,h8,fh,e0,e2,e3,e8,e9,qs,rN,mf,hx4,xX,han,fY]
      exact⟨iL,_,m4,q++[e4],rfl,by rw[ho4,vY],by simp[hq],UF,by simp(disch:=omega)only[aL,aa,simprocAttr,e0,e2,e3,e8,e9,qs,rN];exact⟨_,rfl,.inr ⟨_,rfl,by simp;omega⟩⟩⟩
    ·have:j=d.aZ.length:=by omega
     subst this
     simp(disch:=omega)only[aL,aa,simprocAttr,bS,bV,bA,bW,cH,bu,dL,au,ar,aW,cJ,cQ,cS,cv,dH,h8,fh,e0,e2,e3,e8,e9,qs,rN]
     exact⟨_,m3,q,rfl,vY,⟨by intro h;rw[h] at hq;simp at hq,by omega⟩,fV,by simp(disch:=omega)only[aL,aa,simprocAttr,e8],nm,by simp(disch:=omega)only[aL,aa,simprocAttr,e9],Or.imp (fun h=>h.2) (fun ⟨l,h,h2⟩=>⟨l,h,by omega⟩) su⟩
   ·rintro s ⟨T,m3,q,rfl,vY,⟨hqn,hql⟩,fV,e8,nm,e9,su⟩
    have g':=g.app (K:=kT q) KG
    obtain⟨l,amR,Ts,hzn,vX,Co⟩:∃ l:List ga,l.length<=100/\nm.drop.drop=nm.drop/\(∀ H b k,dY H b k nm.drop=nm.drop)/\n2 nm.drop=.slice (strs l) false/\(nm.drop).plain=true:=by
     rcases su with rfl|⟨l,rfl,hl2⟩
     ·exact⟨[],by simp,rfl,fun H b k=>by cases k<;>rfl,rfl,rfl⟩
     ·exact⟨l,hl2,rfl,fun H b k=>by cases k<;>rfl,by show AV.slice ((strs l).map fun r=>r.map n1) false=_;rw[kB],rfl⟩
    have hnf:al nm.drop=true:=by rcases su with rfl|⟨l,rfl,_⟩<;>rfl
    simp(disch:=omega)only[aL,aa,simprocAttr,bS,bV,bA,bW,cH,bu,dL,au,ar,aW,e8,e9,Ts,hnf]
    have hz:dY (cb c m3 (H++kT q)) H.length 3 (.sref (H.length+(q.length-1)) 0 q.length 15)=.slice (bz q) false:=by
     have h1:(cb c m3 (H++kT q))[H.length+(q.length-1)]?=some (.box aJ (bz q).flatten):=by
      rw[qf (by omega)];exact R3 hqn
     have:=xU (k:=2) (base:=H.length) (by omega) h1 rfl Il (by omega)
     rwa [pJ] at this
    have td:(([.int .i64 i.bN,.int .i64 i.seq,.int .i64 i.index,.int .i64 10,.int .i64 0,.int .i64 d.id.bN,.int .i64 d.id.seq,.int .i64 d.id.index,.int .i64 0,.int .i64 0,.int .i64 0,.int .i64 0,.ae,.sref (H.length+(q.length-1)) 0 q.length 15,nm.drop]:List AV).map AV.drop).map (dY (cb c m3 (H++kT q)) H.length 3) =
      [.int .i64 i.bN,.int .i64 i.seq,.int .i64 i.index,.int .i64 10,.int .i64 0,.int .i64 d.id.bN,.int .i64 d.id.seq,.int .i64 d.id.index,.int .i64 0,.int .i64 0,.int .i64 0,.int .i64 0,.ae,.slice (bz q) false,nm.drop]:=by
     have hi:∀ n,dY (cb c m3 (H++kT q)) H.length 3 (AV.int .i64 n).drop=.int .i64 n:=fun _=>rfl
     have hni:dY (cb c m3 (H++kT q)) H.length 3 AV.ae.drop=.ae:=rfl
     have IV:dY (cb c m3 (H++kT q)) H.length 3 (AV.sref (H.length+(q.length-1)) 0 q.length 15).drop=.slice (bz q) false:=hz
     simp only[apm,apz,hi,hni,IV,Ts,hzn]
    refine⟨_,L1 (tc:=8) (n:=15) (g:=0) (cs:=[.int .i64 i.bN,.int .i64 i.seq,.int .i64 i.index,.int .i64 10,.int .i64 0,.int .i64 d.id.bN,.int .i64 d.id.seq,.int .i64 d.id.index,.int .i64 0,.int .i64 0,.int .i64 0,.int .i64 0,.ae,.sref (H.length+(q.length-1)) 0 q.length 15,nm.drop]) (out:=bj (Gj i 10 0 d.id q l)) rfl (by decide) (by decide) (by simp[aw.put]) rfl ?_ ?_ ?_,Gj i 10 0 d.id q l,m3,gC fV (by omega) (by omega),vY,?_⟩
    ·exact g.agr m3
    ·show (List.map _ (List.map AV.drop _)).all AV.plain=true
     rw[td]
     simp only[List.all_cons,List.all_nil,Co]
     rfl
    ·show List.map n2 (List.map _ (List.map AV.drop _))=_
     rw[td,cK]
     simp only[apm,apz,cq,cE,fJ,gM fV,vX]
    ·show (_,cond (Nat.beq c.mm H.length) none (some (⟨(cb c m3 (H++kT q)).take H.length,c.mm⟩:fQ)))=_
     rw[bB,g.Zf]
     rfl
   ·exact⟨_,m2,[e1],rfl,by rw[qx,pP],rfl,fun x hx=>by rw[ao3.1 hx];exact sE,by simp(disch:=omega)only[aL,aa,simprocAttr,apb];exact⟨_,rfl,.inl rfl⟩⟩
  obtain⟨r,h1,e,m',h2,h3,rfl⟩:=key
  exact⟨e,m',h2,h3,h1⟩
end
end
section
section
variable {c:Cx}{lm ld:Nat}{M D:List (List AV)}{ms:List Mod}{ds:List Def}{own:Nat}
theorem O3(wE:2<=ds.length):∀ (h:Nat) (H:ah),GH c lm ld M D ms ds own H->∀ (env:List Vr),h<=100->env.length+2*h<=820->∀ m,m.own=(own:Int)->tF c H h env m
 | 0,H,g,env,hh,he,m,ho=>by
  obtain⟨x,p,qY,hx6,fB⟩:=rj g m 16 (by omega)
  exact xK g 0 env m ⟨by omega,by omega⟩ (by omega) x p qY hx6 fB (.inl (by omega))
 | h+1,H,g,env,hh,he,m,ho=>by
  obtain⟨x,p,qY,hx6,fB⟩:=rj g m 16 (by omega)
  by_cases hc:IntKind.i64.wrap (m.left-1)<=0\/x<5
  ·exact xK g _ env m ⟨by omega,by omega⟩ (by omega) x p qY hx6 fB (.inr hc)
  rw[show ((h+1:Nat):Int)=(h:Int)+1 by omega]
  have bB:=g.ne
  have aU:=g.lt
  have cy:=fun m=>g.open m
  have fY:(bif decide (c.mm<c.mm) then c.mm else c.mm)=c.mm:=by simp
  have fE:=fun m=>g.get m
  have dB:=fun (m:Mk) (v:Int)=>G2 (c:=c) (H:=H) m v _ _ g.ph.pm g.ph.pd
  simp only[fu,g.ph.pd,g.ph.pm] at fE
  have fH:=dB { m with pos:=p } (IntKind.i64.wrap (m.left-1))
  have h1:decide ((h:Int)+1<=0)=false:=apS (by omega)
  have h2:decide (IntKind.i64.wrap (m.left-1)<=0)=false:=by simp;omega
  have h3:decide (x<5)=false:=by simp;omega
  have pQ:(h:Int)+1-1=h:=by omega
  have ih:∀ (H' : ah),GH c lm ld M D ms ds own H'->∀ u7:List Vr,u7.length<=env.length+2->∀ m,m.own=(own:Int)->tF c H' h u7 m:=fun H' g' u7 uS m ho=>O3 wE h H' g' u7 (by omega) (by omega) m ho
  have ihH:=ih H g
  have NQ:∀ m,m.own=(own:Int)->tF c H h env m:=fun m ho=>ih H g env (by omega) m ho
  generalize Tv:({ m with pos:=p,left:=IntKind.i64.wrap (m.left-1) } : Mk)=m0 at *
  have zf:m0.own=(own:Int):=by rw[<- Tv];exact ho
  have FT:m0.own=m.own:=by rw[<- Tv]
  have h2:decide (m0.left<=0)=false:=by rw[<- Tv];exact h2
  clear Tv dB
  have hx:x=5\/x=6\/x=7\/x=8\/x=9\/x=10\/x=11\/x=12\/x=13\/x=14\/x=15:=by omega
  rcases hx with rfl|rfl|rfl|rfl|rfl|rfl|rfl|rfl|rfl|rfl|rfl
  ·obtain⟨i,nx,hi,hid⟩:=x7 g m0
   obtain⟨y,p2,Kv,PN,dr⟩:=rj g { m0 with next:=nx } 12 (by omega)
   rw[av] at hid
   by_cases hy:y=9\/y=11
   ·obtain⟨es,m3,qS,fV,vY,jJ⟩:=qg g h env 1 (by omega) (by omega) NQ { m0 with pos:=p2,next:=nx } zf
    have iv:aE A 43 [.ref c.mm 0,.int .i64 1,.slice (dz env) false,.int .i64 h] (cb c { m0 with pos:=p2,next:=nx } H)=some (.slice (bz es) false,some ⟨cb c m3 H,c.mm⟩):=jJ
    have nO:=gM fV
    refine⟨Gj i 4 y ⟨0,0,0⟩ es [],m3,gC fV (by omega),by rw[vY];exact FT,bX (fn:=gX) rfl rfl rfl rfl ?_⟩
    unfold gX
    have hb:(y==9)=true\/((y==9)=false/\(y==11)=true):=by rcases hy with rfl|rfl<;>decide
    rcases hb with hb|⟨hb,iO⟩
    ·simp(disch:=omega)only[aL,aa,simprocAttr,bS,bV,bA,bW,cH,bu,dL,au,ar,aW,fB,fE,fH,h1,h2,h3,au,ar,cy,bB,fY,aY,pQ,strs,bT,cq,cE,fJ,hid,dr,hb,iv,nO,cK]
    ·simp(disch:=omega)only[aL,aa,simprocAttr,bS,bV,bA,bW,cH,bu,dL,au,ar,aW,fB,fE,fH,h1,h2,h3,au,ar,cy,bB,fY,aY,pQ,strs,bT,cq,cE,fJ,hid,dr,hb,iO,iv,nO,cK]
   ·obtain⟨es,m3,qS,fV,vY,jJ⟩:=qg g h env 2 (by omega) (by omega) NQ { m0 with pos:=p2,next:=nx } zf
    have iv:aE A 43 [.ref c.mm 0,.int .i64 2,.slice (dz env) false,.int .i64 h] (cb c { m0 with pos:=p2,next:=nx } H)=some (.slice (bz es) false,some ⟨cb c m3 H,c.mm⟩):=jJ
    have nO:=gM fV
    have hb:(y==9)=false:=by simp;omega
    have iO:(y==11)=false:=by simp;omega
    refine⟨Gj i 4 y ⟨0,0,0⟩ es [],m3,gC fV (by omega),by rw[vY];exact FT,bX (fn:=gX) rfl rfl rfl rfl ?_⟩
    unfold gX
    simp(disch:=omega)only[aL,aa,simprocAttr,bS,bV,bA,bW,cH,bu,dL,au,ar,aW,fB,fE,fH,h1,h2,h3,au,ar,cy,bB,fY,aY,pQ,strs,bT,cq,cE,fJ,hid,dr,hb,iO,iv,nO,cK]
  ·obtain⟨i,nx,hi,hid⟩:=x7 g m0
   obtain⟨y,p2,Kv,PN,dr⟩:=rj g { m0 with next:=nx } 12 (by omega)
   rw[av] at hid
   by_cases hy:y=9\/y=11
   ·obtain⟨es,m3,qS,fV,vY,jJ⟩:=qg g h env 1 (by omega) (by omega) NQ { m0 with pos:=p2,next:=nx } zf
    have iv:aE A 43 [.ref c.mm 0,.int .i64 1,.slice (dz env) false,.int .i64 h] (cb c { m0 with pos:=p2,next:=nx } H)=some (.slice (bz es) false,some ⟨cb c m3 H,c.mm⟩):=jJ
    have nO:=gM fV
    refine⟨Gj i 4 y ⟨0,0,0⟩ es [],m3,gC fV (by omega),by rw[vY];exact FT,bX (fn:=gX) rfl rfl rfl rfl ?_⟩
    unfold gX
    have hb:(y==9)=true\/((y==9)=false/\(y==11)=true):=by rcases hy with rfl|rfl<;>decide
    rcases hb with hb|⟨hb,iO⟩
    ·simp(disch:=omega)only[aL,aa,simprocAttr,bS,bV,bA,bW,cH,bu,dL,au,ar,aW,fB,fE,fH,h1,h2,h3,au,ar,cy,bB,fY,aY,pQ,strs,bT,cq,cE,fJ,hid,dr,hb,iv,nO,cK]
    ·simp(disch:=omega)only[aL,aa,simprocAttr,bS,bV,bA,bW,cH,bu,dL,au,ar,aW,fB,fE,fH,h1,h2,h3,au,ar,cy,bB,fY,aY,pQ,strs,bT,cq,cE,fJ,hid,dr,hb,iO,iv,nO,cK]
   ·obtain⟨es,m3,qS,fV,vY,jJ⟩:=qg g h env 2 (by omega) (by omega) NQ { m0 with pos:=p2,next:=nx } zf
    have iv:aE A 43 [.ref c.mm 0,.int .i64 2,.slice (dz env) false,.int .i64 h] (cb c { m0 with pos:=p2,next:=nx } H)=some (.slice (bz es) false,some ⟨cb c m3 H,c.mm⟩):=jJ
    have nO:=gM fV
    have hb:(y==9)=false:=by simp;omega
    have iO:(y==11)=false:=by simp;omega
    refine⟨Gj i 4 y ⟨0,0,0⟩ es [],m3,gC fV (by omega),by rw[vY];exact FT,bX (fn:=gX) rfl rfl rfl rfl ?_⟩
    unfold gX
    simp(disch:=omega)only[aL,aa,simprocAttr,bS,bV,bA,bW,cH,bu,dL,au,ar,aW,fB,fE,fH,h1,h2,h3,au,ar,cy,bB,fY,aY,pQ,strs,bT,cq,cE,fJ,hid,dr,hb,iO,iv,nO,cK]
  ·obtain⟨i,nx,hi,hid⟩:=x7 g m0
   rw[av] at hid
   obtain⟨es,m3,qS,fV,vY,jJ⟩:=qg g h env 3 (by omega) (by omega) NQ { m0 with next:=nx } zf
   have iv:aE A 43 [.ref c.mm 0,.int .i64 3,.slice (dz env) false,.int .i64 h] (cb c { m0 with next:=nx } H)=some (.slice (bz es) false,some ⟨cb c m3 H,c.mm⟩):=jJ
   have nO:=gM fV
   refine⟨Gj i 5 0 ⟨0,0,0⟩ es [],m3,gC fV (by omega),by rw[vY];exact FT,bX (fn:=gX) rfl rfl rfl rfl ?_⟩
   unfold gX
   simp(disch:=omega)only[aL,aa,simprocAttr,bS,bV,bA,bW,cH,bu,dL,au,ar,aW,fB,fE,fH,h1,h2,h3,au,ar,cy,bB,fY,aY,pQ,strs,bT,cq,cE,fJ,hid,iv,nO,cK]
  ·obtain⟨i,nx,hi,hid⟩:=x7 g m0
   rw[av] at hid
   obtain⟨t,m1,ht,_,pP,qV⟩:=abU g { m0 with next:=nx } wE
   obtain⟨y,p2,Kv,PN,dr⟩:=rj g m1 3 (by omega)
   have PL:=ht
   obtain⟨Ty,Hn,ht3⟩:=ht
   have htd:=jH Hn
   have htf:=lU Hn
   have htt:t.take 5=t:=apM (by omega)
   have ze:=fun b=>CM Hn b
   rcases t with _|⟨t0,_|⟨t1,_|⟨t2,_|⟨t3,_|⟨t4,_|⟨t5,tr⟩⟩⟩⟩⟩⟩
   all_goals try (simp at Ty;done)
   have dq:=Hn
   simp only[List.all_cons,List.all_nil,Bool.and_true,Bool.and_eq_true] at dq
   obtain⟨k0,k1,k2,k3,k4⟩:=dq
   have d0:=bL k0
   have d1:=bL k1
   have d2:=bL k2
   have d3:=bL k3
   have d4:=bL k4
   have f0:=bU k0
   have f1:=bU k1
   have f2:=bU k2
   have f3:=bU k3
   have f4:=bU k4
   have o0:=fun b=>dU (bH k0) b
   have o1:=fun b=>dU (bH k1) b
   have o2:=fun b=>dU (bH k2) b
   have o3:=fun b=>dU (bH k3) b
   have o4:=fun b=>dU (bH k4) b
   have vX:=ht3
   simp only[apm,apz,aqd,aqe] at vX
   obtain⟨n0,n1',n2',n3',n4'⟩:=vX
   have hy:y=0\/y=1\/y=2:=by omega
   rcases hy with rfl|rfl|rfl
   ·obtain⟨o,jJ⟩:=Ya (c:=c) h env (cb c { m1 with pos:=p2 } H) .undef
    cases o
    all_goals
     refine⟨CE i 11 0 ⟨0,0,0⟩ [t0,t1,t2,t3,t4] PL [] [],{ m1 with pos:=p2 },gC (by simp),by rw[<- FT];exact pP,bX (fn:=gX) rfl rfl rfl rfl ?_⟩
     unfold gX
     simp(disch:=omega)only[aL,aa,simprocAttr,bS,bV,bA,bW,cH,bu,dL,au,ar,aW,fB,fE,fH,h1,h2,h3,au,ar,cy,bB,fY,aY,pQ,strs,bT,cq,cE,fJ,yD,jJ,hid,qV,dr,lK,d0,d1,d2,d3,d4,f0,f1,f2,f3,f4,o0,o1,o2,o3,o4,n0,n1',n2',n3',n4',apj,apv,dg]
     try (rw[lK];simp only[apj,apv,dg,strs,apz])
   ·obtain⟨es,m3,qS,fV,vY,jJ⟩:=qg g h env 1 (by omega) (by omega) NQ { m1 with pos:=p2 } (by rw[<- zf];exact pP)
    have iv:aE A 43 [.ref c.mm 0,.int .i64 1,.slice (dz env) false,.int .i64 h] (cb c { m1 with pos:=p2 } H)=some (.slice (bz es) false,some ⟨cb c m3 H,c.mm⟩):=jJ
    have nO:=gM fV
    refine⟨CE i 11 0 ⟨0,0,0⟩ [t0,t1,t2,t3,t4] PL es [],m3,gC fV (by omega),by rw[vY,<- FT];exact pP,bX (fn:=gX) rfl rfl rfl rfl ?_⟩
    unfold gX
    simp(disch:=omega)only[aL,aa,simprocAttr,bS,bV,bA,bW,cH,bu,dL,au,ar,aW,fB,fE,fH,h1,h2,h3,au,ar,cy,bB,fY,aY,pQ,strs,bT,cq,cE,fJ,yD,iv,nO,hid,qV,dr,lK,d0,d1,d2,d3,d4,f0,f1,f2,f3,f4,o0,o1,o2,o3,o4,n0,n1',n2',n3',n4',apj,apv,dg]
    try (rw[lK];simp only[apj,apv,dg,strs,apz])
   ·obtain⟨es,m3,qS,fV,vY,jJ⟩:=qg g h env 2 (by omega) (by omega) NQ { m1 with pos:=p2 } (by rw[<- zf];exact pP)
    have iv:aE A 43 [.ref c.mm 0,.int .i64 2,.slice (dz env) false,.int .i64 h] (cb c { m1 with pos:=p2 } H)=some (.slice (bz es) false,some ⟨cb c m3 H,c.mm⟩):=jJ
    have nO:=gM fV
    refine⟨CE i 11 0 ⟨0,0,0⟩ [t0,t1,t2,t3,t4] PL es [],m3,gC fV (by omega),by rw[vY,<- FT];exact pP,bX (fn:=gX) rfl rfl rfl rfl ?_⟩
    unfold gX
    simp(disch:=omega)only[aL,aa,simprocAttr,bS,bV,bA,bW,cH,bu,dL,au,ar,aW,fB,fE,fH,h1,h2,h3,au,ar,cy,bB,fY,aY,pQ,strs,bT,cq,cE,fJ,yD,iv,nO,hid,qV,dr,lK,d0,d1,d2,d3,d4,f0,f1,f2,f3,f4,o0,o1,o2,o3,o4,n0,n1',n2',n3',n4',apj,apv,dg]
    try (rw[lK];simp only[apj,apv,dg,strs,apz])
  ·obtain⟨e,m2,fV,qx,hx⟩:=BA g h env (by omega) ihH m0 zf
   have nO:(bj e).map n2=bj e:=fV.n
   refine⟨e,m2,fV,by rw[qx];exact FT,bX (fn:=gX) rfl rfl rfl rfl ?_⟩
   unfold gX
   simp(disch:=omega)only[aL,aa,simprocAttr,bS,bV,bA,bW,cH,bu,dL,au,ar,aW,fB,fE,fH,h1,h2,h3,au,ar,cy,bB,fY,aY,pQ,strs,bT,hx,nO]
  ·obtain⟨e,m2,fV,qx,hx⟩:=sx g h env (by omega) ih m0 zf
   have nO:(bj e).map n2=bj e:=fV.n
   refine⟨e,m2,fV,by rw[qx];exact FT,bX (fn:=gX) rfl rfl rfl rfl ?_⟩
   unfold gX
   simp(disch:=omega)only[aL,aa,simprocAttr,bS,bV,bA,bW,cH,bu,dL,au,ar,aW,fB,fE,fH,h1,h2,h3,au,ar,cy,bB,fY,aY,pQ,strs,bT,hx,nO]
  ·obtain⟨e,m2,fV,qx,hx⟩:=sx g h env (by omega) ih m0 zf
   have nO:(bj e).map n2=bj e:=fV.n
   refine⟨e,m2,fV,by rw[qx];exact FT,bX (fn:=gX) rfl rfl rfl rfl ?_⟩
   unfold gX
   simp(disch:=omega)only[aL,aa,simprocAttr,bS,bV,bA,bW,cH,bu,dL,au,ar,aW,fB,fE,fH,h1,h2,h3,au,ar,cy,bB,fY,aY,pQ,strs,bT,hx,nO]
  ·obtain⟨y,p2,Kv,PN,dr⟩:=rj g m0 2 (by omega)
   have hy:y=0\/y=1:=by omega
   rcases hy with rfl|rfl
   ·obtain⟨e,m2,fV,qx,hx⟩:=re g 7 h env NQ { m0 with pos:=p2 } zf
    have nO:(bj e).map n2=bj e:=fV.n
    refine⟨e,m2,fV,by rw[qx];exact FT,bX (fn:=gX) rfl rfl rfl rfl ?_⟩
    unfold gX
    simp(disch:=omega)only[aL,aa,simprocAttr,bS,bV,bA,bW,cH,bu,dL,au,ar,aW,fB,fE,fH,h1,h2,h3,au,ar,cy,bB,fY,aY,pQ,strs,bT,hx,nO,dr,ao4,apf]
   ·obtain⟨e,m2,fV,qx,hx⟩:=re g 8 h env NQ { m0 with pos:=p2 } zf
    have nO:(bj e).map n2=bj e:=fV.n
    refine⟨e,m2,fV,by rw[qx];exact FT,bX (fn:=gX) rfl rfl rfl rfl ?_⟩
    unfold gX
    simp(disch:=omega)only[aL,aa,simprocAttr,bS,bV,bA,bW,cH,bu,dL,au,ar,aW,fB,fE,fH,h1,h2,h3,au,ar,cy,bB,fY,aY,pQ,strs,bT,hx,nO,dr,ao4,apf]
  ·obtain⟨y,p2,Kv,PN,dr⟩:=rj g m0 2 (by omega)
   have hy:y=0\/y=1:=by omega
   rcases hy with rfl|rfl
   ·obtain⟨e,m2,fV,qx,hx⟩:=re g 9 h env NQ { m0 with pos:=p2 } zf
    have nO:(bj e).map n2=bj e:=fV.n
    refine⟨e,m2,fV,by rw[qx];exact FT,bX (fn:=gX) rfl rfl rfl rfl ?_⟩
    unfold gX
    simp(disch:=omega)only[aL,aa,simprocAttr,bS,bV,bA,bW,cH,bu,dL,au,ar,aW,fB,fE,fH,h1,h2,h3,au,ar,cy,bB,fY,aY,pQ,strs,bT,hx,nO,dr,ao4,apf]
   ·obtain⟨e,m2,fV,qx,hx⟩:=re g 3 h env NQ { m0 with pos:=p2 } zf
    have nO:(bj e).map n2=bj e:=fV.n
    refine⟨e,m2,fV,by rw[qx];exact FT,bX (fn:=gX) rfl rfl rfl rfl ?_⟩
    unfold gX
    simp(disch:=omega)only[aL,aa,simprocAttr,bS,bV,bA,bW,cH,bu,dL,au,ar,aW,fB,fE,fH,h1,h2,h3,au,ar,cy,bB,fY,aY,pQ,strs,bT,hx,nO,dr,ao4,apf]
  ·obtain⟨e,m2,fV,qx,hx⟩:=re g 3 h env NQ m0 zf
   have nO:(bj e).map n2=bj e:=fV.n
   refine⟨e,m2,fV,by rw[qx];exact FT,bX (fn:=gX) rfl rfl rfl rfl ?_⟩
   unfold gX
   simp(disch:=omega)only[aL,aa,simprocAttr,bS,bV,bA,bW,cH,bu,dL,au,ar,aW,fB,fE,fH,h1,h2,h3,au,ar,cy,bB,fY,aY,pQ,strs,bT,hx,nO]
  ·obtain⟨e,m2,fV,qx,hx⟩:=DF g h env (by omega) ihH m0 zf
   have nO:(bj e).map n2=bj e:=fV.n
   refine⟨e,m2,fV,by rw[qx];exact FT,bX (fn:=gX) rfl rfl rfl rfl ?_⟩
   unfold gX
   simp(disch:=omega)only[aL,aa,simprocAttr,bS,bV,bA,bW,cH,bu,dL,au,ar,aW,fB,fE,fH,h1,h2,h3,au,ar,cy,bB,fY,aY,pQ,strs,bT,hx,nO]
end
end
section
def wP(rows:List (List AV)):ah:=match rows with|[]=>[]|_=>List.replicate (rows.length-1) .dead++[.box aJ rows.flatten]
def aA(base z:Nat)(rows:List (List AV)):AV:=match rows with|[]=>.ae|_=>.sref (base+rows.length) 0 rows.length z
theorem pv{rows:List (List AV)} : (wP rows).length=rows.length:=by cases rows<;>simp[wP]
theorem J1{rows:List (List AV)} : ∀ o∈wP rows,cj.shut o=true:=by
 intro o ho
 cases rows with
 | nil=>simp[wP] at ho
 | cons r rows =>
  rcases aoX.1 ho with h|h
  ·rw[(List.mem_replicate.1 h).2];rfl
  ·rw[ao3.1 h];rfl
theorem JZ{rows:List (List AV)}(h:rows≠[]):(wP rows)[rows.length-1]?=some (.box aJ rows.flatten):=by
 cases rows with
 | nil=>exact absurd rfl h
 | cons r rows=>simp[wP]
theorem N3{rows Be:List (List AV)}(h:rows≠[])(hl:Be.length=rows.length):(wP rows).set (rows.length-1) (.box aJ Be.flatten)=wP Be:=by
 cases rows with
 | nil=>exact absurd rfl h
 | cons r rows =>
  cases Be with
  | nil=>simp at hl
  | cons r' Be =>
   have:Be.length=rows.length:=by simpa using hl
   simp[wP,this]
theorem J0{rows:List (List AV)}{r:List AV}(h:rows≠[]):(wP rows).set (rows.length-1) .dead++[.box aJ (rows.flatten++r)]=wP (rows++[r]):=by
 cases rows with
 | nil=>exact absurd rfl h
 | cons q rows =>
  have:(wP (q :: rows)).set ((q :: rows).length-1) .dead=List.replicate (rows.length+1) .dead:=by
   simp[wP,List.replicate_succ']
  rw[this]
  simp[wP]
theorem jc{base z:Nat}{rows:List (List AV)}(h:rows≠[]):aA base z rows=.sref (base+rows.length) 0 rows.length z:=by
 cases rows with
 | nil=>exact absurd rfl h
 | cons r rows=>rfl
def pC(H:ah)(l:List Int)(M D:List (List AV)):Cx:=⟨H.length,.sref (H.length+M.length) 0 M.length 6,aA (H.length+M.length) 31 D,l⟩
def pH(H:ah)(l:List Int)(m:Mk)(M D:List (List AV)):ah:=H++.ca (fu (pC H l M D) m) :: (wP M++wP D)
section
variable {H:ah}{l:List Int}{m m' : Mk}{M D:List (List AV)}
theorem mj:(pH H l m M D).length=H.length+1+M.length+D.length:=by simp[pH,pv];omega
theorem lW:(pH H l m M D)[H.length]?=some (.ca (fu (pC H l M D) m)):=by simp[pH]
theorem sK(hM:M≠[]):(pH H l m M D)[H.length+M.length]?=some (.box aJ M.flatten):=by
 have:0<M.length:=apF.2 hM
 rw[pH,ao5 (by omega),show H.length+M.length-H.length=(M.length-1)+1 by omega,apf,ao7 (by rw[pv];omega)]
 exact JZ hM
theorem sJ(hD:D≠[]):(pH H l m M D)[H.length+M.length+D.length]?=some (.box aJ D.flatten):=by
 have:0<D.length:=apF.2 hD
 rw[pH,ao5 (by omega),show H.length+M.length+D.length-H.length=(M.length+(D.length-1))+1 by omega,apf,ao5 (by rw[pv];omega),pv,Nat.add_sub_cancel_left]
 exact JZ hD
theorem KS:(pH H l m M D).set H.length (.ca (fu (pC H l M D) m'))=pH H l m' M D:=by
 rw[pH,apx _ _ (by omega),apW,List.set_cons_zero];rfl
theorem pZ:cb (pC H l M D) m' (pH H l m M D)=pH H l m' M D:=KS
theorem aj'{M' : List (List AV)}(h:M'.length=M.length):pC H l M' D=pC H l M D:=by unfold pC;rw[h]
theorem Zr{base z:Nat}{D' : List (List AV)}(h:D'.length=D.length):aA base z D'=aA base z D:=by
 cases D<;>cases D'<;>simp_all [aA]
theorem aj9{D' : List (List AV)}(h:D'.length=D.length):pC H l M D'=pC H l M D:=by unfold pC;rw[Zr h]
theorem r8{M' : List (List AV)}(hM:M≠[])(h:M'.length=M.length):(pH H l m M D).set (H.length+M.length) (.box aJ M'.flatten)=pH H l m M' D:=by
 have:0<M.length:=apF.2 hM
 rw[pH,apx _ _ (by omega),show H.length+M.length-H.length=(M.length-1)+1 by omega,List.set_cons_succ,List.set_append_left _ _ (by rw[pv];omega),N3 hM h,pH,aj' h]
theorem CP{D' : List (List AV)}(hD:D≠[])(h:D'.length=D.length):(pH H l m M D).set (H.length+M.length+D.length) (.box aJ D'.flatten)=pH H l m M D':=by
 have:0<D.length:=apF.2 hD
 rw[pH,apx _ _ (by omega),show H.length+M.length+D.length-H.length=(M.length+(D.length-1))+1 by omega,List.set_cons_succ,apx _ _ (by rw[pv];omega),pv,Nat.add_sub_cancel_left,N3 hD h,pH,aj9 h]
theorem W7:∀ o∈wP M++wP D,cj.shut o=true:=fun o ho=>(aoX.1 ho).elim (J1 o) (J1 o)
theorem A'(hl:∀ n∈l,pr n):MH (pC H l M D) m (pH H l m M D):=by
 have hd:(pC H l M D).pd=.ae\/∃ a n z,(pC H l M D).pd=.sref a 0 n z/\a<(pH H l m M D).length:=by
  cases D with
  | nil=>exact .inl rfl
  | cons r D=>exact .inr ⟨_,_,_,rfl,by rw[mj];simp only[List.length_cons];omega⟩
 refine⟨lW,?_,hl,.inr ⟨_,_,_,rfl,by rw[mj];omega⟩,hd⟩
 intro j cs hj fi
 have iL:H.length<=j:=hj
 by_cases e:j=H.length
 ·subst e
  rw[lW] at fi
  cases fi
  have h1:AV.aG (pH H l m M D).length (pC H l M D).pm=true:=by
   show Nat.blt (H.length+M.length) _=true
   rw[api,mj];omega
  have h2:AV.aG (pH H l m M D).length (pC H l M D).pd=true:=by
   rcases hd with e|⟨a,n,z,e,h⟩
   ·rw[e];rfl
   ·rw[e];show Nat.blt a _=true;rw[api];exact h
  simp only[fu,List.all_cons,List.all_nil,h1,h2,aql]
  rfl
 ·exfalso
  rw[pH,ao5 iL,show j-H.length=(j-H.length-1)+1 by omega,apf] at fi
  have:=W7 _ (ao0 fi)
  simp[cj.shut] at this
end
def pX(H:ah)(l:List Int)(m:Mk)(M D:List (List AV))(r:List AV):ah:=H++.ca (fu (pC H l M D) m) :: (wP M++wP (D++[r]))
theorem agt{H:ah}{l:List Int}{m:Mk}{M D:List (List AV)}{r:List AV} : (pX H l m M D r)[H.length]?=some (.ca (fu (pC H l M D) m)):=by simp[pX]
theorem acr{H:ah}{l:List Int}{m:Mk}{M D:List (List AV)}{r:List AV} : (pX H l m M D r).set H.length (.ca (fu (pC H l M (D++[r])) m))=pH H l m M (D++[r]):=by
 rw[pX,apx _ _ (by omega),apW,List.set_cons_zero];rfl
theorem acq{B:AP}{T:aw}{H:ah}{l:List Int}{m:Mk}{M D:List (List AV)}{r:List AV}{gen t:Nat}{K:AS->Prop}{os:List aj}{o:Bool}(hw:∀ q∈D,q.length=31)(hr:r.length=31)(hp:r.all AV.plain=true)(hD:D.length<=1000) :
  Bs B 31 352 (aA (H.length+M.length) 31 D) (.slice [r] o) t os T (pH H l m M D) H.length gen K=WO B false os ⟨T.put t (.sref (H.length+M.length+(D++[r]).length) 0 (D++[r]).length 31),pX H l m M D r,H.length,gen⟩ K:=by
 have vi:cC [r]=true:=by unfold cC;simp only[List.all_cons,List.all_nil,hp,Bool.and_self]
 have hlen:=mj (H:=H) (l:=l) (m:=m) (M:=M) (D:=D)
 have hb:∀ x,Nat.blt (H.length+x) H.length=false:=fun x=>by
  cases h:Nat.blt (H.length+x) H.length with
  | true=>have:=Nat.le_of_ble_eq_true h;omega
  | false=>rfl
 cases D with
 | nil =>
  show Bs B 31 352 .ae _ t os T _ _ gen K=_
  rw[Zt (by unfold cw;simp[fR,hr]) vi,hlen]
  simp only[List.length_nil,ap6]
  rw[show H.length+1+M.length=H.length+(1+M.length) by omega,hb]
  simp only[aoZ,pH,pX,wP,apR,ap',apj,apv,apt,List.length_nil,Nat.zero_add,apJ,arp,List.length_cons,apW,List.replicate_zero]
  rw[show H.length+(1+M.length)=H.length+M.length+1 by omega]
 | cons q D =>
  show Bs B 31 352 (.sref (H.length+M.length+(q :: D).length) 0 (q :: D).length 31) _ t os T _ _ gen K=_
  have qw:(q :: D).flatten.length=(q :: D).length*31:=dp hw
  rw[wQ (sJ (by simp)) qw (by simp only[List.length_cons,List.length_nil] at *;omega) (by simp only[List.length_cons,List.length_nil] at *;omega) (by unfold fR;simp[hr]) vi,hlen]
  have dB:(pH H l m M (q :: D)).set (H.length+M.length+(q :: D).length) .dead++[.box aJ ((q :: D).flatten++[r].flatten)]=pX H l m M (q :: D) r:=by
   have h1:=J0 (rows:=q :: D) (r:=r) (by simp)
   rw[pH,apx _ _ (by omega),show H.length+M.length+(q :: D).length-H.length=(M.length+((q :: D).length-1))+1 by simp;omega,List.set_cons_succ,apx _ _ (by rw[pv];omega),pv,Nat.add_sub_cancel_left,pX,<- h1]
   simp only[ap',apj,apJ,arp,apR]
  have iO:=hb (M.length+(q :: D).length)
  rw[<- aqu] at iO
  rw[dB,iO]
  simp only[aoZ,ao6,apt,List.length_cons,List.length_nil]
  rw[show H.length+1+M.length+(D.length+1)=H.length+M.length+(D.length+1+(0+1)) by omega]
end
section
def hN:bJ->bJ
 | .seq a _=>a
 | c=>c
def cm:bJ->bJ
 | .seq _ b=>b
 | c=>c
def n4:bJ:=cm iz.body
def n5:bJ:=cm n4
def n6:bJ:=cm n5
def n7:bJ:=cm n6
def n8:bJ:=cm n7
def n9:bJ:=cm n8
def mB:bJ:=cm n9
def wq:bJ:=cm mB
def vw:bJ:=cm wq
def SN:bJ:=cm vw
def p8:bJ:=hN mB
def p9:bJ:=hN wq
def p10:bJ:=hN vw
def KN(P:AS->Prop):bp->AS->Prop
 | .normal,s=>P s
 | _,_=>False
theorem JW{B:AP}{a b:bJ}{s:AS}{Q:bp->AS->Prop}{P:AS->Prop}(h1:W B a s (KN P))(h2:∀ s',P s'->W B b s' Q):W B (.seq a b) s Q:=by
 rw[Zh]
 refine Hp h1 fun e s' hs=>?_
 cases e with
 | normal=>exact h2 s' hs
 | _=>exact hs.elim
def ji:ga:=[99,111,114,101]
def jL:ga:=[109,105,108,108]
def du:List Int:=[0,1,2,2,4,5,3,0]
def iA:List ga:=[[80,111,105,110,116],[69,118,101,110,116],[102],[103],[116],[99],[115,116,101,112],[83,116,97,116,101]]
def Gm(i:Id)(name:ga)(fX:List Id)(ids:List Id):List AV:=av i++[.str name,sW fX,match ids with|[]=>.ae|_=>.slice (aF ids) true]
def aD(two:Bool)(l0 l1:List Id):List (List AV):=Gm (kP 0) ji [] l0 :: (if two then [Gm (kP 1) jL [kP 0] l1] else [])
theorem Gn{i:Id}{name:ga}{u d:List Id} : (Gm i name u d).length=6:=by simp[Gm,av]
theorem Jl{two:Bool}{l0 l1:List Id} : ∀ r∈aD two l0 l1,r.length=6:=by
 intro r hr
 cases two<;>simp[aD] at hr
 ·rw[hr,Gn]
 ·rcases hr with rfl|rfl<;>rw[Gn]
theorem fI{two:Bool}{l0 l1:List Id} : aD two l0 l1≠[]:=by simp[aD]
def Pre(H:ah)(l:List Int)(s:AS):Prop:=∃ T m two many,s=⟨T,pH H l m (aD two [] []) [],H.length,1⟩/\m.next=((aD two [] []).length:Nat)/\4<=many/\many<=8 /\
 T 2=.lbox 0 [.ae,.ae]/\T 3=.ref H.length 0/\T 4=.int .i64 (many:Nat)/\T 5=.slice (ints du) true/\T 6=.slice (strs iA) true
theorem acH{B:AP}{T:aw}{H:ah}{lo gen t:Nat}{os:List aj}{K:AS->Prop}{x:an} : WO B false (⟨some t,none,.BB x⟩ :: os) ⟨T,H,lo,gen⟩ K =
  bf ((x.eval B.aN T).drop.cells.bind fun cs=>cond (cs.all al) (some cs) none) fun cs=>WO B false os ⟨T.put t (.ref H.length 0),H++[.ca (cs.map AV.drop)],cond (Nat.blt H.length lo) H.length lo,gen⟩ K:=by
 rw[nJ rfl]
 simp only[aq]
 cases (x.eval B.aN T).drop.cells with
 | none=>simp[bf]
 | some cs =>
  simp only[aoW]
  cases cs.all al with
  | false=>simp[bf]
  | true=>simp only[cond_true,aB];rfl
def pY(H:ah)(l:List Int)(m:Mk)(M:List (List AV))(r:List AV):ah:=H++.ca (fu (pC H l M []) m) :: wP (M++[r])
theorem agu{H:ah}{l:List Int}{m:Mk}{M:List (List AV)}{r:List AV} : (pY H l m M r)[H.length]?=some (.ca (fu (pC H l M []) m)):=by simp[pY]
theorem acu{H:ah}{l:List Int}{m:Mk}{M:List (List AV)}{r:List AV} : (pY H l m M r).set H.length (.ca (fu (pC H l (M++[r]) []) m))=pH H l m (M++[r]) []:=by
 rw[pY,apx _ _ (by omega),apW,List.set_cons_zero,pH]
 simp[wP]
theorem acs{B:AP}{T:aw}{H:ah}{l:List Int}{m:Mk}{M:List (List AV)}{r:List AV}{gen t:Nat}{K:AS->Prop}{os:List aj}{o:Bool}(hM:M≠[])(hw:∀ q∈M,q.length=6)(hr:r.length=6)(hp:r.all AV.plain=true)(hD:M.length<=1000) :
  Bs B 6 88 (.sref (H.length+M.length) 0 M.length 6) (.slice [r] o) t os T (pH H l m M []) H.length gen K=WO B false os ⟨T.put t (.sref (H.length+(M++[r]).length) 0 (M++[r]).length 6),pY H l m M r,H.length,gen⟩ K:=by
 have vi:cC [r]=true:=by unfold cC;simp only[List.all_cons,List.all_nil,hp,Bool.and_self]
 have hlen:=mj (H:=H) (l:=l) (m:=m) (M:=M) (D:=[])
 have h0:0<M.length:=apF.2 hM
 have hb:Nat.blt (H.length+M.length) H.length=false:=by
  cases h:Nat.blt (H.length+M.length) H.length with
  | true=>have:=Nat.le_of_ble_eq_true h;omega
  | false=>rfl
 have qw:M.flatten.length=M.length*6:=dp hw
 rw[wQ (sK hM) qw (by simp only[List.length_cons,List.length_nil] at *;omega) (by simp only[List.length_cons,List.length_nil] at *;omega) (by unfold fR;simp[hr]) vi,hlen,hb]
 have dB:(pH H l m M []).set (H.length+M.length) .dead++[.box aJ (M.flatten++[r].flatten)]=pY H l m M r:=by
  have h1:=J0 (rows:=M) (r:=r) hM
  have hn:wP ([]:List (List AV))=[]:=rfl
  rw[pH,apx _ _ (by omega),show H.length+M.length-H.length=(M.length-1)+1 by omega,List.set_cons_succ,hn,apR,pY,<- h1]
  simp only[ap',apj,apJ,arp,apR]
 rw[dB]
 simp only[aoZ,ao6,apt,List.length_cons,List.length_nil,ap6]
 rw[show H.length+1+M.length=H.length+(M.length+1) by omega]
section
variable {H:ah}{l:List Int}{M D:List (List AV)}
theorem yH(hl:∀ n∈l,pr n)(m:Mk)(n:Int)(hn:0<n):∃ x p,0<=x/\x<n/\aE A 17 [.ref H.length 0,.int .i64 n] (pH H l m M D)=some (.int .i64 x,some ⟨pH H l { m with pos:=p } M D,H.length⟩):=by
 obtain⟨x,p,h1,h2,h3⟩:=KK (A' hl (m:=m) (M:=M) (D:=D) (H:=H)) n hn
 rw[pZ] at h3
 exact⟨x,p,h1,h2,h3⟩
theorem agf(hl:∀ n∈l,pr n)(m:Mk)(hn:0<=m.next/\m.next<=1000000):aE A 16 [.ref H.length 0] (pH H l m M D)=some (.agg (av (kP m.next)),some ⟨pH H l { m with next:=m.next+1 } M D,H.length⟩):=by
 have h3:=age (A' hl (m:=m) (M:=M) (D:=D) (H:=H)) hn
 rw[pZ] at h3
 exact h3
theorem agd(hl:∀ n∈l,pr n)(m:Mk):∃ (i:Id) (x:Int),i.bN=0/\aE A 16 [.ref H.length 0] (pH H l m M D)=some (.agg (av i),some ⟨pH H l { m with next:=x } M D,H.length⟩):=by
 obtain⟨i,x,h1,h3⟩:=Y6 (A' hl (m:=m) (M:=M) (D:=D) (H:=H))
 rw[pZ] at h3
 exact⟨i,x,h1,h3⟩
end
theorem agw(l:List Int)(H:ah)(hl:∀ n∈l,pr n)(Q:bp->AS->Prop)(h:∀ s,Pre H l s->W A mB s Q):W A iz.body { T:=gn [.slice (ints l) false],H,lo:=H.length,gen:=0 } Q:=by
 have fY:(bif decide (H.length<H.length) then H.length else H.length)=H.length:=by simp
 have h1:MH ⟨H.length,.ae,.ae,l⟩ ⟨0,0,0,0⟩ (H++[.ca (fu ⟨H.length,.ae,.ae,l⟩ ⟨0,0,0,0⟩)]):=by
  refine⟨by simp,?_,hl,.inl rfl,.inl rfl⟩
  intro j cs hj fi
  have iL:H.length<=j:=hj
  by_cases e:j=H.length
  ·subst e
   simp at fi
   subst fi
   rfl
  ·rw[aqc (by simp;omega)] at fi
   cases fi
 have hid:=age h1 ⟨by decide,by decide⟩
 have dB:cb ⟨H.length,.ae,.ae,l⟩ { ({ pos:=0,next:=0,left:=0,own:=0 } : Mk) with next:=0+1 } (H++[.ca (fu ⟨H.length,.ae,.ae,l⟩ ⟨0,0,0,0⟩)])=H++[.ca [.ae,.ae,.slice (ints l) false,.int .i64 0,.int .i64 1,.int .i64 0,.int .i64 0]]:=by
  simp[cb,fu]
 rw[dB] at hid
 simp only[fu,av] at hid
 have aaP:iz.body=.seq (hN iz.body) (.seq (hN n4) (.seq (hN n5) (.seq (hN n6) (.seq (hN n7) (.seq (hN n8) (.seq (hN n9) mB)))))):=rfl
 rw[aaP]
 have aU:H.length<H.length+1:=by omega
 have hbx:∀ o:cj,(H++[o])[H.length]?=some o:=fun o=>by simp
 have aiJ:∀ o o' : cj,(H++[o,o'])[H.length]?=some o:=fun o o'=>by simp
 have uT:∀ o o' : cj,(H++[o]).set H.length o'=H++[o']:=fun o o'=>by simp
 have UQ:∀ o o' o'' : cj,(H++[o,o'']).set H.length o'=H++[o',o'']:=fun o o' o''=>by simp
 have xX:∀ o o' : cj,(H++[o])++[o']=H++[o,o']:=fun o o'=>by simp
 have ze:(bif decide (H.length+1<H.length) then H.length+1 else H.length)=H.length:=by rw[apS (by omega)];rfl
 have mf:cC [[.int .i64 (kP 0).bN,.int .i64 (kP 0).seq,.int .i64 (kP 0).index,.str [99,111,114,101],.ae,.ae]]=true:=rfl
 have afq:H++[cj.ca [.sref (H.length+1) 0 1 6,.ae,.slice (ints l) false,.int .i64 0,.int .i64 1,.int .i64 0,.int .i64 0],.box aJ [[AV.int .i64 (kP 0).bN,.int .i64 (kP 0).seq,.int .i64 (kP 0).index,.str [99,111,114,101],.ae,.ae]].flatten]=pH H l ⟨0,1,0,0⟩ (aD false [] []) []:=rfl
 obtain⟨x,p,qY,Y4,fB⟩:=yH (M:=aD false [] []) (D:=[]) (H:=H) hl ⟨0,1,0,0⟩ 2 (by omega)
 simp(disch:=omega)only[aL,aa,simprocAttr,iz,n4,n5,n6,n7,n8,n9,hN,cm,acH,hid,fY,hbx,aiJ,uT,UQ,xX,ze,mf,aY,ao6,List.length_cons,List.length_nil,Nat.zero_add,afq,fB]
 have hx:x=0\/x=1:=by omega
 have hk:(10:Nat)=10:=rfl
 rcases hx with rfl|rfl
 ·obtain⟨y,p2,Kv,hy5,dr⟩:=yH (M:=aD false [] []) (D:=[]) (H:=H) hl ⟨p,1,0,0⟩ 5 (by omega)
  obtain⟨z,rfl⟩:∃ z:Nat,y=z:=⟨y.toNat,by omega⟩
  simp(disch:=omega)only[aL,aa,simprocAttr,fY,dr]
  refine h _ ⟨_,_,false,z+4,rfl,rfl,by omega,by omega,?_⟩
  simp(disch:=omega)only[aL,aa,simprocAttr]
  exact⟨by omega,rfl,rfl⟩
 ·have afv:=agf (M:=aD false [] []) (D:=[]) (H:=H) hl ⟨p,1,0,0⟩ ⟨(by decide:(0:Int)<=1),(by decide:(1:Int)<=1000000)⟩
  obtain⟨y,p2,Kv,hy5,dr⟩:=yH (M:=aD true [] []) (D:=[]) (H:=H) hl ⟨p,2,0,0⟩ 5 (by omega)
  obtain⟨z,rfl⟩:∃ z:Nat,y=z:=⟨y.toNat,by omega⟩
  have hg:∀ m,(pH H l m (aD false [] []) [])[H.length]?=some (.ca [.sref (H.length+1) 0 1 6,.ae,.slice (ints l) false,.int .i64 m.pos,.int .i64 m.next,.int .i64 m.left,.int .i64 m.own]):=fun m=>lW
  have IM:∀ m,(pH H l m (aD false [] []) [])[H.length+1]?=some (.box aJ (aD false [] []).flatten):=fun m=>sK fI
  have Pv:ag false true 3 0 (aD false [] []).flatten=some (.agg [.int .i64 0,.int .i64 1,.int .i64 0]):=rfl
  have UK:=fun (m:Mk) (B:AP) (T:aw) gen t K os o=>acs (B:=B) (T:=T) (H:=H) (l:=l) (m:=m) (M:=aD false [] []) (r:=Gm (kP 1) jL [kP 0] []) (gen:=gen) (t:=t) (K:=K) (os:=os) (o:=o) fI Jl rfl rfl (by decide)
  have hg2:∀ m,(pY H l m (aD false [] []) (Gm (kP 1) jL [kP 0] []))[H.length]?=some (.ca [.sref (H.length+1) 0 1 6,.ae,.slice (ints l) false,.int .i64 m.pos,.int .i64 m.next,.int .i64 m.left,.int .i64 m.own]):=fun m=>agu
  have NO:∀ m:Mk,(pY H l m (aD false [] []) (Gm (kP 1) jL [kP 0] [])).set H.length (.ca [.sref (H.length+(1+1)) 0 (1+1) 6,.ae,.slice (ints l) false,.int .i64 m.pos,.int .i64 m.next,.int .i64 m.left,.int .i64 m.own])=pH H l m (aD true [] []) []:=fun m=>acu
  simp only[show Gm (kP 1) jL [kP 0] []=[.int .i64 (kP 1).bN,.int .i64 (kP 1).seq,.int .i64 (kP 1).index,.str [109,105,108,108],.slice [[.int .i64 0,.int .i64 1,.int .i64 0]] false,.ae] from rfl,show (aD false [] []).length=1 from rfl,ao6,apt] at UK hg2 NO
  simp only[av] at afv
  simp(disch:=omega)only[aL,aa,simprocAttr,fY,afv,hg,IM,Pv,UK,hg2,NO,dr,aY,lr,jK]
  refine h _ ⟨_,_,true,z+4,rfl,rfl,by omega,by omega,?_⟩
  simp(disch:=omega)only[aL,aa,simprocAttr]
  exact⟨by omega,rfl,rfl⟩
end
def dj:bJ->bJ
 | .block _ b=>b
 | .loop b=>b
 | c=>c
def A8:bJ:=hN (cm (cm (dj (hN (cm (dj (dj (cm (p8)))))))))
def B8:bJ:=cm (cm (cm (dj (hN (cm (dj (dj (cm (p8)))))))))
theorem ags:p8=(.seq (.region false [{ dst:=some 7,guard:=none,op:=.mov true false (.cg (.int (.i64) 0)) }]) (.block 0 (.loop (.seq (.seq (.region false [{ dst:=some 58,guard:=none,op:=.mov false false (.tmp 7) },{ dst:=some 59,guard:=none,op:=.mov false false (.tmp 4) },{ dst:=some 60,guard:=none,op:=.bin (.lss) (.other) (.tmp 58) (.tmp 59) }]) (.cond (.tmp 60) (.skip) (.exit 0))) (.seq (.block 1 (.seq (.region false [{ dst:=some 8,guard:=none,op:=.mov true false (.cg (.int (.i64) 0)) }]) (.seq (.seq (.region false [{ dst:=some 63,guard:=none,op:=.mov false false (.tmp 7) },{ dst:=some 64,guard:=none,op:=.bin (.gtr) (.other) (.tmp 63) (.cg (.int (.i64) 1)) }]) (.cond (.tmp 64) (.region false [{ dst:=some 65,guard:=none,op:=.mov false false (.tmp 3) },{ dst:=some 66,guard:=none,op:=.mov false false (.tmp 3) },{ dst:=some 67,guard:=none,op:=.nilCheck (.tmp 66) },{ dst:=some 68,guard:=none,op:=.fieldAddr 0 (.tmp 67) },{ dst:=some 69,guard:=none,op:=.fieldAddr 0 (.tmp 68) },{ dst:=some 70,guard:=none,op:=.load false false 1 (.tmp 69) },{ dst:=some 71,guard:=none,op:=.len (.sl) (.tmp 70) },{ dst:=some 72,guard:=none,op:=.call (.fn 17) [.tmp 65,.tmp 71] },{ dst:=some 8,guard:=none,op:=.mov true false (.tmp 72) }]) (.skip))) (.seq A8 B8)))) (.region false [{ dst:=some 61,guard:=none,op:=.mov false false (.tmp 7) },{ dst:=some 62,guard:=none,op:=.bin (.add) (.other) (.tmp 61) (.cg (.int (.i64) 1)) },{ dst:=some 7,guard:=none,op:=.mov true false (.tmp 62) }])))))):=rfl
def akn:Cells 5:=⟨[.int .i64 0,.int .i64 0,.int .i64 0,.int .i64 0,.ae],rfl,rfl⟩
def Zi:Cells 15:=⟨[.int .i64 0,.int .i64 0,.int .i64 0,.int .i64 0,.int .i64 0,.int .i64 0,.int .i64 0,.int .i64 0,.int .i64 0,.int .i64 0,.int .i64 0,.int .i64 0,.ae,.ae,.ae],rfl,rfl⟩
def zTl:Cells 2:=⟨[.int .i64 0,.ae],rfl,rfl⟩
def wv(l:List Slot):AV:=match l with|[]=>.ae|_=>.slice (bs l) true
def aC(d:Def):List AV:=av d.id++[.int .i64 d.kind]++av d.mod++[.str d.name,wv d.aZ]++d.res.l++d.body.l++d.tl.l
theorem xC{d:Def} : (aC d).length=31:=by simp[aC,av,d.res.len,d.body.len,d.tl.len]
theorem fO{ds:List Def} : ∀ q∈ds.map aC,q.length=31:=fun q hq=>by
 obtain⟨d,_,rfl⟩:=apu.1 hq
 exact xC
def MW(n:Int)(k:Int)(mo:Id)(name:ga):Def:=⟨kP n,k,mo,name,[],akn,Zi,zTl⟩
theorem Gp{n k:Int}{mo:Id}{name:ga} : aC (MW n k mo name)=[.int .i64 (kP n).bN,.int .i64 (kP n).seq,.int .i64 (kP n).index,.int .i64 k,.int .i64 mo.bN,.int .i64 mo.seq,.int .i64 mo.index,.str name,.ae,.int .i64 0,.int .i64 0,.int .i64 0,.int .i64 0,.ae,.int .i64 0,.int .i64 0,.int .i64 0,.int .i64 0,.int .i64 0,.int .i64 0,.int .i64 0,.int .i64 0,.int .i64 0,.int .i64 0,.int .i64 0,.int .i64 0,.ae,.ae,.ae,.int .i64 0,.ae]:=rfl
theorem ah2{l:List Int}{H:ah}(hl:∀ n∈l,pr n){T:aw}{m:Mk}{M:List (List AV)}{ds:List Def}{g i y:Nat}{mi:Id}{Q:bp->AS->Prop}(hM:M≠[])(hi:i<8)(hy:y<M.length)(hMl:M.length<=2)(wE:ds.length<=8)
  (hn:0<=m.next/\m.next<=1000) (hmi:ag false true 3 (y*6) M.flatten=some (.agg (av mi)))
  (e3:T 3=.ref H.length 0) (e5:T 5=.slice (ints du) true) (e6:T 6=.slice (strs iA) true) (e7:T 7=.int .i64 i) (e8:T 8=.int .i64 y)
  (hQ:∀ T' : aw,(T' 2=T 2/\T' 3=T 3/\T' 4=T 4/\T' 5=T 5/\T' 6=T 6/\T' 7=T 7/\T' 8=T 8)->Q .normal ⟨T',pH H l { m with next:=m.next+1 } M ((ds++[MW m.next (du.getD i 0) mi (iA.getD i [])]).map aC),H.length,g⟩) :
  W A A8 ⟨T,pH H l m M (ds.map aC),H.length,g⟩ Q:=by
 have hid:=agf (M:=M) (D:=ds.map aC) (H:=H) hl m ⟨by omega,by omega⟩
 have fY:(bif decide (H.length<H.length) then H.length else H.length)=H.length:=by simp
 have hkL:du.length=8:=rfl
 have hnL:iA.length=8:=rfl
 have hk:=ints_at (l:=du) (i:=i) (n:=du.getD i 0) (by rw[apg,aoT (by omega)];rfl)
 have su:(strs iA)[i]?=some [.str (iA.getD i [])]:=by simp[strs,aoT (show i<iA.length by omega)]
 have oL:(ints du).length=8:=rfl
 have pn:(strs iA).length=8:=rfl
 generalize du.getD i 0=k at *
 generalize iA.getD i []=nm at *
 have hg:∀ m,(pH H l m M (ds.map aC))[H.length]?=some (.ca [.sref (H.length+M.length) 0 M.length 6,aA (H.length+M.length) 31 (ds.map aC),.slice (ints l) false,.int .i64 m.pos,.int .i64 m.next,.int .i64 m.left,.int .i64 m.own]):=fun m=>lW
 have IM:∀ m,(pH H l m M (ds.map aC))[H.length+M.length]?=some (.box aJ M.flatten):=fun m=>sK hM
 have jS:=fun (m1:Mk) (B:AP) (T:aw) gen t K os o=>acq (B:=B) (T:=T) (H:=H) (l:=l) (m:=m1) (M:=M) (D:=ds.map aC) (r:=aC (MW m.next k mi nm)) (gen:=gen) (t:=t) (K:=K) (os:=os) (o:=o) fO xC (by rw[Gp];rfl) (by rw[ao'];omega)
 have hgX:∀ (m:Mk) r,(pX H l m M (ds.map aC) r)[H.length]?=some (.ca [.sref (H.length+M.length) 0 M.length 6,aA (H.length+M.length) 31 (ds.map aC),.slice (ints l) false,.int .i64 m.pos,.int .i64 m.next,.int .i64 m.left,.int .i64 m.own]):=fun m r=>agt
 have hsX:∀ (m:Mk) r,(pX H l m M (ds.map aC) r).set H.length (.ca [.sref (H.length+M.length) 0 M.length 6,.sref (H.length+M.length+(ds.map aC++[r]).length) 0 (ds.map aC++[r]).length 31,.slice (ints l) false,.int .i64 m.pos,.int .i64 m.next,.int .i64 m.left,.int .i64 m.own])=pH H l m M (ds.map aC++[r]):=fun m r=>by
  have:=acr (H:=H) (l:=l) (m:=m) (M:=M) (D:=ds.map aC) (r:=r)
  rw[<- this,fu]
  have h2:(pC H l M (ds.map aC++[r])).pd=.sref (H.length+M.length+(ds.map aC++[r]).length) 0 (ds.map aC++[r]).length 31:=jc (by simp)
  rw[h2];rfl
 rw[aq3,List.map_singleton] at hQ
 rw[av] at hmi hid
 simp only[Gp] at jS hQ
 have hD:aA (H.length+M.length) 31 (ds.map aC)=.ae\/aA (H.length+M.length) 31 (ds.map aC)=.sref (H.length+M.length+(ds.map aC).length) 0 (ds.map aC).length 31:=by
  cases ds with
  | nil=>exact .inl rfl
  | cons d ds=>exact .inr rfl
 have hlm:decide (y<M.length)=true:=by simpa using hy
 rcases hD with hD|hD
 all_goals
  rw[hD] at jS
  simp only[hD] at hg hgX
  simp only[ao',ao6,apt] at hg hgX hsX jS
  simp(disch:=omega)only[aL,aa,simprocAttr,A8,p8,mB,n9,n8,n7,n6,n5,n4,hN,cm,dj,iz,hid,fY,hg,IM,hmi,e3,e5,e6,e7,e8,hk,su,oL,pn,hgX,hsX,jS,aY,lr,jK,hlm]
  exact hQ _ (by simp(disch:=omega)only[aL,aa,simprocAttr])
def oI(l:List Id):AV:=match l with|[]=>.ae|_=>.slice (aF l) true
theorem aeh{l:List Int}{H:ah}(hl:∀ n∈l,pr n){T:aw}{m:Mk}{ds:List Def}{g i:Nat}{d:Def}(l0 l1:List Id){Q:bp->AS->Prop}(hd:ds[i]?=some d)
  (e3:T 3=.ref H.length 0) (e7:T 7=.int .i64 i) (e8:T 8=.int .i64 0)
  (hQ:∀ T' : aw,(T' 2=T 2/\T' 3=T 3/\T' 4=T 4/\T' 5=T 5/\T' 6=T 6/\T' 7=T 7/\T' 8=T 8)->Q .normal ⟨T',pH H l m (aD false ([]++[d.id]) l1) (ds.map aC),H.length,g⟩) :
  W A B8 ⟨T,pH H l m (aD false [] l1) (ds.map aC),H.length,g⟩ Q:=by
 have aU:i<ds.length:=(aoR.1 hd).1
 have bB:ds.map aC≠[]:=by intro h;rw[List.map_eq_nil_iff] at h;rw[h] at aU;simp at aU
 have fY:(bif decide (H.length<H.length) then H.length else H.length)=H.length:=by simp
 have AI:(bif decide (H.length+1<H.length) then H.length+1 else H.length)=H.length:=by rw[apS (by omega)];rfl
 have hD:aA (H.length+1) 31 (ds.map aC)=.sref (H.length+1+ds.length) 0 ds.length 31:=by rw[jc bB,ao']
 have hg:(pH H l m (aD false [] l1) (ds.map aC))[H.length]?=some (.ca [.sref (H.length+1) 0 1 6,.sref (H.length+1+ds.length) 0 ds.length 31,.slice (ints l) false,.int .i64 m.pos,.int .i64 m.next,.int .i64 m.left,.int .i64 m.own]):=by
  rw[<- hD];exact lW
 have IM:(pH H l m (aD false [] l1) (ds.map aC))[H.length+1]?=some (.box aJ [.int .i64 0,.int .i64 1,.int .i64 0,.str ji,.ae,.ae]):=sK fI
 have ju:(pH H l m (aD false [] l1) (ds.map aC))[H.length+1+ds.length]?=some (.box aJ (ds.map aC).flatten):=by
  have:=sJ (H:=H) (l:=l) (m:=m) (M:=(aD false [] l1)) bB
  rw[ao'] at this
  exact this
 have h1:H.length+1≠H.length:=by omega
 have h2:H.length+1≠H.length+1+ds.length:=by omega
 have hlen:H.length+1<(pH H l m (aD false [] l1) (ds.map aC)).length:=by rw[mj];show H.length+1<H.length+1+1+_;omega
 have Hh:∀ o,((pH H l m (aD false [] l1) (ds.map aC)).set (H.length+1) o)[H.length]?=some (.ca [.sref (H.length+1) 0 1 6,.sref (H.length+1+ds.length) 0 ds.length 31,.slice (ints l) false,.int .i64 m.pos,.int .i64 m.next,.int .i64 m.left,.int .i64 m.own]):=fun o=>by rw[apk h1];exact hg
 have Kh:∀ o,((pH H l m (aD false [] l1) (ds.map aC)).set (H.length+1) o)[H.length+1]?=some o:=fun o=>apo hlen
 have Pg:∀ o,((pH H l m (aD false [] l1) (ds.map aC)).set (H.length+1) o)[H.length+1+ds.length]?=some (.box aJ (ds.map aC).flatten):=fun o=>by rw[apk h2];exact ju
 have dB:(pH H l m (aD false [] l1) (ds.map aC)).set (H.length+1) (.box aJ [.int .i64 0,.int .i64 1,.int .i64 0,.str ji,.ae,.slice (aF ([]++[d.id])) true])=pH H l m (aD false ([]++[d.id]) l1) (ds.map aC):=r8 (M:=(aD false [] l1)) (M':=(aD false ([]++[d.id]) l1)) fI rfl
 have hr:(ds.map aC)[i]?=some (aC d):=by rw[ao1,hd];rfl
 have Pw:ag false true 3 (i*31) (ds.map aC).flatten=some (.agg [.int .i64 d.id.bN,.int .i64 d.id.seq,.int .i64 d.id.index]) :=
  (gp (j:=0) fO hr (by omega) (by omega) (by omega)).trans rfl
 have jS:bw false 3 24 (.slice [] true) (.slice [[.int .i64 d.id.bN,.int .i64 d.id.seq,.int .i64 d.id.index]] true)=some (.slice (aF ([]++[d.id])) true):=rfl
 have Cs:ag true false 1 5 [.int .i64 0,.int .i64 1,.int .i64 0,.str ji,.ae,.ae]=some (.ae):=rfl
 have lO:decide (i<ds.length)=true:=by simpa using aU
 simp only[apv,apj] at dB hQ jS
 simp(disch:=omega)only[aL,aa,simprocAttr,bS,bV,bA,bW,cH,bu,dL,au,ar,aW,cM,bP,apO,apP,B8,p8,mB,n9,n8,n7,n6,n5,n4,hN,cm,dj,iz,Cs,fY,AI,hg,IM,ju,Hh,Kh,Pg,List.set_set,dB,Pw,jS,lO,e3,e7,e8,aY,lr,jK]
 exact hQ _ (by simp(disch:=omega)only[aL,aa,simprocAttr])
theorem aeg{l:List Int}{H:ah}(hl:∀ n∈l,pr n){T:aw}{m:Mk}{ds:List Def}{g i:Nat}{d:Def}(l0 l1:List Id)(a:Id)(t:List Id){Q:bp->AS->Prop}(hd:ds[i]?=some d)(ht:t.length<=100)
  (e3:T 3=.ref H.length 0) (e7:T 7=.int .i64 i) (e8:T 8=.int .i64 0)
  (hQ:∀ T' : aw,(T' 2=T 2/\T' 3=T 3/\T' 4=T 4/\T' 5=T 5/\T' 6=T 6/\T' 7=T 7/\T' 8=T 8)->Q .normal ⟨T',pH H l m (aD false ((a :: t)++[d.id]) l1) (ds.map aC),H.length,g⟩) :
  W A B8 ⟨T,pH H l m (aD false (a :: t) l1) (ds.map aC),H.length,g⟩ Q:=by
 have aU:i<ds.length:=(aoR.1 hd).1
 have bB:ds.map aC≠[]:=by intro h;rw[List.map_eq_nil_iff] at h;rw[h] at aU;simp at aU
 have fY:(bif decide (H.length<H.length) then H.length else H.length)=H.length:=by simp
 have AI:(bif decide (H.length+1<H.length) then H.length+1 else H.length)=H.length:=by rw[apS (by omega)];rfl
 have hD:aA (H.length+1) 31 (ds.map aC)=.sref (H.length+1+ds.length) 0 ds.length 31:=by rw[jc bB,ao']
 have hg:(pH H l m (aD false (a :: t) l1) (ds.map aC))[H.length]?=some (.ca [.sref (H.length+1) 0 1 6,.sref (H.length+1+ds.length) 0 ds.length 31,.slice (ints l) false,.int .i64 m.pos,.int .i64 m.next,.int .i64 m.left,.int .i64 m.own]):=by
  rw[<- hD];exact lW
 have IM:(pH H l m (aD false (a :: t) l1) (ds.map aC))[H.length+1]?=some (.box aJ [.int .i64 0,.int .i64 1,.int .i64 0,.str ji,.ae,.slice (aF (a :: t)) true]):=sK fI
 have ju:(pH H l m (aD false (a :: t) l1) (ds.map aC))[H.length+1+ds.length]?=some (.box aJ (ds.map aC).flatten):=by
  have:=sJ (H:=H) (l:=l) (m:=m) (M:=(aD false (a :: t) l1)) bB
  rw[ao'] at this
  exact this
 have h1:H.length+1≠H.length:=by omega
 have h2:H.length+1≠H.length+1+ds.length:=by omega
 have hlen:H.length+1<(pH H l m (aD false (a :: t) l1) (ds.map aC)).length:=by rw[mj];show H.length+1<H.length+1+1+_;omega
 have Hh:∀ o,((pH H l m (aD false (a :: t) l1) (ds.map aC)).set (H.length+1) o)[H.length]?=some (.ca [.sref (H.length+1) 0 1 6,.sref (H.length+1+ds.length) 0 ds.length 31,.slice (ints l) false,.int .i64 m.pos,.int .i64 m.next,.int .i64 m.left,.int .i64 m.own]):=fun o=>by rw[apk h1];exact hg
 have Kh:∀ o,((pH H l m (aD false (a :: t) l1) (ds.map aC)).set (H.length+1) o)[H.length+1]?=some o:=fun o=>apo hlen
 have Pg:∀ o,((pH H l m (aD false (a :: t) l1) (ds.map aC)).set (H.length+1) o)[H.length+1+ds.length]?=some (.box aJ (ds.map aC).flatten):=fun o=>by rw[apk h2];exact ju
 have dB:(pH H l m (aD false (a :: t) l1) (ds.map aC)).set (H.length+1) (.box aJ [.int .i64 0,.int .i64 1,.int .i64 0,.str ji,.ae,.slice (aF ((a :: t)++[d.id])) true])=pH H l m (aD false ((a :: t)++[d.id]) l1) (ds.map aC):=r8 (M:=(aD false (a :: t) l1)) (M':=(aD false ((a :: t)++[d.id]) l1)) fI rfl
 have hr:(ds.map aC)[i]?=some (aC d):=by rw[ao1,hd];rfl
 have Pw:ag false true 3 (i*31) (ds.map aC).flatten=some (.agg [.int .i64 d.id.bN,.int .i64 d.id.seq,.int .i64 d.id.index]) :=
  (gp (j:=0) fO hr (by omega) (by omega) (by omega)).trans rfl
 have jS:bw false 3 24 (.slice (aF (a :: t)) true) (.slice [[.int .i64 d.id.bN,.int .i64 d.id.seq,.int .i64 d.id.index]] true)=some (.slice (aF ((a :: t)++[d.id])) true):=Bt (by simp;omega)
 have Cs:ag true false 1 5 [.int .i64 0,.int .i64 1,.int .i64 0,.str ji,.ae,.slice (aF (a :: t)) true]=some (.slice (aF (a :: t)) true):=rfl
 have lO:decide (i<ds.length)=true:=by simpa using aU
 simp only[apv,apj] at dB hQ jS
 simp(disch:=omega)only[aL,aa,simprocAttr,bS,bV,bA,bW,cH,bu,dL,au,ar,aW,cM,bP,apO,apP,B8,p8,mB,n9,n8,n7,n6,n5,n4,hN,cm,dj,iz,Cs,fY,AI,hg,IM,ju,Hh,Kh,Pg,List.set_set,dB,Pw,jS,lO,e3,e7,e8,aY,lr,jK]
 exact hQ _ (by simp(disch:=omega)only[aL,aa,simprocAttr])
theorem aej{l:List Int}{H:ah}(hl:∀ n∈l,pr n){T:aw}{m:Mk}{ds:List Def}{g i:Nat}{d:Def}(l0 l1:List Id){Q:bp->AS->Prop}(hd:ds[i]?=some d)
  (e3:T 3=.ref H.length 0) (e7:T 7=.int .i64 i) (e8:T 8=.int .i64 0)
  (hQ:∀ T' : aw,(T' 2=T 2/\T' 3=T 3/\T' 4=T 4/\T' 5=T 5/\T' 6=T 6/\T' 7=T 7/\T' 8=T 8)->Q .normal ⟨T',pH H l m (aD true ([]++[d.id]) l1) (ds.map aC),H.length,g⟩) :
  W A B8 ⟨T,pH H l m (aD true [] l1) (ds.map aC),H.length,g⟩ Q:=by
 have aU:i<ds.length:=(aoR.1 hd).1
 have bB:ds.map aC≠[]:=by intro h;rw[List.map_eq_nil_iff] at h;rw[h] at aU;simp at aU
 have fY:(bif decide (H.length<H.length) then H.length else H.length)=H.length:=by simp
 have AI:(bif decide (H.length+2<H.length) then H.length+2 else H.length)=H.length:=by rw[apS (by omega)];rfl
 have hD:aA (H.length+2) 31 (ds.map aC)=.sref (H.length+2+ds.length) 0 ds.length 31:=by rw[jc bB,ao']
 have hg:(pH H l m (aD true [] l1) (ds.map aC))[H.length]?=some (.ca [.sref (H.length+2) 0 2 6,.sref (H.length+2+ds.length) 0 ds.length 31,.slice (ints l) false,.int .i64 m.pos,.int .i64 m.next,.int .i64 m.left,.int .i64 m.own]):=by
  rw[<- hD];exact lW
 have IM:(pH H l m (aD true [] l1) (ds.map aC))[H.length+2]?=some (.box aJ [.int .i64 0,.int .i64 1,.int .i64 0,.str ji,.ae,.ae,.int .i64 0,.int .i64 1,.int .i64 1,.str jL,.slice [[.int .i64 0,.int .i64 1,.int .i64 0]] false,oI l1]):=sK fI
 have ju:(pH H l m (aD true [] l1) (ds.map aC))[H.length+2+ds.length]?=some (.box aJ (ds.map aC).flatten):=by
  have:=sJ (H:=H) (l:=l) (m:=m) (M:=(aD true [] l1)) bB
  rw[ao'] at this
  exact this
 have h1:H.length+2≠H.length:=by omega
 have h2:H.length+2≠H.length+2+ds.length:=by omega
 have hlen:H.length+2<(pH H l m (aD true [] l1) (ds.map aC)).length:=by rw[mj];show H.length+2<H.length+1+2+_;omega
 have Hh:∀ o,((pH H l m (aD true [] l1) (ds.map aC)).set (H.length+2) o)[H.length]?=some (.ca [.sref (H.length+2) 0 2 6,.sref (H.length+2+ds.length) 0 ds.length 31,.slice (ints l) false,.int .i64 m.pos,.int .i64 m.next,.int .i64 m.left,.int .i64 m.own]):=fun o=>by rw[apk h1];exact hg
 have Kh:∀ o,((pH H l m (aD true [] l1) (ds.map aC)).set (H.length+2) o)[H.length+2]?=some o:=fun o=>apo hlen
 have Pg:∀ o,((pH H l m (aD true [] l1) (ds.map aC)).set (H.length+2) o)[H.length+2+ds.length]?=some (.box aJ (ds.map aC).flatten):=fun o=>by rw[apk h2];exact ju
 have dB:(pH H l m (aD true [] l1) (ds.map aC)).set (H.length+2) (.box aJ [.int .i64 0,.int .i64 1,.int .i64 0,.str ji,.ae,.slice (aF ([]++[d.id])) true,.int .i64 0,.int .i64 1,.int .i64 1,.str jL,.slice [[.int .i64 0,.int .i64 1,.int .i64 0]] false,oI l1])=pH H l m (aD true ([]++[d.id]) l1) (ds.map aC):=r8 (M:=(aD true [] l1)) (M':=(aD true ([]++[d.id]) l1)) fI rfl
 have hr:(ds.map aC)[i]?=some (aC d):=by rw[ao1,hd];rfl
 have Pw:ag false true 3 (i*31) (ds.map aC).flatten=some (.agg [.int .i64 d.id.bN,.int .i64 d.id.seq,.int .i64 d.id.index]) :=
  (gp (j:=0) fO hr (by omega) (by omega) (by omega)).trans rfl
 have jS:bw false 3 24 (.slice [] true) (.slice [[.int .i64 d.id.bN,.int .i64 d.id.seq,.int .i64 d.id.index]] true)=some (.slice (aF ([]++[d.id])) true):=rfl
 have Cs:ag true false 1 5 [.int .i64 0,.int .i64 1,.int .i64 0,.str ji,.ae,.ae,.int .i64 0,.int .i64 1,.int .i64 1,.str jL,.slice [[.int .i64 0,.int .i64 1,.int .i64 0]] false,oI l1]=some (.ae):=rfl
 have lO:decide (i<ds.length)=true:=by simpa using aU
 simp only[apv,apj] at dB hQ jS
 simp(disch:=omega)only[aL,aa,simprocAttr,bS,bV,bA,bW,cH,bu,dL,au,ar,aW,cM,bP,apO,apP,B8,p8,mB,n9,n8,n7,n6,n5,n4,hN,cm,dj,iz,Cs,fY,AI,hg,IM,ju,Hh,Kh,Pg,List.set_set,dB,Pw,jS,lO,e3,e7,e8,aY,lr,jK]
 exact hQ _ (by simp(disch:=omega)only[aL,aa,simprocAttr])
theorem aei{l:List Int}{H:ah}(hl:∀ n∈l,pr n){T:aw}{m:Mk}{ds:List Def}{g i:Nat}{d:Def}(l0 l1:List Id)(a:Id)(t:List Id){Q:bp->AS->Prop}(hd:ds[i]?=some d)(ht:t.length<=100)
  (e3:T 3=.ref H.length 0) (e7:T 7=.int .i64 i) (e8:T 8=.int .i64 0)
  (hQ:∀ T' : aw,(T' 2=T 2/\T' 3=T 3/\T' 4=T 4/\T' 5=T 5/\T' 6=T 6/\T' 7=T 7/\T' 8=T 8)->Q .normal ⟨T',pH H l m (aD true ((a :: t)++[d.id]) l1) (ds.map aC),H.length,g⟩) :
  W A B8 ⟨T,pH H l m (aD true (a :: t) l1) (ds.map aC),H.length,g⟩ Q:=by
 have aU:i<ds.length:=(aoR.1 hd).1
 have bB:ds.map aC≠[]:=by intro h;rw[List.map_eq_nil_iff] at h;rw[h] at aU;simp at aU
 have fY:(bif decide (H.length<H.length) then H.length else H.length)=H.length:=by simp
 have AI:(bif decide (H.length+2<H.length) then H.length+2 else H.length)=H.length:=by rw[apS (by omega)];rfl
 have hD:aA (H.length+2) 31 (ds.map aC)=.sref (H.length+2+ds.length) 0 ds.length 31:=by rw[jc bB,ao']
 have hg:(pH H l m (aD true (a :: t) l1) (ds.map aC))[H.length]?=some (.ca [.sref (H.length+2) 0 2 6,.sref (H.length+2+ds.length) 0 ds.length 31,.slice (ints l) false,.int .i64 m.pos,.int .i64 m.next,.int .i64 m.left,.int .i64 m.own]):=by
  rw[<- hD];exact lW
 have IM:(pH H l m (aD true (a :: t) l1) (ds.map aC))[H.length+2]?=some (.box aJ [.int .i64 0,.int .i64 1,.int .i64 0,.str ji,.ae,.slice (aF (a :: t)) true,.int .i64 0,.int .i64 1,.int .i64 1,.str jL,.slice [[.int .i64 0,.int .i64 1,.int .i64 0]] false,oI l1]):=sK fI
 have ju:(pH H l m (aD true (a :: t) l1) (ds.map aC))[H.length+2+ds.length]?=some (.box aJ (ds.map aC).flatten):=by
  have:=sJ (H:=H) (l:=l) (m:=m) (M:=(aD true (a :: t) l1)) bB
  rw[ao'] at this
  exact this
 have h1:H.length+2≠H.length:=by omega
 have h2:H.length+2≠H.length+2+ds.length:=by omega
 have hlen:H.length+2<(pH H l m (aD true (a :: t) l1) (ds.map aC)).length:=by rw[mj];show H.length+2<H.length+1+2+_;omega
 have Hh:∀ o,((pH H l m (aD true (a :: t) l1) (ds.map aC)).set (H.length+2) o)[H.length]?=some (.ca [.sref (H.length+2) 0 2 6,.sref (H.length+2+ds.length) 0 ds.length 31,.slice (ints l) false,.int .i64 m.pos,.int .i64 m.next,.int .i64 m.left,.int .i64 m.own]):=fun o=>by rw[apk h1];exact hg
 have Kh:∀ o,((pH H l m (aD true (a :: t) l1) (ds.map aC)).set (H.length+2) o)[H.length+2]?=some o:=fun o=>apo hlen
 have Pg:∀ o,((pH H l m (aD true (a :: t) l1) (ds.map aC)).set (H.length+2) o)[H.length+2+ds.length]?=some (.box aJ (ds.map aC).flatten):=fun o=>by rw[apk h2];exact ju
 have dB:(pH H l m (aD true (a :: t) l1) (ds.map aC)).set (H.length+2) (.box aJ [.int .i64 0,.int .i64 1,.int .i64 0,.str ji,.ae,.slice (aF ((a :: t)++[d.id])) true,.int .i64 0,.int .i64 1,.int .i64 1,.str jL,.slice [[.int .i64 0,.int .i64 1,.int .i64 0]] false,oI l1])=pH H l m (aD true ((a :: t)++[d.id]) l1) (ds.map aC):=r8 (M:=(aD true (a :: t) l1)) (M':=(aD true ((a :: t)++[d.id]) l1)) fI rfl
 have hr:(ds.map aC)[i]?=some (aC d):=by rw[ao1,hd];rfl
 have Pw:ag false true 3 (i*31) (ds.map aC).flatten=some (.agg [.int .i64 d.id.bN,.int .i64 d.id.seq,.int .i64 d.id.index]) :=
  (gp (j:=0) fO hr (by omega) (by omega) (by omega)).trans rfl
 have jS:bw false 3 24 (.slice (aF (a :: t)) true) (.slice [[.int .i64 d.id.bN,.int .i64 d.id.seq,.int .i64 d.id.index]] true)=some (.slice (aF ((a :: t)++[d.id])) true):=Bt (by simp;omega)
 have Cs:ag true false 1 5 [.int .i64 0,.int .i64 1,.int .i64 0,.str ji,.ae,.slice (aF (a :: t)) true,.int .i64 0,.int .i64 1,.int .i64 1,.str jL,.slice [[.int .i64 0,.int .i64 1,.int .i64 0]] false,oI l1]=some (.slice (aF (a :: t)) true):=rfl
 have lO:decide (i<ds.length)=true:=by simpa using aU
 simp only[apv,apj] at dB hQ jS
 simp(disch:=omega)only[aL,aa,simprocAttr,bS,bV,bA,bW,cH,bu,dL,au,ar,aW,cM,bP,apO,apP,B8,p8,mB,n9,n8,n7,n6,n5,n4,hN,cm,dj,iz,Cs,fY,AI,hg,IM,ju,Hh,Kh,Pg,List.set_set,dB,Pw,jS,lO,e3,e7,e8,aY,lr,jK]
 exact hQ _ (by simp(disch:=omega)only[aL,aa,simprocAttr])
theorem ael{l:List Int}{H:ah}(hl:∀ n∈l,pr n){T:aw}{m:Mk}{ds:List Def}{g i:Nat}{d:Def}(l0 l1:List Id){Q:bp->AS->Prop}(hd:ds[i]?=some d)
  (e3:T 3=.ref H.length 0) (e7:T 7=.int .i64 i) (e8:T 8=.int .i64 1)
  (hQ:∀ T' : aw,(T' 2=T 2/\T' 3=T 3/\T' 4=T 4/\T' 5=T 5/\T' 6=T 6/\T' 7=T 7/\T' 8=T 8)->Q .normal ⟨T',pH H l m (aD true l0 ([]++[d.id])) (ds.map aC),H.length,g⟩) :
  W A B8 ⟨T,pH H l m (aD true l0 []) (ds.map aC),H.length,g⟩ Q:=by
 have aU:i<ds.length:=(aoR.1 hd).1
 have bB:ds.map aC≠[]:=by intro h;rw[List.map_eq_nil_iff] at h;rw[h] at aU;simp at aU
 have fY:(bif decide (H.length<H.length) then H.length else H.length)=H.length:=by simp
 have AI:(bif decide (H.length+2<H.length) then H.length+2 else H.length)=H.length:=by rw[apS (by omega)];rfl
 have hD:aA (H.length+2) 31 (ds.map aC)=.sref (H.length+2+ds.length) 0 ds.length 31:=by rw[jc bB,ao']
 have hg:(pH H l m (aD true l0 []) (ds.map aC))[H.length]?=some (.ca [.sref (H.length+2) 0 2 6,.sref (H.length+2+ds.length) 0 ds.length 31,.slice (ints l) false,.int .i64 m.pos,.int .i64 m.next,.int .i64 m.left,.int .i64 m.own]):=by
  rw[<- hD];exact lW
 have IM:(pH H l m (aD true l0 []) (ds.map aC))[H.length+2]?=some (.box aJ [.int .i64 0,.int .i64 1,.int .i64 0,.str ji,.ae,oI l0,.int .i64 0,.int .i64 1,.int .i64 1,.str jL,.slice [[.int .i64 0,.int .i64 1,.int .i64 0]] false,.ae]):=sK fI
 have ju:(pH H l m (aD true l0 []) (ds.map aC))[H.length+2+ds.length]?=some (.box aJ (ds.map aC).flatten):=by
  have:=sJ (H:=H) (l:=l) (m:=m) (M:=(aD true l0 [])) bB
  rw[ao'] at this
  exact this
 have h1:H.length+2≠H.length:=by omega
 have h2:H.length+2≠H.length+2+ds.length:=by omega
 have hlen:H.length+2<(pH H l m (aD true l0 []) (ds.map aC)).length:=by rw[mj];show H.length+2<H.length+1+2+_;omega
 have Hh:∀ o,((pH H l m (aD true l0 []) (ds.map aC)).set (H.length+2) o)[H.length]?=some (.ca [.sref (H.length+2) 0 2 6,.sref (H.length+2+ds.length) 0 ds.length 31,.slice (ints l) false,.int .i64 m.pos,.int .i64 m.next,.int .i64 m.left,.int .i64 m.own]):=fun o=>by rw[apk h1];exact hg
 have Kh:∀ o,((pH H l m (aD true l0 []) (ds.map aC)).set (H.length+2) o)[H.length+2]?=some o:=fun o=>apo hlen
 have Pg:∀ o,((pH H l m (aD true l0 []) (ds.map aC)).set (H.length+2) o)[H.length+2+ds.length]?=some (.box aJ (ds.map aC).flatten):=fun o=>by rw[apk h2];exact ju
 have dB:(pH H l m (aD true l0 []) (ds.map aC)).set (H.length+2) (.box aJ [.int .i64 0,.int .i64 1,.int .i64 0,.str ji,.ae,oI l0,.int .i64 0,.int .i64 1,.int .i64 1,.str jL,.slice [[.int .i64 0,.int .i64 1,.int .i64 0]] false,.slice (aF ([]++[d.id])) true])=pH H l m (aD true l0 ([]++[d.id])) (ds.map aC):=r8 (M:=(aD true l0 [])) (M':=(aD true l0 ([]++[d.id]))) fI rfl
 have hr:(ds.map aC)[i]?=some (aC d):=by rw[ao1,hd];rfl
 have Pw:ag false true 3 (i*31) (ds.map aC).flatten=some (.agg [.int .i64 d.id.bN,.int .i64 d.id.seq,.int .i64 d.id.index]) :=
  (gp (j:=0) fO hr (by omega) (by omega) (by omega)).trans rfl
 have jS:bw false 3 24 (.slice [] true) (.slice [[.int .i64 d.id.bN,.int .i64 d.id.seq,.int .i64 d.id.index]] true)=some (.slice (aF ([]++[d.id])) true):=rfl
 have Cs:ag true false 1 11 [.int .i64 0,.int .i64 1,.int .i64 0,.str ji,.ae,oI l0,.int .i64 0,.int .i64 1,.int .i64 1,.str jL,.slice [[.int .i64 0,.int .i64 1,.int .i64 0]] false,.ae]=some (.ae):=rfl
 have lO:decide (i<ds.length)=true:=by simpa using aU
 simp only[apv,apj] at dB hQ jS
 simp(disch:=omega)only[aL,aa,simprocAttr,bS,bV,bA,bW,cH,bu,dL,au,ar,aW,cM,bP,apO,apP,B8,p8,mB,n9,n8,n7,n6,n5,n4,hN,cm,dj,iz,Cs,fY,AI,hg,IM,ju,Hh,Kh,Pg,List.set_set,dB,Pw,jS,lO,e3,e7,e8,aY,lr,jK]
 exact hQ _ (by simp(disch:=omega)only[aL,aa,simprocAttr])
theorem aek{l:List Int}{H:ah}(hl:∀ n∈l,pr n){T:aw}{m:Mk}{ds:List Def}{g i:Nat}{d:Def}(l0 l1:List Id)(a:Id)(t:List Id){Q:bp->AS->Prop}(hd:ds[i]?=some d)(ht:t.length<=100)
  (e3:T 3=.ref H.length 0) (e7:T 7=.int .i64 i) (e8:T 8=.int .i64 1)
  (hQ:∀ T' : aw,(T' 2=T 2/\T' 3=T 3/\T' 4=T 4/\T' 5=T 5/\T' 6=T 6/\T' 7=T 7/\T' 8=T 8)->Q .normal ⟨T',pH H l m (aD true l0 ((a :: t)++[d.id])) (ds.map aC),H.length,g⟩) :
  W A B8 ⟨T,pH H l m (aD true l0 (a :: t)) (ds.map aC),H.length,g⟩ Q:=by
 have aU:i<ds.length:=(aoR.1 hd).1
 have bB:ds.map aC≠[]:=by intro h;rw[List.map_eq_nil_iff] at h;rw[h] at aU;simp at aU
 have fY:(bif decide (H.length<H.length) then H.length else H.length)=H.length:=by simp
 have AI:(bif decide (H.length+2<H.length) then H.length+2 else H.length)=H.length:=by rw[apS (by omega)];rfl
 have hD:aA (H.length+2) 31 (ds.map aC)=.sref (H.length+2+ds.length) 0 ds.length 31:=by rw[jc bB,ao']
 have hg:(pH H l m (aD true l0 (a :: t)) (ds.map aC))[H.length]?=some (.ca [.sref (H.length+2) 0 2 6,.sref (H.length+2+ds.length) 0 ds.length 31,.slice (ints l) false,.int .i64 m.pos,.int .i64 m.next,.int .i64 m.left,.int .i64 m.own]):=by
  rw[<- hD];exact lW
 have IM:(pH H l m (aD true l0 (a :: t)) (ds.map aC))[H.length+2]?=some (.box aJ [.int .i64 0,.int .i64 1,.int .i64 0,.str ji,.ae,oI l0,.int .i64 0,.int .i64 1,.int .i64 1,.str jL,.slice [[.int .i64 0,.int .i64 1,.int .i64 0]] false,.slice (aF (a :: t)) true]):=sK fI
 have ju:(pH H l m (aD true l0 (a :: t)) (ds.map aC))[H.length+2+ds.length]?=some (.box aJ (ds.map aC).flatten):=by
  have:=sJ (H:=H) (l:=l) (m:=m) (M:=(aD true l0 (a :: t))) bB
  rw[ao'] at this
  exact this
 have h1:H.length+2≠H.length:=by omega
 have h2:H.length+2≠H.length+2+ds.length:=by omega
 have hlen:H.length+2<(pH H l m (aD true l0 (a :: t)) (ds.map aC)).length:=by rw[mj];show H.length+2<H.length+1+2+_;omega
 have Hh:∀ o,((pH H l m (aD true l0 (a :: t)) (ds.map aC)).set (H.length+2) o)[H.length]?=some (.ca [.sref (H.length+2) 0 2 6,.sref (H.length+2+ds.length) 0 ds.length 31,.slice (ints l) false,.int .i64 m.pos,.int .i64 m.next,.int .i64 m.left,.int .i64 m.own]):=fun o=>by rw[apk h1];exact hg
 have Kh:∀ o,((pH H l m (aD true l0 (a :: t)) (ds.map aC)).set (H.length+2) o)[H.length+2]?=some o:=fun o=>apo hlen
 have Pg:∀ o,((pH H l m (aD true l0 (a :: t)) (ds.map aC)).set (H.length+2) o)[H.length+2+ds.length]?=some (.box aJ (ds.map aC).flatten):=fun o=>by rw[apk h2];exact ju
 have dB:(pH H l m (aD true l0 (a :: t)) (ds.map aC)).set (H.length+2) (.box aJ [.int .i64 0,.int .i64 1,.int .i64 0,.str ji,.ae,oI l0,.int .i64 0,.int .i64 1,.int .i64 1,.str jL,.slice [[.int .i64 0,.int .i64 1,.int .i64 0]] false,.slice (aF ((a :: t)++[d.id])) true])=pH H l m (aD true l0 ((a :: t)++[d.id])) (ds.map aC):=r8 (M:=(aD true l0 (a :: t))) (M':=(aD true l0 ((a :: t)++[d.id]))) fI rfl
 have hr:(ds.map aC)[i]?=some (aC d):=by rw[ao1,hd];rfl
 have Pw:ag false true 3 (i*31) (ds.map aC).flatten=some (.agg [.int .i64 d.id.bN,.int .i64 d.id.seq,.int .i64 d.id.index]) :=
  (gp (j:=0) fO hr (by omega) (by omega) (by omega)).trans rfl
 have jS:bw false 3 24 (.slice (aF (a :: t)) true) (.slice [[.int .i64 d.id.bN,.int .i64 d.id.seq,.int .i64 d.id.index]] true)=some (.slice (aF ((a :: t)++[d.id])) true):=Bt (by simp;omega)
 have Cs:ag true false 1 11 [.int .i64 0,.int .i64 1,.int .i64 0,.str ji,.ae,oI l0,.int .i64 0,.int .i64 1,.int .i64 1,.str jL,.slice [[.int .i64 0,.int .i64 1,.int .i64 0]] false,.slice (aF (a :: t)) true]=some (.slice (aF (a :: t)) true):=rfl
 have lO:decide (i<ds.length)=true:=by simpa using aU
 simp only[apv,apj] at dB hQ jS
 simp(disch:=omega)only[aL,aa,simprocAttr,bS,bV,bA,bW,cH,bu,dL,au,ar,aW,cM,bP,apO,apP,B8,p8,mB,n9,n8,n7,n6,n5,n4,hN,cm,dj,iz,Cs,fY,AI,hg,IM,ju,Hh,Kh,Pg,List.set_set,dB,Pw,jS,lO,e3,e7,e8,aY,lr,jK]
 exact hQ _ (by simp(disch:=omega)only[aL,aa,simprocAttr])
end Go.Proofs.YthbncinhhdogpaaGreatDoor
