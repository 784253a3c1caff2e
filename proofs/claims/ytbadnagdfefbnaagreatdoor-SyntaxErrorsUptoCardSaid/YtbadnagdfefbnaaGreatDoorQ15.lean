/-
  A part of the proof of SyntaxErrors: UW4, UW5, UW6, V7, UR48, Y3, Y4, Y1, Y2, V9, Y8.
-/
import Derived.KernelRfl
import Derived.Test.YtbadnagdfefbnaaGreatDoorQ14
set_option linter.unusedSimpArgs false
set_option linter.unusedVariables false
set_option linter.defProp false
set_option maxHeartbeats 4000000
set_option maxRecDepth 100000
noncomputable section
namespace Go.Proofs.YtbadnagdfefbnaaGreatDoor
open Go Go.Abs Go.Proofs
variable {u:Fd}{f:Fm}{k:Int}{a b:List ay}{i m mm:Nat}{K:ae}{s:ay}
def aaW(h:PW mm K){k:Wd}(hk:∀ mm K,PW mm K->x6 mm K 60 [.ref mm 0,.agg (gX k)] (bW k)):x6 mm K 100 [.ref mm 0,.slice (aH [k]) false] ([[40]]++bW k++[[41]]):=by
 intro l hl;simp only[List.length_append,List.length_cons,List.length_nil] at hl;have aZ:=h.lt;have e1:=fV h true l false;simp only[av8,awz] at e1;have e2:=dv h [[40]] l false ag kq;have e3:=hk mm K h (l++[[40]]) kq;have e4:=dv h [[41]] (l++[[40]]++bW k) false ag kq;rw[ug] at e2 e4;rw[show l++([[40]]++bW k++[[41]])=l++[[40]]++bW k++[[41]] by simp only[avj]]
 refine cW Oy.eq_1 ?_;have h0:=fO (l:=l) (b:=false) h;unfold nx at h0;have ho:=h.open (l++[[40]]++bW k++[[41]]) false;rw[iA] at e3;have gn:(aH [k])[0]?=some [.str k.name,.slice (aH k.kids) false]:=by rw[acj (l:=[k]) (i:=0) rfl,iA]
 exact nL6 @iw gn e1 e2 (j2 e3 e4) (j5 h0 @fY ho @Nat.lt_irrefl @bu) tv
def Pa:∀ (w:Wd),bY w=true->∀ (mm:Nat) (K:ae),PW mm K->x6 mm K 60 [.ref mm 0,.agg (gX w)] (bW w)
 | .mk n ks,hp,mm,K,hP=>by
  by_cases hn:n=cR
  ·subst hn
   obtain⟨k,rfl⟩:∃ k,ks=[k]:=by
    rw[GO] at hp
    match ks,hp with
    | [k],_=>exact⟨k,rfl⟩
    | [],h=>cases h
    | _ :: _ :: _,h=>cases h
   have BW:bY k=true:=by rw[bY] at hp;simpa using hp
   have ih:=Pa k BW;intro l hl;rw[Pb,show Rn [k]=[[40]]++bW k++[[41]] from rfl] at hl ⊢
   simp only[List.length_append,List.length_cons,List.length_nil] at hl;rw[gX];have fJ:PW mm (K++[.box 53 [.str cR,.slice (aH [k]) false]]):=hP.push (fun cs e=>by cases e)
   have dc:=sq (l:=l) (b:=false) hP (L:=[.box 53 [.str cR,.slice (aH [k]) false]]);have fK:=fun l b=>DM (l:=l) (b:=b) hP (o:=.box 53 [.str cR,.slice (aH [k]) false])
   have hT:=fun l b=>qd (l:=l) (b:=b) hP (L:=[.box 53 [.str cR,.slice (aH [k]) false]])
   have hO:=fun l b=>hP.ON (L:=[.box 53 [.str cR,.slice (aH [k]) false]]) l b
   have aZ:=hP.lt;generalize K++[.box 53 [.str cR,.slice (aH [k]) false]]=K1 at fJ dc fK hT hO;have e1:=dv fJ [cR] l false ag kq;rw[ug] at e1;have e2:=aaW fJ ih (l++[cR]) kq;generalize [[40]]++bW k++[[41]]=TW at e2 ⊢;rw[<- avj];refine cW UI.eq_1 ?_;have n1e:(cR==([73,110,116]:ay))=false:=aI;have n2e:(cR==([66,111,111,108]:ay))=false:=aI;have n3e:(cR==([76,105,115,116]:ay))=true:=aI;have ho:=hO (l++[cR]++TW) false;exact nM (j2 (j5 dc fK e1 e2 n1e) (j5 n2e hT ho @Nat.lt_irrefl @bu)) tv
  ·have IT:=xG (ks:=ks) hn
   rw[hp] at IT;have IT:=IT.symm;rw[au6,avf] at IT;have yL:ks=[]:=avl.1 IT.1;subst yL;have uQ:n.length<=1100000:=by
    have h2:=IT.2;rw[awx,awx] at h2;rcases h2 with (h|h)|h
    ·rw[avM] at h;rw[h];decide
    ·rw[avM] at h;rw[h];decide
    ·have:=vO h;omega
   have he:=aap 0 (.mk n []) ah (by exact⟨uQ,rfl⟩) mm K hP
   rw[hp] at he;exact akL he ah
theorem ago{t:Tm}(hp:az t=true):0<(af t).length:=by
 have hu:=iE hp;have hq:∀ s:ay,0<(aL s).length:=fun s=>by unfold aL;split<;>simp
 rw[bJ]
 rcases uT t.kind with e|e|e|e|e|e|e|e|e|e|e|e|e|e
 ·grind [b0]
 ·grind [b1]
 ·grind [b2]
 ·grind [b3]
 ·have dQ:=KC e hu
  rw[hp] at dQ;have dQ:=dQ.symm;simp only[au6,jf,avf] at dQ
  by_cases h7:(cQ t.n).2=7
  ·rw[if_pos h7] at dQ
   obtain⟨x,hx⟩:=Bw (show t.kids.length=1 by omega)
   rw[e,hx,avm,avN,b4a];(simp only[List.length_append,List.length_cons,List.length_nil];omega)
  ·rw[if_neg h7] at dQ
   obtain⟨x,y,hx⟩:=xz (show t.kids.length=2 by omega)
   rw[e,hx,avm,avm,avN,b4b];(simp only[List.length_append,List.length_cons,List.length_nil];omega)
 ·have dQ:=Vu e hu
  rw[hp] at dQ;have dQ:=dQ.symm;simp only[au6,jf,avf] at dQ;obtain⟨x,y,z,hx⟩:=ME (show t.kids.length=3 by omega)
  rw[e,hx,avm,avm,avm,avN,b5];(simp only[List.length_append,List.length_cons,List.length_nil];omega)
 ·have dQ:=Vv e hu
  rw[hp] at dQ;have dQ:=dQ.symm;simp only[au6,jf,avf] at dQ;obtain⟨x,y,hx⟩:=xz (show t.kids.length=2 by omega)
  obtain⟨p,hn⟩:=Bw (show t.names.length=1 by omega)
  rw[e,hx,hn,avm,avm,avN,b6];(simp only[List.length_append,List.length_cons,List.length_nil];omega)
 ·grind [b7]
 ·have dQ:=OU e hu
  rw[hp] at dQ;have dQ:=dQ.symm;simp only[au6,avf] at dQ;obtain⟨x,hx⟩:=Bw (show t.kids.length=1 by omega)
  rw[e,hx,avm,avN,b8];(simp only[List.length_append,List.length_cons,List.length_nil];omega)
 ·have dQ:=OV e hu
  rw[hp] at dQ;have dQ:=dQ.symm;simp only[au6,avf] at dQ;obtain⟨x,hx⟩:=Bw (show t.kids.length=1 by omega)
  rw[e,hx,avm,avN,b9];(simp only[List.length_append,List.length_cons,List.length_nil];omega)
 ·have dQ:=Ih e hu
  rw[hp] at dQ;have dQ:=dQ.symm;simp only[au6,avf] at dQ;obtain⟨x,rest,hx⟩:∃ x rest,t.kids=x :: rest:=by
   cases h:t.kids with
   | nil=>rw[h] at dQ;simp at dQ
   | cons a r=>exact⟨a,r,rfl⟩
  rw[e,hx]
  show 0<([[109,97,116,99,104]]++aL t.name++[[40]]++af x++[[41]]++[[123]]++au (jA t.names (rest.map fun t=>(af t,bE t)))++[[125]]).length
  (simp only[List.length_append,List.length_cons,List.length_nil];omega)
 ·grind [b11]
 ·have dQ:=M8 e hu
  rw[hp] at dQ;have dQ:=dQ.symm;simp only[au6,jf,avf] at dQ;obtain⟨x,y,z,hx⟩:=ME (show t.kids.length=3 by omega)
  obtain⟨p,q,hn⟩:=xz (show t.names.length=2 by omega)
  rw[e,hx,hn,avm,avm,avm,avN,b12];(simp only[List.length_append,List.length_cons,List.length_nil];omega)
 ·have:=zd (vJ hp)
  omega
def OD{ks:List Tm}(gD:∀ u∈ks,mP u):ks.length<=(au (ks.map af)).length:=by
 have:=Mw (tb:=fun _=>[]) (ks:=ks) (fun i hi=>.inr (by
  rw[List.getD_eq_getElem?_getD,au5 hi];exact ago (gD _ (avx _)).1))
 rwa [yT] at this
def af7{t:Tm}(hk:t.kind=0)(hp:az t=true)(gD:∀ u∈t.kids,mP u)(hP:PW mm K):x6 mm K 64 [.ref mm 0,.agg (aM t)] (af t):=by
 intro l hl;have hu:=iE hp;have dQ:=Vs hk hu;rw[hp] at dQ;have dQ:=dQ.symm;have hU:=akz hk hu;have kL:=bJ t;rw[hk] at kL;obtain⟨K1,fJ,dc,fK,hT,hO⟩:=oO hP t;have aZ:=hP.lt;have ph:=fun K=>jl t K
 rw[hu,ai] at ph;have jr:=fun ok l b=>fV fJ ok l b
 have h0:=fun l b=>fO (l:=l) (b:=b) fJ
 unfold nx at h0;rw[avf] at dQ;obtain⟨r1,r2⟩:=dQ;have HL:=fun K=>Mx t.n K ⟨ah,ah⟩
 have Mi:(qM t.n).length<=10000000:=by
  by_cases h:t.n<0
  ·rw[itoa_neg h];have:=yp (n:=(-t.n).toNat) ah;simp;omega
  ·rw[vy ah];have:=yp (n:=t.n.toNat) ah;omega
 have htr:=fun K=>agm (qM t.n) 45 K Mi
 rw[Rp] at htr;rw[kL] at hl ⊢
 by_cases Qo:t.n<0
 ·rw[b0,if_pos Qo] at hl ⊢
  simp only[List.length_cons,List.length_nil] at hl;rw[if_pos Qo] at htr;have e1:=dv fJ [[45]] l false ag dq;have e2:=dv fJ [jT (-t.n).toNat] (l++[[45]]) false ag dq;rw[ug] at e1 e2;rw[show l++[[45],jT (-t.n).toNat]=l++[[45]]++[jT (-t.n).toNat] by simp]
  have ho:=hO (l++[[45]]++[jT (-t.n).toNat]) false;rw[ai];refine cW ue.eq_1 ?_;exact nL6 dc fK ph jr (j5 h0 hT @Bool.or_self @Nat.lt_irrefl @bu) (j5 ho HL htr e1 e2) tv
 ·rw[b0,if_neg Qo] at hl ⊢
  simp only[List.length_cons,List.length_nil] at hl;rw[if_neg Qo] at htr;have e1:=dv fJ [jT t.n.toNat] l false ag dq;rw[ug] at e1;have ho:=hO (l++[jT t.n.toNat]) false;rw[ai];refine cW ue.eq_1 ?_;exact nL6 dc fK ph jr (j4 h0 hT @Bool.or_self @Nat.lt_irrefl) (j5 @bu ho HL htr e1) tv
def af9{t:Tm}(hk:t.kind=1)(hp:az t=true)(gD:∀ u∈t.kids,mP u)(hP:PW mm K):x6 mm K 64 [.ref mm 0,.agg (aM t)] (af t):=by
 intro l hl;have hu:=iE hp;have dQ:=ajK hk hu;rw[hp] at dQ;have dQ:=dQ.symm;have hU:=akA hk hu;have kL:=bJ t;rw[hk] at kL;obtain⟨K1,fJ,dc,fK,hT,hO⟩:=oO hP t;have aZ:=hP.lt;have ph:=fun K=>jl t K
 rw[hu,ai] at ph;have jr:=fun ok l b=>fV fJ ok l b
 have h0:=fun l b=>fO (l:=l) (b:=b) fJ
 unfold nx at h0;rw[avf] at dQ;rw[kL,b1] at hl ⊢;simp only[List.length_cons,List.length_nil] at hl;have fb:=fun b K=>ac7 b K
 have e1:=fun s=>dv fJ [s] l false ag kq
 simp only[ug] at e1;rw[ai]
 rcases dQ with z|z
 ·rw[if_pos z]
  have ho:=hO (l++[[102,97,108,115,101]]) false;refine cW ue.eq_1 ?_;exact nL6 dc fK ph jr (j3 h0 hT @Bool.or_self) (j5 @Nat.lt_irrefl @bu ho fb e1) tv
 ·rw[if_neg ah]
  have ho:=hO (l++[[116,114,117,101]]) false;refine cW ue.eq_1 ?_;exact nL6 dc fK ph jr (j3 h0 hT @Bool.or_self) (j5 @Nat.lt_irrefl @bu ho fb e1) tv
def af'{t:Tm}(hk:t.kind=2)(hp:az t=true)(gD:∀ u∈t.kids,mP u)(hP:PW mm K):x6 mm K 64 [.ref mm 0,.agg (aM t)] (af t):=by
 intro l hl;have hu:=iE hp;have dQ:=abX hk hu;rw[hp] at dQ;have dQ:=dQ.symm;have hU:=akB hk hu;have kL:=bJ t;rw[hk] at kL;obtain⟨K1,fJ,dc,fK,hT,hO⟩:=oO hP t;have aZ:=hP.lt;have ph:=fun K=>jl t K
 rw[hu,ai] at ph;have jr:=fun ok l b=>fV fJ ok l b
 have h0:=fun l b=>fO (l:=l) (b:=b) fJ
 unfold nx at h0;rw[kL,b2] at hl ⊢;simp only[List.length_cons,List.length_nil] at hl;have e1:=wD fJ dQ (by have:=ny dQ;omega) l ah
 have ho:=hO (l++[t.name]) false;rw[ai];refine cW ue.eq_1 ?_;exact nL6 dc fK ph jr (j2 h0 hT) (j5 @Bool.or_self @Nat.lt_irrefl @bu ho e1) tv
def aga{t:Tm}(hk:t.kind=3)(hp:az t=true)(gD:∀ u∈t.kids,mP u)(hP:PW mm K):x6 mm K 64 [.ref mm 0,.agg (aM t)] (af t):=by
 intro l hl;have hu:=iE hp;have dQ:=abY hk hu;rw[hp] at dQ;have dQ:=dQ.symm;have hU:=akC hk hu;have kL:=bJ t;rw[hk] at kL;obtain⟨K1,fJ,dc,fK,hT,hO⟩:=oO hP t;have aZ:=hP.lt;have ph:=fun K=>jl t K
 rw[hu,ai] at ph;have jr:=fun ok l b=>fV fJ ok l b
 have h0:=fun l b=>fO (l:=l) (b:=b) fJ
 unfold nx at h0;rw[au6] at dQ;obtain⟨g1,g2⟩:=dQ;rw[b3,awh] at kL;rw[show ((fun x:List ay × Int=>x.1) ∘ fun t=>(af t,bE t))=af from rfl] at kL
 have JY:=OD gD;rw[kL] at hl ⊢;simp only[List.length_append,List.length_cons,List.length_nil] at hl;have tw:=vO g1;have e1:=Dy fJ g1 ah l ah;have e2:=dv fJ [[40]] (l++aL t.name) false ag kq;rw[ug] at e2
 by_cases yL:t.kids.length=0
 ·have CV:t.kids=[]:=avl.1 yL
  have e3:∀ Q:ae,aj A 108 [.ref mm 0,.slice [] false,.func (.func 105) [] []] Q=some (.undef,none):=fun Q=>H8
  have e4:=dv fJ [[41]] (l++aL t.name++[[40]]) false ag kq;rw[ug] at e4;rw[CV,avN,show au ([]:List (List ay))=[] from rfl,List.append_nil]
  rw[show l++(aL t.name++[[40]]++[[41]])=l++aL t.name++[[40]]++[[41]] by simp only[avj]]
  have ho:=hO (l++aL t.name++[[40]]++[[41]]) false;rw[ai];rw[CV,ts0] at dc ph fK;rw[CV,ts0];refine cW ue.eq_1 ?_;exact nL6 dc fK ph jr (j5 h0 hT @Bool.or_self @Nat.lt_irrefl @bu) (j5 ho e1 e2 e3 e4) tv
 ·have e3:=B2 (tb:=fun _=>[]) (fb:=105) (cs:=[]) fJ gD ah ah (fun i _=>GG i) (l++aL t.name++[[40]]) (by rw[yT];simp only[List.length_append,List.length_cons,List.length_nil];omega)
  rw[yT] at e3;generalize au (t.kids.map af)=ll at e3 hl JY ⊢;have e4:=dv fJ [[41]] (l++aL t.name++[[40]]++ll) false ag kq;rw[ug] at e4;rw[show l++(aL t.name++[[40]]++ll++[[41]])=l++aL t.name++[[40]]++ll++[[41]] by simp only[avj]]
  have ho:=hO (l++aL t.name++[[40]]++ll++[[41]]) false;rw[ai];refine cW ue.eq_1 ?_;exact nL6 dc fK ph jr (j5 h0 hT @Bool.or_self @Nat.lt_irrefl @bu) (j5 ho e1 e2 e3 e4) tv
def aad{t:Tm}(hk:t.kind=11)(hp:az t=true)(gD:∀ u∈t.kids,mP u)(hP:PW mm K):x6 mm K 64 [.ref mm 0,.agg (aM t)] (af t):=by
 intro l hl;have hu:=iE hp;have dQ:=Vt hk hu;rw[hp] at dQ;have dQ:=dQ.symm;have hU:=acd hk hu;have kL:=bJ t;rw[hk] at kL;obtain⟨K1,fJ,dc,fK,hT,hO⟩:=oO hP t;have aZ:=hP.lt;have ph:=fun K=>jl t K
 rw[hu,ai] at ph;have jr:=fun ok l b=>fV fJ ok l b
 have h0:=fun l b=>fO (l:=l) (b:=b) fJ
 unfold nx at h0;rw[au6] at dQ;obtain⟨g1,g2⟩:=dQ;rw[b11,awh] at kL;rw[show ((fun x:List ay × Int=>x.1) ∘ fun t=>(af t,bE t))=af from rfl] at kL
 have JY:=OD gD;have kL:af t=[cR]++([[40]]++bW (.mk t.wn t.wk)++[[41]])++[[91]]++au (t.kids.map af)++[[93]]:=by rw[kL];simp only[avj]
 have hw:=fun l=>aaW fJ (Pa _ g1) l
 generalize [[40]]++bW (.mk t.wn t.wk)++[[41]]=TW at kL hw;rw[kL] at hl ⊢;simp only[List.length_append,List.length_cons,List.length_nil] at hl;have e1:=dv fJ [cR] l false ag kq;rw[ug] at e1;have e2:=hw (l++[cR]) kq;rw[show aH [.mk t.wn t.wk]=[[.str t.wn,.slice (aH t.wk) false]] from by simp[aH,gX]] at e2
 have e3:=dv fJ [[91]] (l++[cR]++TW) false ag kq;rw[ug] at e3
 by_cases yL:t.kids.length=0
 ·have CV:t.kids=[]:=avl.1 yL
  have e4:∀ Q:ae,aj A 108 [.ref mm 0,.slice [] false,.func (.func 105) [] []] Q=some (.undef,none):=fun Q=>H8
  have e5:=dv fJ [[93]] (l++[cR]++TW++[[91]]) false ag kq;rw[ug] at e5;rw[CV,avN,show au ([]:List (List ay))=[] from rfl,List.append_nil]
  rw[show l++([cR]++TW++[[91]]++[[93]])=l++[cR]++TW++[[91]]++[[93]] by simp only[avj]]
  have ho:=hO (l++[cR]++TW++[[91]]++[[93]]) false;rw[ai];rw[CV,ts0] at dc ph fK;rw[CV,ts0];refine cW ue.eq_1 ?_;exact nL6 dc fK ph (j2 jr h0) (j5 hT @Bool.or_self @Nat.lt_irrefl @bu ho) (j5 e1 e2 e3 e4 e5) tv
 ·have e4:=B2 (tb:=fun _=>[]) (fb:=105) (cs:=[]) fJ gD ah ah (fun i _=>GG i) (l++[cR]++TW++[[91]]) (by rw[yT];simp only[List.length_append,List.length_cons,List.length_nil];omega)
  rw[yT] at e4;generalize au (t.kids.map af)=ll at e4 hl JY ⊢;have e5:=dv fJ [[93]] (l++[cR]++TW++[[91]]++ll) false ag kq;rw[ug] at e5;rw[show l++([cR]++TW++[[91]]++ll++[[93]])=l++[cR]++TW++[[91]]++ll++[[93]] by simp only[avj]]
  have ho:=hO (l++[cR]++TW++[[91]]++ll++[[93]]) false;rw[ai];refine cW ue.eq_1 ?_;exact nL6 dc fK ph (j2 jr h0) (j5 hT @Bool.or_self @Nat.lt_irrefl @bu ho) (j5 e1 e2 e3 e4 e5) tv
def agc{t:Tm}(hk:t.kind=5)(hp:az t=true)(gD:∀ u∈t.kids,mP u)(hP:PW mm K):x6 mm K 64 [.ref mm 0,.agg (aM t)] (af t):=by
 intro l hl;have hu:=iE hp;have dQ:=Vu hk hu;rw[hp] at dQ;have dQ:=dQ.symm;have hU:=akE hk hu;have kL:=bJ t;rw[hk] at kL;obtain⟨K1,fJ,dc,fK,hT,hO⟩:=oO hP t;have aZ:=hP.lt;have ph:=fun K=>jl t K
 rw[hu,ai] at ph;have jr:=fun ok l b=>fV fJ ok l b
 have h0:=fun l b=>fO (l:=l) (b:=b) fJ
 unfold nx at h0;rw[au6] at dQ;obtain⟨hh,g2⟩:=dQ;have hv:=yF fJ hh l;unfold jf at hh;simp only[au6,avf] at hh;obtain⟨x,y,z,Aa⟩:=ME (show t.kids.length=3 by omega)
 have Mj:∀ u∈[x,y,z],mP u:=fun u HQ=>gD u (by rw[Aa];exact HQ)
 have kL:af t=Ap [[105,102],[116,104,101,110],[101,108,115,101]] [x,y,z] 3:=by rw[kL,Aa,pt3];simp[b5]
 rw[kL] at hl ⊢;have e1:=Du (ts:=[[105,102],[116,104,101,110],[101,108,115,101]]) fJ Mj ag ag rfl l hl;rw[show ([x,y,z]:List Tm).length=3 from rfl] at e1
 generalize Ap [[105,102],[116,104,101,110],[101,108,115,101]] [x,y,z] 3=TT at e1 hl ⊢;rw[<- Aa] at e1;rw[show strs [[105,102],[116,104,101,110],[101,108,115,101]]=[[.str [105,102]],[.str [116,104,101,110]],[.str [101,108,115,101]]] from rfl] at e1
 have ho:=hO (l++TT) false;rw[ai] at hv ⊢;refine cW ue.eq_1 ?_;exact nL6 dc fK ph jr (j3 h0 hT @Bool.or_self) (j5 @Nat.lt_irrefl @bu ho hv e1) tv
def agd{t:Tm}(hk:t.kind=6)(hp:az t=true)(gD:∀ u∈t.kids,mP u)(hP:PW mm K):x6 mm K 64 [.ref mm 0,.agg (aM t)] (af t):=by
 intro l hl;have hu:=iE hp;have dQ:=Vv hk hu;rw[hp] at dQ;have dQ:=dQ.symm;have hU:=akF hk hu;have kL:=bJ t;rw[hk] at kL;obtain⟨K1,fJ,dc,fK,hT,hO⟩:=oO hP t;have aZ:=hP.lt;have ph:=fun K=>jl t K
 rw[hu,ai] at ph;have jr:=fun ok l b=>fV fJ ok l b
 have h0:=fun l b=>fO (l:=l) (b:=b) fJ
 unfold nx at h0;rw[au6,au6] at dQ;obtain⟨⟨hh,g1⟩,g2⟩:=dQ;have hv:=yF fJ hh l;unfold jf at hh;simp only[au6,avf] at hh;obtain⟨x,y,Aa⟩:=xz (show t.kids.length=2 by omega)
 obtain⟨p,A1⟩:=Bw (show t.names.length=1 by omega)
 have IT:isWord p=true:=by rw[A1] at g1;simpa using g1
 have vY:(strs t.names)[0]?=some [.str p]:=by rw[A1];rfl
 have Mj:∀ u∈[x,y],mP u:=fun u HQ=>gD u (by rw[Aa];exact HQ)
 have gW:=ny IT;have kL:af t=[[108,101,116]]++[p]++Ap [[61],[105,110]] [x,y] 2:=by rw[kL,Aa,A1,pt2];simp[b6]
 rw[kL] at hl ⊢;simp only[List.length_append,List.length_cons,List.length_nil] at hl;have e1:=dv fJ [[108,101,116]] l false ag kq;rw[ug] at e1;have e2:=wD fJ IT ah (l++[[108,101,116]]) kq;have e3:=Du (ts:=[[61],[105,110]]) fJ Mj ag ag rfl (l++[[108,101,116]]++[p]) (by rw[show ([x,y]:List Tm).length=2 from rfl];simp only[List.length_append,List.length_cons,List.length_nil];omega)
 rw[show ([x,y]:List Tm).length=2 from rfl] at e3
 generalize Ap [[61],[105,110]] [x,y] 2=TT at e3 hl ⊢;rw[<- Aa] at e3;rw[show strs [[61],[105,110]]=[[.str [61]],[.str [105,110]]] from rfl] at e3
 rw[show l++([[108,101,116]]++[p]++TT)=l++[[108,101,116]]++[p]++TT by simp only[avj]]
 have ho:=hO (l++[[108,101,116]]++[p]++TT) false;rw[ai] at hv ⊢;refine cW ue.eq_1 ?_;exact nL6 dc fK ph (j2 jr h0) (j5 hT @Bool.or_self @Nat.lt_irrefl @bu ho) (j5 hv vY e1 e2 e3) tv
def aae{t:Tm}(hk:t.kind=12)(hp:az t=true)(gD:∀ u∈t.kids,mP u)(hP:PW mm K):x6 mm K 64 [.ref mm 0,.agg (aM t)] (af t):=by
 intro l hl;have hu:=iE hp;have dQ:=M8 hk hu;rw[hp] at dQ;have dQ:=dQ.symm;have hU:=ace hk hu;have kL:=bJ t;rw[hk] at kL;obtain⟨K1,fJ,dc,fK,hT,hO⟩:=oO hP t;have aZ:=hP.lt;have ph:=fun K=>jl t K
 rw[hu,ai] at ph;have jr:=fun ok l b=>fV fJ ok l b
 have h0:=fun l b=>fO (l:=l) (b:=b) fJ
 unfold nx at h0;rw[au6,au6] at dQ;obtain⟨⟨hh,g1⟩,g2⟩:=dQ;have hv:=yF fJ hh l;unfold jf at hh;simp only[au6,avf] at hh;obtain⟨x,y,z,Aa⟩:=ME (show t.kids.length=3 by omega)
 obtain⟨p,q,A1⟩:=xz (show t.names.length=2 by omega)
 have IT:isWord p=true/\isWord q=true:=by rw[A1] at g1;simpa using g1
 obtain⟨IT,hqw⟩:=IT;have vY:(strs t.names)[0]?=some [.str p]:=by rw[A1];rfl
 have haq:(strs t.names)[1]?=some [.str q]:=by rw[A1];rfl
 have Mj:∀ u∈[y,x,z],mP u:=fun u HQ=>gD u (by rw[Aa];simp only[avs,avQ,aww] at HQ ⊢;rcases HQ with rfl|rfl|rfl<;>simp)
 have gW:=ny IT;have hql:=ny hqw;have kL:af t=[[102,111,108,100]]++[p]++[[44]]++[q]++Ap [[61],[111,118,101,114],[100,111]] [y,x,z] 3:=by rw[kL,Aa,A1,pt3];simp[b12]
 rw[kL] at hl ⊢;simp only[List.length_append,List.length_cons,List.length_nil] at hl;have e1:=dv fJ [[102,111,108,100]] l false ag kq;have e2:=wD fJ IT ah (l++[[102,111,108,100]]) kq;have e3:=dv fJ [[44]] (l++[[102,111,108,100]]++[p]) false ag kq;have e4:=wD fJ hqw ah (l++[[102,111,108,100]]++[p]++[[44]]) kq;rw[ug] at e1 e3;have e5:=Du (ts:=[[61],[111,118,101,114],[100,111]]) fJ Mj ag ag rfl (l++[[102,111,108,100]]++[p]++[[44]]++[q]) (by rw[show ([y,x,z]:List Tm).length=3 from rfl];simp only[List.length_append,List.length_cons,List.length_nil];omega)
 rw[show ([y,x,z]:List Tm).length=3 from rfl] at e5
 generalize Ap [[61],[111,118,101,114],[100,111]] [y,x,z] 3=TT at e5 hl ⊢;have yL:(aC t.kids)[0]?=some (aM x):=by rw[Aa];simp[aC]
 have AY:(aC t.kids)[1]?=some (aM y):=by rw[Aa];simp[aC]
 have hk2:(aC t.kids)[2]?=some (aM z):=by rw[Aa];simp[aC]
 rw[ai] at yL AY hk2;rw[show aC [y,x,z]=[aM y,aM x,aM z] from by simp[aC],ai x,ai y,ai z] at e5
 rw[show strs [[61],[111,118,101,114],[100,111]]=[[.str [61]],[.str [111,118,101,114]],[.str [100,111]]] from rfl] at e5
 rw[show l++([[102,111,108,100]]++[p]++[[44]]++[q]++TT)=l++[[102,111,108,100]]++[p]++[[44]]++[q]++TT by simp only[avj]]
 have ho:=hO (l++[[102,111,108,100]]++[p]++[[44]]++[q]++TT) false;rw[ai] at hv ⊢;refine cW ue.eq_1 ?_;exact nL6 dc fK (j4 ph jr h0 hT) (j5 @Bool.or_self @Nat.lt_irrefl @bu ho hv) (j5 vY haq yL AY hk2) (j5 e1 e2 e3 e4 e5) tv
def ajD{t:Tm}(hk:t.kind=4)(hp:az t=true)(gD:∀ u∈t.kids,mP u)(hP:PW mm K):x6 mm K 109 [.ref mm 0,.agg (aM t)] (af t):=by
 intro l hl;have hu:=iE hp;have dQ:=KC hk hu;rw[hp] at dQ;have dQ:=dQ.symm;rw[au6,au6,avf] at dQ;obtain⟨⟨hr,hh⟩,g2⟩:=dQ;have kL:=bJ t;rw[hk] at kL;obtain⟨K1,fJ,dc,fK,hT,hO⟩:=oO hP t;have aZ:=hP.lt;have hs:=fun K=>KX t.n K
 have hsw:ot t.n=cQ t.n:=O0 ah;have dk:=O1 hr;obtain⟨v0,v7⟩:=Wg t.n;rw[hsw] at hs;generalize hsg:cQ t.n=sg at *;obtain⟨s,lv⟩:=sg;simp only at dk v0 v7 hs hh;have hse:(s==[])=false:=cY dk
 by_cases h7:lv=7
 ·subst h7
  rw[if_pos rfl] at hh;have hc:=fV fJ true l false;simp only[av8,awz] at hc;have hv:=yF fJ hh l;unfold jf at hh;simp only[au6,avf] at hh;obtain⟨x,hx⟩:∃ x,t.kids=[x]:=Bw ah;have RD:=gD x (by rw[hx];simp)
  have gn:(aC t.kids)[0]?=some (aM x):=by rw[hx];simp[aC]
  have kL:af t=[s]++fT (af x,bE x) 7:=by rw[kL,hx];simp[b4a,hsg]
  rw[kL] at hl ⊢;simp only[List.length_append,List.length_cons,List.length_nil] at hl;have e1:=dv fJ [s] l false ag kq;rw[ug] at e1;have e2:=Mz RD 7 fJ (l++[s]) kq;rw[ai x] at gn e2;rw[<- avj];have ho:=hO (l++[s]++fT (af x,bE x) 7) false;rw[ai] at hv ⊢;refine cW Oz.eq_1 ?_;exact nL6 dc fK hs hse (j4 hc hv gn e1) (j5 e2 hT ho @Nat.lt_irrefl @bu) tv
 ·rw[if_neg h7] at hh
  have hv:=yF fJ hh l;unfold jf at hh;simp only[au6,avf] at hh;obtain⟨x,y,hx⟩:∃ x y,t.kids=[x,y]:=xz ah;have RD:=gD x (by rw[hx];simp)
  have hky:=gD y (by rw[hx];simp)
  have gn:(aC t.kids)[0]?=some (aM x):=by rw[hx];simp[aC]
  have HH:(aC t.kids)[1]?=some (aM y):=by rw[hx];simp[aC]
  have kL:af t=fT (af x,bE x) (if lv=3 then 4 else lv)++[s]++fT (af y,bE y) (lv+1):=by rw[kL,hx];simp[b4b,hsg]
  rw[kL] at hl ⊢;simp only[List.length_append,List.length_cons,List.length_nil] at hl;have e1:=Mz RD (if lv=3 then 4 else lv) fJ l ah
  have e2:=dv fJ [s] (l++fT (af x,bE x) (if lv=3 then 4 else lv)) false ag kq
  rw[ug] at e2;have e3:=Mz hky (lv+1) fJ (l++fT (af x,bE x) (if lv=3 then 4 else lv)++[s]) kq
  rw[ai x] at gn e1;rw[ai y] at HH e3;rw[<- avj,<- avj];have ho:=hO (l++fT (af x,bE x) (if lv=3 then 4 else lv)++[s]++fT (af y,bE y) (lv+1)) false
  rw[ai] at hv ⊢
  by_cases h3:lv=3
  ·subst h3
   rw[if_pos rfl] at e1 e2 e3 ho ⊢;rw[show (3:Int)+1=4 from rfl] at e3 ho ⊢
   generalize fT (af x,bE x) 4=kx at e1 e2 e3 ho ⊢;generalize fT (af y,bE y) 4=ky at e3 ho ⊢;refine cW Oz.eq_1 ?_;exact nL6 dc fK hs hv (j4 gn HH e1 e2) (j5 e3 hT ho @Nat.lt_irrefl @bu) tv
  ·rw[if_neg h3] at e1 e2 e3 ho ⊢
   generalize fT (af x,bE x) lv=kx at e1 e2 e3 ho ⊢;generalize fT (af y,bE y) (lv+1)=ky at e3 ho ⊢;refine cW Oz.eq_1 ?_;exact nL6 dc fK hs hv (j4 gn HH e1 e2) (j5 e3 hT ho @Nat.lt_irrefl @bu) tv
def agb{t:Tm}(hk:t.kind=4)(hp:az t=true)(gD:∀ u∈t.kids,mP u)(hP:PW mm K):x6 mm K 64 [.ref mm 0,.agg (aM t)] (af t):=by
 intro l hl;have hu:=iE hp;have dQ:=KC hk hu;rw[hp] at dQ;have dQ:=dQ.symm;have hU:=akD hk hu;have kL:=bJ t;rw[hk] at kL;obtain⟨K1,fJ,dc,fK,hT,hO⟩:=oO hP t;have aZ:=hP.lt;have ph:=fun K=>jl t K
 rw[hu,ai] at ph;have jr:=fun ok l b=>fV fJ ok l b
 have h0:=fun l b=>fO (l:=l) (b:=b) fJ
 unfold nx at h0;have e1:=ajD hk hp gD fJ l hl;have ho:=hO (l++af t) false;generalize af t=TT at e1 ho ⊢;rw[ai] at e1 ⊢;refine cW ue.eq_1 ?_;exact nL6 dc fK ph jr (j2 h0 hT) (j5 @Bool.or_self @Nat.lt_irrefl @bu ho e1) tv
def age{t:Tm}(hk:t.kind=7)(hp:az t=true)(gD:∀ u∈t.kids,mP u)(hP:PW mm K):x6 mm K 64 [.ref mm 0,.agg (aM t)] (af t):=by
 intro l hl;have hu:=iE hp;have dQ:=Vw hk hu;rw[hp] at dQ;have dQ:=dQ.symm;have hU:=akG hk hu;have kL:=bJ t;rw[hk] at kL;obtain⟨K1,fJ,dc,fK,hT,hO⟩:=oO hP t;have aZ:=hP.lt;have ph:=fun K=>jl t K
 rw[hu,ai] at ph;have jr:=fun ok l b=>fV fJ ok l b
 have h0:=fun l b=>fO (l:=l) (b:=b) fJ
 unfold nx at h0;have e1:=aai hk hp gD fJ l hl;have ho:=hO (l++af t) false;generalize af t=TT at e1 ho ⊢;rw[ai] at e1 ⊢;refine cW ue.eq_1 ?_;exact nL6 dc fK ph jr (j2 h0 hT) (j5 @Bool.or_self @Nat.lt_irrefl @bu ho e1) tv
def agf{t:Tm}(hk:t.kind=8)(hp:az t=true)(gD:∀ u∈t.kids,mP u)(hP:PW mm K):x6 mm K 64 [.ref mm 0,.agg (aM t)] (af t):=by
 intro l hl;have hu:=iE hp;have dQ:=OU hk hu;rw[hp] at dQ;have dQ:=dQ.symm;have hU:=ags hk hu;have kL:=bJ t;rw[hk] at kL;obtain⟨K1,fJ,dc,fK,hT,hO⟩:=oO hP t;have aZ:=hP.lt;have ph:=fun K=>jl t K
 rw[hu,ai] at ph;have jr:=fun ok l b=>fV fJ ok l b
 have h0:=fun l b=>fO (l:=l) (b:=b) fJ
 unfold nx at h0;have e1:=aaj hk hp gD fJ l hl;have ho:=hO (l++af t) false;generalize af t=TT at e1 ho ⊢;rw[ai] at e1 ⊢;refine cW ue.eq_1 ?_;exact nL6 dc fK ph jr (j2 h0 hT) (j5 @Bool.or_self @Nat.lt_irrefl @bu ho e1) tv
def agh{t:Tm}(hk:t.kind=9)(hp:az t=true)(gD:∀ u∈t.kids,mP u)(hP:PW mm K):x6 mm K 64 [.ref mm 0,.agg (aM t)] (af t):=by
 intro l hl;have hu:=iE hp;have dQ:=OV hk hu;rw[hp] at dQ;have dQ:=dQ.symm;have hU:=agt hk hu;have kL:=bJ t;rw[hk] at kL;obtain⟨K1,fJ,dc,fK,hT,hO⟩:=oO hP t;have aZ:=hP.lt;have ph:=fun K=>jl t K
 rw[hu,ai] at ph;have jr:=fun ok l b=>fV fJ ok l b
 have h0:=fun l b=>fO (l:=l) (b:=b) fJ
 unfold nx at h0;have e1:=aak hk hp gD fJ l hl;have ho:=hO (l++af t) false;generalize af t=TT at e1 ho ⊢;rw[ai] at e1 ⊢;refine cW ue.eq_1 ?_;exact nL6 dc fK ph jr (j2 h0 hT) (j5 @Bool.or_self @Nat.lt_irrefl @bu ho e1) tv
def aac{t:Tm}(hk:t.kind=10)(hp:az t=true)(gD:∀ u∈t.kids,mP u)(hP:PW mm K):x6 mm K 64 [.ref mm 0,.agg (aM t)] (af t):=by
 intro l hl;have hu:=iE hp;have dQ:=Ih hk hu;rw[hp] at dQ;have dQ:=dQ.symm;have hU:=acb hk hu;have kL:=bJ t;rw[hk] at kL;obtain⟨K1,fJ,dc,fK,hT,hO⟩:=oO hP t;have aZ:=hP.lt;have ph:=fun K=>jl t K
 rw[hu,ai] at ph;have jr:=fun ok l b=>fV fJ ok l b
 have h0:=fun l b=>fO (l:=l) (b:=b) fJ
 unfold nx at h0;have e1:=Wv hk hp gD fJ l hl;have ho:=hO (l++af t) false;generalize af t=TT at e1 ho ⊢;rw[ai] at e1 ⊢;refine cW ue.eq_1 ?_;exact nL6 dc fK ph jr (j2 h0 hT) (j5 @Bool.or_self @Nat.lt_irrefl @bu ho e1) tv
def akw{t:Tm}(hp:az t=true)(gD:∀ u∈t.kids,mP u):mP t:=by
 refine⟨hp,fun mm K hP=>?_⟩
 rcases uT t.kind with e|e|e|e|e|e|e|e|e|e|e|e|e|e
 ·exact af7 e hp gD hP
 ·exact af9 e hp gD hP
 ·exact af' e hp gD hP
 ·exact aga e hp gD hP
 ·exact agb e hp gD hP
 ·exact agc e hp gD hP
 ·exact agd e hp gD hP
 ·exact age e hp gD hP
 ·exact agf e hp gD hP
 ·exact agh e hp gD hP
 ·exact aac e hp gD hP
 ·exact aad e hp gD hP
 ·exact aae e hp gD hP
 ·have:=zd (vJ hp)
  omega
theorem aeI{t u:Tm}(h:u∈t.kids):SizeOf.sizeOf u<SizeOf.sizeOf t:=by
 cases t with
 | mk k n a f wn wk ks ns =>
  have:=List.sizeOf_lt_of_mem (show u∈ks from h)
  grind
def K7(t:Tm)(hp:az t=true):mP t :=
 akw hp (fun u hu=>K7 u ((vJ hp).kids u hu))
termination_by SizeOf.sizeOf t
decreasing_by exact aeI hu
def uV:∀ (l:List (List ay)) (i:Nat),(au (l.take i)).length<=(au l).length
 | [],i=>ag
 | a :: r,0=>by simp[au]
 | [a],i+1=>ag
 | a :: b :: r,1=>by simp only[avR,avY,au,List.length_append];omega
 | a :: b :: r,i+2=>by
  have ih:=uV (b :: r) (i+1);simp only[avR,au,List.length_append] at ih ⊢;omega
theorem Y7(h:fW k u=true):isWord u.name=true/\bY (.mk u.wn u.wk)=true/\(0<=u.jI/\u.jI<=1099511627776)/\(k=4\/u.jI=0):=by
 unfold fW at h
 grind
def P0 : 0<(cb k u).length:=by
 unfold cb;split<;>(simp only[List.length_append,List.length_cons,List.length_nil];omega)
theorem Wk : f.bQ.length<=(au (f.bQ.map (cb f.kind))).length:=by
 have:=Ai (f.bQ.map (cb f.kind)) (fun x hx=>by obtain⟨u,_,rfl⟩:=List.mem_map.1 hx;exact P0)
 grind
theorem Ro(hk:0<=f.kind/\f.kind<=5)(hp:ij f=true)(hlen:(j8 f).length<=8000000)(H:ae):aj A 20 [.agg (cm f)] H=some (.slice (strs (j8 f)) true,none):=by
 obtain⟨kn,Qk⟩:∃ kn,kn=dJ.getD f.kind.toNat []:=⟨_,rfl⟩;have fta:j8 f=[kn,f.name,[40]]++au (f.bQ.map (cb f.kind))++[[41]]++(if f.kind=0\/f.kind=1 then [] else bW (.mk f.rn f.rk)++[[61]]++af f.body):=by unfold j8;rw[Qk]
 have hpf:=hp;unfold ij at hpf;rw[au6,au6] at hpf;obtain⟨⟨p1,p2⟩,p3⟩:=hpf;have qv:=Wk (f:=f);have hle:=fun i=>uV (f.bQ.map (cb f.kind)) i
 have ft:∀ u∈f.bQ,fW f.kind u=true:=fun u hu=>ava.1 p2 u hu
 generalize hLL:au (f.bQ.map (cb f.kind))=LL at *;have uN:LL.length+4+(if f.kind=0\/f.kind=1 then [] else bW (.mk f.rn f.rk)++[[61]]++af f.body).length<=8000000:=by
  grind
 rw[cm];obtain⟨K,hK⟩:∃ K,K=H++[.box 58 [.int .i64 f.kind,.str f.name,.slice (f.bQ.map fE) false,.str f.rn,.slice (aH f.rk) false,.int .i64 f.body.kind,.int .i64 f.body.n,.str f.body.name,.str f.body.field,.str f.body.wn,.slice (aH f.body.wk) false,.slice (aC f.body.kids) false,.slice (strs f.body.names) false,.slice (strs f.layout) false],.box 124 [.ar,.bool false]]:=⟨_,rfl⟩;obtain⟨mm,AZ⟩:∃ mm,mm=H.length+1:=⟨_,rfl⟩;have hKl:K.length=H.length+2:=by rw[hK];simp
 have hP:PW mm K:=⟨ah,fun j cs hj=>by
  rw[hK,AZ] at *;intro e;rw[List.getElem?_append_right ah] at e
  match wz:j-H.length with
  | 0=>omega
  | 1=>rw[wz] at e;cases e
  | n+2=>rw[wz] at e;simp at e⟩
 have h0:K[mm]?=some (.box 124 [.ar,.bool false]):=by rw[hK,AZ];exact h2b
 obtain⟨k0,k5⟩:=hk;have adI:(strs dJ)[f.kind.toNat]?=some [.str kn]:=by rw[Qk];exact nT (by show f.kind.toNat<6;omega)
 have ef:=Na hP [kn] ag h0;rw[ug] at ef;have uQ:=ny p1;have e1:=wD hP p1 ah [kn] ag;have e2:=dv hP [[40]] ([kn]++[f.name]) false ag ag;rw[ug] at e2;have fK:∀ l b,(cI mm l b K)[H.length]?=some (.box 58 [.int .i64 f.kind,.str f.name,.slice (f.bQ.map fE) false,.str f.rn,.slice (aH f.rk) false,.int .i64 f.body.kind,.int .i64 f.body.n,.str f.body.name,.str f.body.field,.str f.body.wn,.slice (aH f.body.wk) false,.slice (aC f.body.kids) false,.slice (strs f.body.names) false,.slice (strs f.layout) false]):=fun l b=>by rw[hK,AZ];exact ID
 have yP:∀ l b,(cI mm l b K).take H.length=H:=fun l b=>by rw[hK,AZ];exact Ay
 have CZ:∀ l b x,((cI mm l b K).set mm x).take H.length=H:=fun l b x=>by rw[hK,AZ];exact xO
 have rf:decide (mm<H.length)=false:=dq;have Gp:=fun l b=>fO (l:=l) (b:=b) hP
 unfold nx at Gp;refine cJ (fn:=C5) rfl rfl rfl ?_;refine iX 5 (fun st=>∃ T g,st=⟨T,cI mm [kn,f.name,[40]] false K,H.length,g⟩/\T 1=.ref H.length 0/\T 3=.ref mm 0) ?_ ?_
 ·unfold C5
  simp only[aK.pre];have hKs:=hK.symm;have TM:=AZ.symm;have hab:=vu (H:=H) (o:=.box 58 [.int .i64 f.kind,.str f.name,.slice (f.bQ.map fE) false,.str f.rn,.slice (aH f.rk) false,.int .i64 f.body.kind,.int .i64 f.body.n,.str f.body.name,.str f.body.field,.str f.body.wn,.slice (aH f.body.wk) false,.slice (aC f.body.kids) false,.slice (strs f.body.names) false,.slice (strs f.layout) false]);have e2:aj A 58 [.ref mm 0,.slice [[.str [40]]] false] (cI mm ([kn]++[f.name]) false K)=some (.undef,some ⟨cI mm [kn,f.name,[40]] false K,mm⟩):=e2;generalize [kn]++[f.name]=l2 at e1 e2;refine nL6 hab TM hKs @ahF (j2 adI ef) (j5 e1 e2 fK rf @Nat.lt_irrefl) ?_;exact⟨_,_,rfl,iJ,iJ⟩
 rintro st ⟨T,g,rfl,q1,q3⟩
 refine iX 0 (fun st=>∃ T g,st=⟨T,cI mm ([kn,f.name,[40]]++LL) false K,H.length,g⟩/\T 1=.ref H.length 0/\T 3=.ref mm 0) ?_ ?_
 ·unfold C5
  simp only[aK.post,aK.pre];refine nL2 q1 fK ?_;refine cg f.bQ.length 0 (fun i st=>∃ T g,st=⟨T,cI mm ([kn,f.name,[40]]++au ((f.bQ.map (cb f.kind)).take i)) false K,H.length,g⟩/\T 1=.ref H.length 0/\T 3=.ref mm 0/\T 32=.slice (f.bQ.map fE) false/\T 33=.int .i64 f.bQ.length/\T 34=.int .i64 i)
   (fun st=>∃ T g,st=⟨T,cI mm ([kn,f.name,[40]]++LL) false K,H.length,g⟩/\T 1=.ref H.length 0/\T 3=.ref mm 0) (fun _=>False) ?_ (fun st h=>h) (fun _ h=>h.elim) 0 _ ah ?_
  ·rintro i st hi ⟨T,g,rfl,q1,q3,q32,Zd,q34⟩
   by_cases aZ:i<f.bQ.length
   ·have hx:=au5 aZ
    have hm:=avx aZ;have nA:(f.bQ.map (cb f.kind)).take (i+1)=(f.bQ.map (cb f.kind)).take i++[cb f.kind f.bQ[i]]:=by
     rw[awv,List.getElem?_map,hx];rfl
    have TP:=hle (i+1);have kZ:=jg (cb f.kind f.bQ[i]) ((f.bQ.map (cb f.kind)).take i);rw[<- nA] at kZ;generalize f.bQ[i]=u at hx hm kZ;have gn:=Td hx;rw[fE] at gn;obtain⟨u1,u2,⟨m0,m1⟩,u4⟩:=Y7 (ft u hm);have T9:=ny u1;have hwX:=Pa _ u2;rw[hLL.symm] at uN;generalize yD:au ((f.bQ.map (cb f.kind)).take i)=acc at *;have WX:((f.bQ.map (cb f.kind)).take i=[])↔i=0:=by
     constructor
     ·intro h
      have:=awt List.length h
      rw[avU,List.length_map,List.length_nil] at this;omega
     ·intro h;rw[h];rfl
    rw[hLL] at uN;have fin:∀ (T' : aD) (g' : Nat) (lz:List ay),lz=[kn,f.name,[40]]++au ((f.bQ.map (cb f.kind)).take (i+1))->T' 1=.ref H.length 0->T' 3=.ref mm 0->T' 32=.slice (f.bQ.map fE) false->T' 33=.int .i64 f.bQ.length->T' 34=.int .i64 ((i:Int)+1) ->
      i<f.bQ.length/\∃ T g,(⟨T',cI mm lz false K,H.length,g'⟩:AS)=⟨T,cI mm ([kn,f.name,[40]]++au ((f.bQ.map (cb f.kind)).take (i+1))) false K,H.length,g⟩/\T 1=.ref H.length 0/\T 3=.ref mm 0/\T 32=.slice (f.bQ.map fE) false/\T 33=.int .i64 f.bQ.length/\T 34=.int .i64 ((i:Int)+1) :=
     fun T' g' lz hz r1 r3 r32 r33 r34=>⟨aZ,T',g',by rw[hz],r1,r3,r32,r33,r34⟩
    obtain⟨nxt,ait⟩:∃ x,x=au ((f.bQ.map (cb f.kind)).take (i+1)):=⟨_,rfl⟩;rw[<- ait] at kZ TP;have fin:=fun T' g' lz (h:lz=[kn,f.name,[40]]++nxt)=>fin T' g' lz (by rw[h,ait])
    obtain⟨la,hla,X8,adL,adM⟩:∃ la:List ay,la++cb f.kind u=[kn,f.name,[40]]++nxt/\la.length+(cb f.kind u).length<=8000000/\(i=0->la=[kn,f.name,[40]]++acc)/\(i≠0->aj A 58 [.ref mm 0,.slice [[.str [44]]] false] (cI mm ([kn,f.name,[40]]++acc) false K)=some (.undef,some ⟨cI mm la false K,mm⟩)):=by
     by_cases i0:i=0
     ·rw[if_pos (WX.2 i0)] at kZ
      have hac:acc=[]:=by rw[<- yD,i0];rfl
      refine⟨[kn,f.name,[40]]++acc,by rw[hac,kZ,List.append_nil],?_,fun _=>rfl,fun h=>absurd i0 h⟩
      rw[kZ] at TP;rw[hac];simp only[List.length_append,List.length_cons,List.length_nil] at TP ⊢;omega
     ·rw[if_neg (fun h=>i0 (WX.1 h))] at kZ
      rw[kZ] at TP;simp only[List.length_append,List.length_cons,List.length_nil] at TP;refine⟨[kn,f.name,[40]]++acc++[[44]],by rw[kZ];simp only[avj],?_,fun h=>absurd h i0,fun _=>?_⟩
      ·simp only[List.length_append,List.length_cons,List.length_nil];omega
      ·have:=dv hP [[44]] ([kn,f.name,[40]]++acc) false ag kq
       rwa [ug] at this
    generalize [kn,f.name,[40]]++acc=pra at adL adM ⊢;have eb:=wD hP u1 ah la ah
    by_cases k4:f.kind=4
    ·have hfd:cb f.kind u=[u.name]++bW (.mk u.wn u.wk)++[jT u.jI.toNat]:=by unfold cb;rw[if_pos k4]
     rw[hfd] at hla X8;simp only[List.length_append,List.length_cons,List.length_nil] at X8;have ew:=hwX mm K hP (la++[u.name]) kq;rw[gX] at ew;have jr:=fV hP true (la++[u.name]++bW (.mk u.wn u.wk)) false;simp only[av8,awz] at jr;have ed:=dv hP [jT u.jI.toNat] (la++[u.name]++bW (.mk u.wn u.wk)) false ag kq;rw[ug] at ed;have HL:=fun K=>Mx u.jI K ⟨ah,ah⟩
     rw[vy m0] at HL;have fin:=fun T' g'=>fin T' g' (la++[u.name]++bW (.mk u.wn u.wk)++[jT u.jI.toNat]) (by rw[<- hla];simp only[avj])
     generalize la++[u.name]++bW (.mk u.wn u.wk)++[jT u.jI.toNat]=ld at *;generalize la++[u.name]++bW (.mk u.wn u.wk)=lc at *;generalize la++[u.name]=lb at *
     by_cases i0:i=0
     ·rw[adL i0] at eb
      refine nL6 q1 q3 q32 Zd (j4 q34 gn fK eb) (j5 ew jr HL ed rf) ?_;refine fin _ _ ?_ ?_ ?_ ?_ ?_
      all_goals exact vO4 q1 q3 q32 Zd
     ·have ec:=adM i0
      refine nL6 q1 q3 q32 Zd (j5 q34 gn fK ec eb) (j5 ew jr HL ed rf) ?_;refine fin _ _ ?_ ?_ ?_ ?_ ?_
      all_goals exact vO4 q1 q3 q32 Zd
    ·have hfd:cb f.kind u=[u.name]++bW (.mk u.wn u.wk):=by unfold cb;rw[if_neg k4,List.append_nil]
     have hz:=u4.resolve_left k4;rw[hfd] at hla X8;simp only[List.length_append,List.length_cons,List.length_nil] at X8;have ew:=hwX mm K hP (la++[u.name]) kq;rw[gX] at ew;have jr:=fV hP true (la++[u.name]++bW (.mk u.wn u.wk)) false;simp only[av8,awz] at jr;have fin:=fun T' g'=>fin T' g' (la++[u.name]++bW (.mk u.wn u.wk)) (by rw[<- hla];simp only[avj])
     generalize la++[u.name]++bW (.mk u.wn u.wk)=lc at *;generalize la++[u.name]=lb at *
     by_cases i0:i=0
     ·rw[adL i0] at eb
      refine nL6 q1 q3 q32 Zd (j2 q34 gn) (j5 fK eb ew jr rf) ?_;refine fin _ _ ?_ ?_ ?_ ?_ ?_
      all_goals exact vO4 q1 q3 q32 Zd
     ·have ec:=adM i0
      refine nL6 q1 q3 q32 Zd (j3 q34 gn fK) (j5 ec eb ew jr rf) ?_;refine fin _ _ ?_ ?_ ?_ ?_ ?_
      all_goals exact vO4 q1 q3 q32 Zd
   ·obtain rfl:i=f.bQ.length:=ah
    rw[List.take_of_length_le ag,hLL];refine nK3 Zd q34 @Nat.lt_irrefl ?_;exact⟨_,_,rfl,fj q1,fj q3⟩
  ·refine⟨_,_,rfl,?_,?_,?_,?_,?_⟩
   all_goals exact WB q1 q3
 rintro st ⟨T,g,rfl,q1,q3⟩
 refine iX 1 (fun st=>∃ T g,st=⟨T,cI mm (j8 f) false K,H.length,g⟩/\T 3=.ref mm 0) ?_ ?_
 ·have e4:=dv hP [[41]] ([kn,f.name,[40]]++LL) false ag kq
  rw[ug] at e4;have e6:((C5.body.post 5).post 0)=C5.body.post 6:=pn 5 _;rw[e6]
  by_cases b01:f.kind=0\/f.kind=1
  ·have adn:(decide (f.kind=0) || decide (f.kind=1))=true:=by rcases b01 with b|b<;>simp[b]
   rw[adn,cond_true,zero_eq] at p3;simp only[au6] at p3;obtain⟨d1,d2,d3,d4,d5⟩:=p3;have ph:=fun K=>jl f.body K
   rw[ai] at ph;have jr:=fV hP true ([kn,f.name,[40]]++LL++[[41]]) false;simp only[av8,awz] at jr;rw[if_pos b01,List.append_nil] at fta;rw[<- fta] at jr e4;have amR:(f.kind==0)=true\/(f.kind==0)=false/\(f.kind==1)=true:=by
    rcases b01 with b|b
    ·exact .inl (by simp[b])
    ·exact .inr (by simp[b])
   generalize [kn,f.name,[40]]++LL=lx at e4 ⊢;generalize j8 f=ly at jr e4 ⊢;unfold C5;simp only[aK.post,aK.pre]
   rcases amR with hk|⟨hk,AY⟩
   ·refine nL6 q1 q3 fK @iw (j5 ph hk d1 d2 d3) (j5 d4 d5 e4 jr rf) ?_
    exact⟨_,_,rfl,fj q3⟩
   ·refine nL6 q1 q3 fK (j2 @iw ph) (j5 hk AY d1 d2 d3) (j5 d4 d5 e4 jr rf) ?_
    exact⟨_,_,rfl,fj q3⟩
  ·have adn:(decide (f.kind=0) || decide (f.kind=1))=false:=by
    have h1:¬ f.kind=0:=fun h=>b01 (.inl h)
    have h2:¬ f.kind=1:=fun h=>b01 (.inr h)
    simp[h1,h2]
   rw[adn,cond_false,au6] at p3;obtain⟨d1,d2⟩:=p3;rw[if_neg b01] at fta uN;simp only[List.length_append,List.length_cons,List.length_nil] at uN;have yL:(f.kind==0)=false:=by simpa using fun h=>b01 (.inl h)
   have AY:(f.kind==1)=false:=by simpa using fun h=>b01 (.inr h)
   have e5:=Pa _ d1 mm K hP ([kn,f.name,[40]]++LL++[[41]]) kq;rw[gX] at e5;have e7:=dv hP [[61]] ([kn,f.name,[40]]++LL++[[41]]++bW (.mk f.rn f.rk)) false ag kq;rw[ug] at e7;have e8:=(K7 f.body d2).2 mm K hP ([kn,f.name,[40]]++LL++[[41]]++bW (.mk f.rn f.rk)++[[61]]) kq;rw[ai] at e8;rw[show j8 f=[kn,f.name,[40]]++LL++[[41]]++bW (.mk f.rn f.rk)++[[61]]++af f.body by rw[fta];simp only[avj]]
   generalize [kn,f.name,[40]]++LL++[[41]]++bW (.mk f.rn f.rk)++[[61]]++af f.body=l6 at e8 ⊢;generalize [kn,f.name,[40]]++LL++[[41]]++bW (.mk f.rn f.rk)++[[61]]=l5 at e7 e8;generalize [kn,f.name,[40]]++LL++[[41]]++bW (.mk f.rn f.rk)=l4 at e5 e7;generalize [kn,f.name,[40]]++LL++[[41]]=l3 at e4 e5;generalize [kn,f.name,[40]]++LL=lx at e4 ⊢;unfold C5;simp only[aK.post,aK.pre];refine nL6 q1 q3 fK yL AY (j5 e4 e5 e7 e8 rf) ?_;exact⟨_,_,rfl,fj q3⟩
 ·rintro st ⟨T,g,rfl,q3⟩
  have e6:((C5.body.post 5).post 0).post 1=C5.body.post 8:=rfl;rw[e6];unfold C5;simp only[aK.post];simp(disch:=omega)only[aO,aa,simprocAttr,q3,Gp,CZ,rf,cS,cM,avq,ab]
def aas(hk:0<=f.kind/\f.kind<=5)(hp:ij f=true)(hlen:(j8 f).length<=1000000):Xb f :=
 ⟨fun H=>by unfold mi;rw[if_pos hp];exact Ro hk hp ah H,by unfold mi;rw[if_pos hp];exact hlen⟩
def lX(s:ay):So × Int:=(p7 80000 s).getD (⟨[],[],[],[],[]⟩,0)
def uZ(s:ay):p7 80000 s=some (lX s):=by
 obtain⟨r,hr⟩:=M4 (n:=80000) (s:=s) (by omega)
 unfold lX;rw[hr];rfl
def Vq(hs:s.length<=4611686018427387904)(H:ae):aj (PL 80000) 11 [.str s] H=some (.tuple [.agg (qt (lX s).1),.int .i64 (lX s).2],none):=by
 refine Y6 (n:=80000) (by omega) hs (fun og q hq hb f hf=>?_) (uZ s)
 ·obtain⟨_,_,ql,_,_⟩:=vR og
  have ho:=OX ql hq hb f hf;exact aas ho.k ho.p (by have:=ho.n;omega)
section
section
variable {tk:List Tk}{n:Nat}
theorem O6:∀ (k:Nat) (us:List ay) (s:PS) (r:List ay × PS),nC (aq tk) k us s=some r->r.2.bad=false->us.all isWord=true->s.bad=false/\r.2.i+2*us.length=s.i+2*r.1.length/\r.1.all isWord=true
 | 0,_,_,_,h,_,_=>by cases h
 | k+1,us,s,r,h,hb,hw=>by
  unfold nC at h;cases hc:(!s.bad&&(pk (aq tk) s==rC)) with
  | false =>
   grind
  | true =>
   rw[hc,cond_true] at h;simp only[au6,avo] at hc;have hx:(aF (aq tk) s.up).2.bad=false->isWord (aF (aq tk) s.up).1=true/\(aF (aq tk) s.up).2.i=s.i+2:=fun hb=>⟨(ig hb).2.1,by rw[Vb hb];rfl⟩
   have Fw:(aF (aq tk) s.up).2.bad=false:=by
    cases xR:(aF (aq tk) s.up).2.bad with
    | false=>rfl
    | true=>rw[(tB _ _ _ _ h).bad xR] at hb;cases hb
   obtain⟨h1,h2⟩:=hx Fw;obtain⟨_,h3,h4⟩:=O6 k _ _ r h hb (by rw[aw',hw];simp[h1])
   grind
theorem Cx:∀ (k:Nat) (a:List Fm × List Nat) (s:PS) (r:(List Fm × List Nat) × PS),lS (aq tk) n k a s=some r->r.2.bad=false->s.bad=false/\∃ m,r.1.2=a.2++m
 | 0,_,_,_,h,_=>by cases h
 | k+1,a,s,r,h,hb=>by
  unfold lS at h;cases hc:(!s.bad&&Nat.blt s.i (aq tk).length) with
  | false =>
   rw[hc,cond_false,au4] at h;subst h;exact⟨hb,[],ag⟩
  | true =>
   rw[hc,cond_true,au3] at h;obtain⟨q,hq,h⟩:=h;obtain⟨_,m,hm⟩:=Cx k _ _ r h hb
   grind
end
theorem QW(h:(lX s).2=-1):(bB s).2.2=-1/\∃ q,oo (aq (iP (bB s).1)) 80000=some q/\q.2.bad=false/\Ak (aq (iP (bB s).1)) (lT q.1.1 q.1.2.1 q.1.2.2.1)=none/\(lX s).1=Wm (iP (bB s).1) (bB s).2.1 q.1.1 q.1.2.1 q.1.2.2.1 q.1.2.2.2:=by
 have hp:=uZ s;unfold p7 at hp;split at hp
 ·rename_i og
  refine⟨og,?_⟩;rw[au2] at hp;obtain⟨q,hq,he⟩:=hp;unfold uY at he
  grind
 ·grind
end
def FM.mis{w:List ay}(h:FM a w)(hm:Ak a w=some i):a[i]?=some lp:=by
 rcases h with rfl|⟨p,x,c,y,rfl,rfl,hc⟩
 ·rw[Kk fun _ _=>rfl] at hm
  cases hm
 ·have e:Ak (p++lp :: x) (p++c :: y)=some p.length:=Kl (by simp) (fun j hj=>by rw[avd hj,avd hj]) (by simpa using hc)
  rw[e] at hm;cases hm;simp
def VP{tk:List Tk}{n:Nat}(ql:tk.length<=8192){q:(ay × List ay × List Fm × List Nat) × PS}(h:oo (aq tk) n=some q)(hb:q.2.bad=false)(hm:Ak (aq tk) (lT q.1.1 q.1.2.1 q.1.2.2.1)=some i):(aq tk)[i]?=some lp:=by
 refine FM.mis ?_ hm;have hR:=afQ h hb;have hOk:=OX ql h hb;have Qj:q.1.2.2.1.map mi=q.1.2.2.1.map j8:=List.map_congr_left fun f hf=>by unfold mi;rw[if_pos (hOk f hf).p]
 have hw:isWord q.1.1=true/\q.1.2.1.all isWord=true:=by
  unfold oo at h;simp only[au3,au2] at h;obtain⟨u,hu,d,hd,rfl⟩:=h;obtain⟨hub, -⟩:=Cx _ _ _ _ hd hb;obtain⟨Fw, -,huw⟩:=O6 _ _ _ _ hu hub rfl;exact⟨(ig Fw).2.1,huw⟩
 unfold lT aam;rw[if_pos hw,Qj];exact hR
def WE(l:List Tok)(k:Nat):(wr (l.take k)).length<=(wr l).length:=by
 have:wr l=wr (l.take k)++wr (l.drop k):=by
  unfold wr;rw[<- List.flatten_append,<- List.map_append,awa]
 rw[this,List.length_append];omega
def aar{l:List Tok}{t:Tok}(h:l[i]?=some t):wr (l.take (i+1))=wr (l.take i)++(t.before++t.text):=by
 unfold wr;rw[lQ h,List.map_append,List.flatten_append];simp
def Hu{r:ay}{n k:Nat}(hp:(lX s).2=(n:Int))(hs:(bB s).2.2=-1)(hk:n<(wr ((bB s).1.take k)).length)(ain:∀ j,j<k->(wr ((bB s).1.take j)).length<=n)(h40:s[n]?≠some 40)(hr:r=[]\/∃ r',r=32 :: r'):(lX (wr ((bB s).1.take k)++r)).2≠-1:=by
 intro hc;obtain⟨xp,q2,hq2,kO, -, -⟩:=QW hc;obtain⟨m,hm⟩:=Ri hs hr xp;obtain⟨-, -,ql, -, -⟩:=vR hs;obtain⟨-,X1,Ab⟩:=It hs;have hp2:=uZ s;unfold p7 at hp2;rw[if_pos hs,au2] at hp2;obtain⟨q,hq,he⟩:=hp2;have hn:(uY (iP (bB s).1) (bB s).2.1 s.length q).2=(n:Int):=by rw[he,hp]
 have hlen:(wr (bB s).1).length+(bB s).2.1.length=s.length:=by rw[<- List.length_append,X1]
 have RG:=WE (bB s).1 k;have gW:∀ i,nj (iP (bB s).1) i s.length=n->∃ t,(bB s).1[i]?=some t/\(wr ((bB s).1.take i)).length+t.before.length=n:=fun i hi=>by
  unfold nj at hi;cases hx:(bB s).1[i]? with
  | none =>
   rw[show (iP (bB s).1)[i]?=none by unfold iP;rw[List.getElem?_map,hx];rfl] at hi
   simp only at hi;omega
  | some t =>
   rw[show (iP (bB s).1)[i]?=some (t.text,t.before) by unfold iP;rw[List.getElem?_map,hx];rfl] at hi
   refine⟨t,rfl,?_⟩;rw[show (iP (bB s).1).take i=iP ((bB s).1.take i) by unfold iP;rw[List.map_take],Ah] at hi
   exact hi
 unfold uY at hn;cases hb:q.2.bad with
 | false =>
  rw[hb,cond_false] at hn;cases hms:Ak (aq (iP (bB s).1)) (lT q.1.1 q.1.2.1 q.1.2.2.1) with
  | none=>rw[hms] at hn;simp at hn
  | some i =>
   rw[hms] at hn;obtain⟨t,ht,hl⟩:=gW i (Int.ofNat.inj hn);have h1:=VP ql hq hb hms;have h2:t.text=lp:=by
    unfold aq iP at h1;rw[List.getElem?_map,List.getElem?_map,ht] at h1
    simpa using h1
   apply h40;have e:s=wr ((bB s).1.take i)++(t.before++(40 :: (wr ((bB s).1.drop (i+1))++(bB s).2.1))):=by
    refine X1.symm.trans ?_;have e1:(bB s).1=(bB s).1.take i++(t :: (bB s).1.drop (i+1)):=by
     conv=>lhs;rw[<- awa (i+1) (bB s).1,lQ ht]
     simp
    conv=>lhs;rw[e1]
    simp[wr,h2,lp]
   rw[e,List.getElem?_append_right (by omega),List.getElem?_append_right (by omega)]
   rw[show n-(wr ((bB s).1.take i)).length-t.before.length=0 by omega]
   rfl
 | true =>
  rw[hb,cond_true] at hn;obtain⟨t,ht,hl⟩:=gW q.2.i (Int.ofNat.inj hn);have Mi:q.2.i<(bB s).1.length:=(au7.1 ht).1;have Gj:q.2.i<k:=by
   rcases awQ q.2.i k with h|h
   ·exact h
   ·have:=WE ((bB s).1.take q.2.i) k
    rw[axL,axo h] at this;omega
  have aZ:((bB s).1.take k).length=min k (bB s).1.length:=avU;have hA:WR (iP (bB s).1) (iP (bB (wr ((bB s).1.take k)++r)).1) q.2.i:=fun j hj=>by
   rw[hm];unfold aq iP;rw[List.getD_eq_getElem?_getD,List.getD_eq_getElem?_getD,List.getElem?_map,List.getElem?_map,List.getElem?_map,List.getElem?_map,avd (by omega),axz (by omega)]
  have:=ZJ hA (by unfold iP;simpa using Mi) (by rw[hm];unfold iP;rw[List.length_map,List.length_append];omega) hq (Nat.le_refl _)
  rw[this] at hq2;cases hq2;rw[hb] at kO;cases kO
theorem WA(l:List ay)(H:ae)(hl:l.length<=1000000):∃ y:List ay,(y.length=l.length+1/\∀ s∈y,s.length<=1)/\aj A 75 [.slice (strs l) false] H=some (.sref H.length 0 (l.length+1) 1,some ⟨H++[.bZ (y.map .str)],H.length⟩):=by
 have key:∃ r,aj A 75 [.slice (strs l) false] H=some r/\∃ y:List ay,(y.length=l.length+1/\∀ s∈y,s.length<=1)/\r=(.sref H.length 0 (l.length+1) 1,some ⟨H++[.bZ (y.map .str)],H.length⟩):=by
  refine FV (fn:=aeu) rfl rfl rfl ?_;unfold aeu;simp(disch:=omega)only[aO,aa,simprocAttr,show dM [[AV.str []]]=true from rfl,avy,awl]
  refine cg (l.length+1) 0 (fun i s=>1<=i/\∃ (T:aD) (D:ae) (g:Nat) (y:List ay),s=⟨T,D++[.box bD (y.map .str)],H.length,g⟩/\(y.length=i/\∀ s∈y,s.length<=1)/\H.length<=D.length/\D.take H.length=H/\T 0=.slice (strs l) false/\T 3=.sref D.length 0 i 1/\T 4=.int .i64 i)
   (fun s=>∃ (T:aD) (D:ae) (g:Nat) (y:List ay),s=⟨T,D++[.box bD (y.map .str)],H.length,g⟩/\(y.length=l.length+1/\∀ s∈y,s.length<=1)/\H.length<=D.length/\D.take H.length=H/\T 3=.sref D.length 0 (l.length+1) 1) (fun _=>False) ?_ ?_ ?_ 1 _ ah ?_
  ·rintro i s hi ⟨h1i,T,D,g,y,rfl,⟨hy,Qw⟩,hD,hDt,h0,h3,h4⟩
   refine nK3 h0 h4 @bV ?_;refine jC ?_ ?_<;>intro h
   ·have kP:i<=l.length:=ah
    have e2:=iD (au5 (show i-1<l.length by omega))
    have en:asNat (.int .i64 ((i:Int)-1))=some (i-1):=by rw[bA ah];congr 1;omega
    have hlen:(y.map AV.str).length=i*1:=by rw[List.length_map];omega
    have Me:decide (D.length<H.length)=false:=dq;have hao:=fun (x:ay) (os:List aV) (T0:aD) (lo gen:Nat) (Q:AS->Prop)=>NG (A:=A) (T:=T0) (lo:=lo) (gen:=gen) (K:=Q) (os:=os) (t:=64) (H:=D++[.box bD (y.map .str)]) (sz:=1) (bytes:=16) (n:=i) (l:=D.length) (ty:=bD) (cs:=y.map .str) (f:=[[.str x]]) (own:=true) vu hlen kq kq rfl rfl
    have fin:∀ (T' : aD) (g' : Nat) (x:ay),x.length<=1->T' 0=.slice (strs l) false->T' 3=.sref (D.length+1) 0 (i+1) 1->T' 4=.int .i64 ((i:Int)+1) ->
      i<l.length+1/\∃ (T:aD) (D0:ae) (g:Nat) (y' : List ay),(⟨T',D++[bS.dead,bS.box bD (y.map .str++[.str x])],H.length,g'⟩:AS)=⟨T,D0++[.box bD (y'.map .str)],H.length,g⟩/\(y'.length=i+1/\∀ s∈y',s.length<=1)/\H.length<=D0.length/\D0.take H.length=H/\T 0=.slice (strs l) false/\T 3=.sref D0.length 0 (i+1) 1/\T 4=.int .i64 ((i+1:Nat):Int):=by
     intro T' g' x hx q0 q3 q4;refine⟨ah,T',D++[.dead],g',y++[x],by rw[List.map_append,avj];rfl,⟨by simp[hy],fun s hs=>?_⟩,by rw[List.length_append];omega,by rw[awI hD,hDt],q0,by rw[q3,List.length_append];rfl,q4⟩
     grind
    generalize l[i-1]'ah=a at e2;cases c0:((i:Int)==(l.length:Int)) with
    | true=>(simp(disch:=omega)only[aO,aa,simprocAttr,h0,h3,h4,en,e2,bV,c0,hao,avy,awl,Me];exact fin _ _ _ ag (fj h0) (iJ) (iJ))
    | false =>
     have aZ:i<l.length:=by
      grind
     have e1:=iD (au5 aZ);generalize l[i]=b at e1;cases c1:(a==[40])<;>cases c2:(a==[91])<;>cases c3:(a==[46])<;>first
      | (simp(disch:=omega)only[aO,aa,simprocAttr,h0,h3,h4,en,e2,e1,bV,c0,c1,c2,c3,hao,avy,awl,Me];exact fin _ _ _ ag (fj h0) (iJ) (iJ))
      | (cases c4:(b==[41])<;>cases c5:(b==[93])<;>cases c6:(b==[44])<;>cases c7:(b==[46])<;>(simp(disch:=omega)only[aO,aa,simprocAttr,h0,h3,h4,en,e2,e1,bV,c0,c1,c2,c3,c4,c5,c6,c7,hao,avy,awl,Me];exact fin _ _ _ ag (fj h0) (iJ) (iJ)))
   ·refine nK0 ?_
    exact⟨_,D,_,y,rfl,⟨ah,Qw⟩,hD,hDt,WB h3 (show i=l.length+1 by omega)⟩
  ·rintro s ⟨T,D,g,y,rfl,hy,hD,hDt,h3⟩
   refine nK1 h3 ?_;exact⟨_,JC (t:=2) (off:=0) (n:=l.length+1) (z:=1) rfl aI (by simp[aD.put]) vu hD Ns rfl,y,hy,by rw[awI hD,hDt]⟩
  ·intro s hs;exact hs.elim
  ·refine nK0 ?_
   refine⟨_,H,_,[[]],rfl,⟨rfl,ag⟩,Nat.le_refl _,avL,?_,?_,?_⟩
   all_goals exact iJ
 grind
def Sh(l:List ay):Prop:=∀ s∈l,s.length<=1100000
theorem jb:Sh []:=by intro s h;cases h
theorem il{a:ay}{l:List ay} : Sh (a :: l)↔a.length<=1100000/\Sh l:=by simp[Sh]
theorem nQ : Sh (a++b)↔Sh a/\Sh b:=by simp[Sh,or_imp,forall_and]
def su:∀ {l:List (List ay)},(∀ x∈l,Sh x)->Sh (au l)
 | [],_=>by rw[au];exact jb
 | [a],h=>by rw[au];exact h a ag
 | a :: b :: r,h=>by
  rw[au,nQ,nQ,il];exact⟨⟨h a ag,aI,jb⟩,su fun x hx=>h x (by simp only[avs] at hx ⊢;exact .inr hx)⟩
theorem KI(h:s.length<=1100000):Sh (aL s):=by
 have:=pJ s
 unfold aL
 grind [il,jb]
def ZW(n:Int):(cQ n).1.length<=1100000:=by
 unfold cQ;split
 ·decide
 ·exact xh (B:=1100000) aI _
theorem D3:∀ (h:Nat) (w:Wd),Fe h w->Sh (bW w):=by
 have leaf:∀ (n:ay) (ks:List Wd),n.length<=1100000->n≠cR->Sh (bW (.mk n ks)):=by
  grind [D2,il,jb,KI]
 have l0:Sh (bW (.mk cR [])):=by rw[bW]<;>first|exact fun s hs=>by revert s;decide|simp
 intro h
 induction h with
 | zero =>
  rintro ⟨n,ks⟩ ⟨h1,h2⟩
  simp only[Wd.kids,Wd.name] at h1 h2
  grind
 | succ h ih =>
  rintro ⟨n,ks⟩ ⟨h1,h2,h3⟩
  simp only[Wd.kids,Wd.name] at h1 h2 h3
  by_cases hn:n=cR
  ·subst hn
   match ks,h2,h3 with
   | [],_,_=>exact l0
   | [k],_,h3 =>
    have:=ih k (h3 k ag)
    rw[bW]
    grind [nQ,il,jb]
  ·exact leaf n ks h1 hn
theorem YB{p:List ay × Int}(h:Sh p.1):Sh (fT p k):=by
 unfold fT
 grind [nQ,il,jb]
def WQ:∀ {ns:List ay} {tl:List (List ay × Int)},(∀ s∈ns,s.length<=1100000)->(∀ p∈tl,Sh p.1)->∀ x∈List.zipWith (fun s (x:List ay × Int)=>[s,[61]]++x.1) ns tl,Sh x
 | [],_,_,_,x,hx=>by simp at hx
 | _ :: _,[],_,_,x,hx=>by simp at hx
 | s :: ns,p :: tl,h1,h2,x,hx=>by
  rw[axH,avs] at hx
  rcases hx with rfl|hx
  ·exact nQ.2 ⟨il.2 ⟨h1 s ag,il.2 ⟨aI,jb⟩⟩,h2 p ag⟩
  ·exact WQ (fun u hu=>h1 u (zo hu)) (fun q hq=>h2 q (zo hq)) x hx
def NL:∀ {ns:List ay} {tl:List (List ay × Int)},(∀ s∈ns,s.length<=1100000)->(∀ p∈tl,Sh p.1)->∀ x∈jA ns tl,Sh x
 | p :: q :: ns,y :: ys,h1,h2,x,hx=>by
  rw[jA,avs] at hx
  rcases hx with rfl|hx
  ·exact nQ.2 ⟨il.2 ⟨h1 p ag,il.2 ⟨h1 q ag,il.2 ⟨aI,jb⟩⟩⟩,h2 y ag⟩
  ·exact NL (fun u hu=>h1 u (zo hu)) (fun q hq=>h2 q (zo hq)) x hx
 | [],_,_,_,x,hx=>by simp[jA] at hx
 | [_],_,_,_,x,hx=>by simp[jA] at hx
 | _ :: _ :: _,[],_,_,x,hx=>by simp[jA] at hx
def HY{p:Prop}[Decidable p](h1:p->Sh a)(h2:¬p->Sh b):Sh (if p then a else b):=by split<;>simp_all
theorem Sq{n:Int}{a f:ay}{w:Wd}{ns:List ay}{tl:List (List ay × Int)}(hn:-2199023255552<=n/\n<=2199023255552)(ha:a.length<=1100000)(hf:f.length<=1100000)(hw:Sh (bW w))(A1:∀ s∈ns,s.length<=1100000)(h:∀ p∈tl,Sh p.1):Sh (gp k n a f w ns tl):=by
 have hq:=KI ha;have hl:Sh (au (tl.map (·.1))):=su fun x hx=>by obtain⟨p,hp,rfl⟩:=List.mem_map.1 hx;exact h p hp
 have hz:=su (WQ A1 h);have d1:n<0->(jT (-n).toNat).length<=1100000:=fun h=>by have:=yp (n:=(-n).toNat) ah;omega
 have d2:(jT n.toNat).length<=1100000:=by have:=yp (n:=n.toNat) ah;omega
 have hs:=ZW n;have hk:=fun (p:List ay × Int) (h:Sh p.1) k=>YB (k:=k) h
 unfold gp;refine HY (fun _=>HY (fun h=>?_) fun _=>?_) fun _=>HY (fun _=>?_) fun _=>?_
 ·grind [il,jb]
 ·grind [il,jb]
 ·split<;>simp only[il,jb,List.length_cons,List.length_nil,and_self,Nat.reduceAdd,Nat.reduceLeDiff]
 iterate 11 (refine HY (fun _=>?_) fun _=>?_;· first
  | (simp only[nQ,il,jb,cR,hq,hl,hw,ha,List.length_cons,List.length_nil,and_self,Nat.reduceAdd,Nat.reduceLeDiff,hz];done)
  | (split<;>first
   | exact jb
   | (simp only[List.forall_mem_cons] at h A1;simp only[nQ,il,jb,hq,hf,List.length_cons,List.length_nil,and_self,av',awX,Nat.reduceAdd,Nat.reduceLeDiff,hk,h,A1,hs];done)
   | (rename_i x ys;have h2:=su (NL A1 fun p hp=>h p (awc _ hp));have h3:=h x ag;simp only[nQ,il,jb,hq,List.length_cons,List.length_nil,and_self,Nat.reduceAdd,Nat.reduceLeDiff,h2,h3])))
 exact jb
def K9:∀ (h:Nat) (t:Tm),RP h t->Sh (af t)
 | 0,t,hb=>by cases hb
 | h+1,t,hb=>by
  have hF:=hb.out;rw[bJ];refine Sq hF.n hF.a hF.f (D3 3 _ hF.w) hF.nb fun p hp=>?_
  obtain⟨u,hu,rfl⟩:=List.mem_map.1 hp;exact K9 h u (hF.kb u hu)
theorem P4(h:FdB u):Sh (cb k u):=by
 have h1:=D3 3 _ h.w;have h2:=h.a;obtain⟨h3,h4⟩:=h.m;have h5:(jT u.jI.toNat).length<=1100000:=by
  have:=w5 19 (u.jI.toNat+1) u.jI.toNat [] ah
  unfold jT
  grind
 unfold cb
 grind [nQ,il,jb]
theorem V0(h:FmB f):Sh (mi f):=by
 have h1:=D3 3 _ h.w;have h2:=h.a;have h3:=K9 5 _ h.b;have h4:Sh (au (f.bQ.map (cb f.kind))):=su fun x hx=>by obtain⟨p,hp,rfl⟩:=List.mem_map.1 hx;exact P4 (h.sb p hp)
 have h5:(dJ.getD f.kind.toNat []).length<=1100000:=xh (B:=1100000) aI _;unfold mi;split
 ·unfold j8
  grind [nQ,il,jb]
 ·exact jb
theorem Rf{s:So}(h:SoB s):Sh (aam s):=by
 have h1:=h.a;unfold aam;split
 ·unfold heads
  refine nQ.2 ⟨by simp[il,jb,h1],fun x hx=>?_⟩
  obtain⟨y,hy,hx⟩:=aw4.1 hx;obtain⟨u,hu,rfl⟩:=List.mem_map.1 hy;have:=h.ub u hu
  grind
 ·exact jb
theorem Ni{s:So}(hm:m<=8)(h:Lo m s):(aam s).length<=100:=by
 have:=h.ul
 unfold aam;split
 ·have:∀ l:List ay,((l.map fun u=>[[117,115,101],u]).flatten:List ay).length=2*l.length:=by
   intro l;induction l with
   | nil=>rfl
   | cons a r ih=>simp only[avm,avy,List.length_append,ih,List.length_cons,List.length_nil];omega
  unfold heads
  grind
 ·simp
theorem Gv(l y:List ay)(o:Bool)(H:ae)(hl:l.length<=20000)(hb:Sh l)(hy:y.length<=30000)(kO:Sh y) :
  ∃ t:ay,t.length<=66000000000/\aj A 30 [.slice (strs l) o,.slice (strs y) false] H=some (.str t,none):=by
 have key:∃ r,aj A 30 [.slice (strs l) o,.slice (strs y) false] H=some r/\∃ t:ay,t.length<=66000000000/\r=(.str t,none):=by
  obtain⟨u,⟨T9,hus⟩,hu⟩:=WA l H ah;refine uB (fn:=Yu) rfl rfl rfl ?_;have HM:asNat (.int .i64 ((l.length:Int)+1-1))=some l.length:=by rw[bA ah];congr 1;omega
  have mA:(u.map AV.str).length=l.length+1:=by rw[List.length_map,T9]
  have Bu:(u.map AV.str).take l.length++([AV.str [10]]++(u.map AV.str).drop (l.length+1))=(u.take l.length++[[10]]).map AV.str:=by
   simp_all
  have iz:Sh (u.take l.length++[[10]]):=nQ.2 ⟨fun s hs=>avz (hus s (awm hs)) aI,by simp[il,jb]⟩
  have qv:(u.take l.length++[[10]]).length=l.length+1:=by rw[List.length_append,avU,T9];simp
  refine iX 2 (fun st=>∃ (T:aD) (K:ae) (z:List ay),st=⟨T,K,H.length,0⟩/\K.take H.length=H/\T 0=.slice (strs l) o/\(T 1=.slice (strs z) false\/(T 1=.sref H.length 0 z.length 1/\K[H.length]?=some (.bZ (z.map .str))))/\z.length<=30000/\Sh z/\T 5=.str []) ?_ ?_
  ·unfold Yu
   simp only[aK.pre]
   by_cases hy0:y=[]
   ·subst hy0
    have h0:(((strs []).length:Int)==0)=true:=rfl;refine nM (j4 h0 hu HM mA) ?_;refine⟨_,_,u.take l.length++[[10]],rfl,ag,iJ,.inr ⟨fj qv,?_⟩,ah,iz,iJ⟩;rw[<- Bu];simp
   ·have h0:((y.length:Int)==0)=false:=by
     simp_all
    refine nK2 @bV h0 ?_;exact⟨_,H,y,rfl,avL,iJ,.inl (iJ),hy,kO,iJ⟩
  ·rintro st ⟨T,K,z,rfl,hK,e0,e1,hz,hzs,e5⟩
   unfold Yu;simp only[aK.post];have Ub:∀ i,i<z.length->((strs z)[i]?=some [.str (z.getD i [])]/\(z.map AV.str)[i]?=some (.str (z.getD i [])))/\(z.getD i []).length<=1100000:=fun i hi=>⟨⟨nT hi,by rw[List.getElem?_map,au5 hi,getD_at hi];rfl⟩,xh hzs i⟩
   have yH:decide (H.length<H.length)=false:=ag;refine nK0 ?_;refine cg z.length 0 (fun i st=>∃ (T:aD) (t:ay),st=⟨T,K,H.length,0⟩/\T 0=.slice (strs l) o/\(T 1=.slice (strs z) false\/(T 1=.sref H.length 0 z.length 1/\K[H.length]?=some (.bZ (z.map .str))))/\T 6=.int .i64 i/\T 5=.str t/\t.length<=i*2200000)
    (fun st=>∃ (T:aD) (t:ay),st=⟨T,K,H.length,0⟩/\T 5=.str t/\t.length<=30000*2200000) (fun _=>False) ?_ ?_ (fun _ h=>h.elim) 0 _ ah ?_
   ·rintro i st hi ⟨T,t,rfl,q0,q1,q6,q5,ht⟩
    by_cases aZ:i<z.length
    ·obtain⟨⟨g1,g2⟩,g3⟩:=Ub i aZ
     generalize z.getD i []=a at g1 g2 g3;have hm:(i+1)*2200000=i*2200000+2200000:=ah;have Li:i*2200000<=30000*2200000:=avg _ ah
     by_cases ru:i<l.length
     ·have g4:=nT ru
      have g5:=xh hb i;generalize l.getD i []=b at g4 g5
      rcases q1 with q1|⟨q1,q2⟩
      ·simp(disch:=omega)only[aO,aa,simprocAttr,q0,q1,q6,q5,bV,g1,g4,List.length_append,ab]
       refine⟨aZ,_,_,rfl,?_,.inl ?_,?_,rfl,?_⟩
       all_goals first|exact nO2 q0 q1 tv|(simp only[List.length_append];omega)
      ·simp(disch:=omega)only[aO,aa,simprocAttr,q0,q1,q2,q6,q5,bV,g2,g4,List.length_append,axq,NM,ab]
       refine⟨aZ,_,_,rfl,?_,.inr ?_,?_,rfl,?_⟩
       all_goals first|exact nO2 q0 q1 tv|(simp only[List.length_append];omega)
     ·rcases q1 with q1|⟨q1,q2⟩
      ·refine nL6 q0 q1 q6 q5 @bV g1 ?_
       refine⟨aZ,_,_,rfl,?_,.inl ?_,?_,rfl,?_⟩
       all_goals first|exact nO2 q0 q1 tv|(simp only[List.length_append];omega)
      ·refine nL6 q0 q1 q2 q6 q5 (j4 @bV g2 @Nat.mul_one @NM) ?_
       refine⟨aZ,_,_,rfl,?_,.inr ?_,?_,rfl,?_⟩
       all_goals first|exact nO2 q0 q1 tv|(simp only[List.length_append];omega)
    ·have Li:i*2200000<=30000*2200000:=avg _ ah
     rcases q1 with q1|⟨q1,q2⟩<;>simp(disch:=omega)only[aO,aa,simprocAttr,q1,q6,bV]<;>exact⟨_,t,rfl,fj q5,ah⟩
   ·rintro st ⟨T,t,rfl,q5,ht⟩
    refine nK1 q5 ?_;exact⟨t,ah,rfl⟩
   ·refine⟨_,[],rfl,?_,?_,?_,?_,?_⟩
    ·exact fj e0
    ·rcases e1 with e1|⟨e1,e2⟩
     ·exact .inl (fj e1)
     ·exact .inr ⟨fj e1,e2⟩
    ·exact iJ
    ·exact fj e5
    ·simp
 grind
theorem agi{s:So}(hm:m<=8)(hs:Lo m s)(H:ae):∃ t:ay,t.length<=300000000000/\aj A 9 [.agg (qt s)] H=some (.str t,none):=by
 have key:∃ r,aj A 9 [.agg (qt s)] H=some r/\∃ t:ay,t.length<=300000000000/\r=(.str t,none):=by
  have hB:=hs.B hm;have hh:=VU hB H;have hhl:=Ni hm hs;have hsh:=Rf hB;obtain⟨j0,hj0,hj⟩:=Gv (aam s) s.head false H ah hsh (by have:=hs.hl;omega) hs.hb
  have TE:∀ f∈s.defs,∃ t:ay,t.length<=66000000000/\aj A 30 [.slice (strs (mi f)) false,.slice (strs f.layout) false] H=some (.str t,none):=fun f hf=>by
   have hb:=hs.db f hf;exact Gv (mi f) f.layout false H (by have:=GS (hb.B hm);omega) (V0 (hb.B hm)) (by have:=hb.ll;omega) hb.lb
  refine uB (fn:=ir9) rfl rfl rfl ?_;unfold ir9;rw[qt] at hh ⊢;refine nL2 hh hj ?_;refine cg s.defs.length 0 (fun i st=>∃ (T:aD) (t:ay),st=⟨T,H,H.length,1⟩/\T 1=.lbox 0 [.str s.name,.slice (strs s.lH) false,.slice (s.defs.map cm) false,.slice (strs s.head) false,.str s.fin]/\T 4=.int .i64 i/\T 3=.str t/\t.length<=(i+1)*66000000000)
   (fun st=>∃ (T:aD) (t:ay),st=⟨T,H,H.length,1⟩/\T 1=.lbox 0 [.str s.name,.slice (strs s.lH) false,.slice (s.defs.map cm) false,.slice (strs s.head) false,.str s.fin]/\T 3=.str t/\t.length<=4*66000000000) (fun _=>False) ?_ ?_ (fun _ h=>h.elim) 0 _ ah ?_
  ·rintro i st hi ⟨T,t,rfl,q1,q4,q3,ht⟩
   have hdl:=hs.dl;have Li:(i+1)*66000000000<=4*66000000000:=avg _ ah
   by_cases aZ:i<s.defs.length
   ·have hx:=au5 aZ
    have AZ:=avx aZ;generalize s.defs[i]=u at hx AZ;have gn:=ahx hx;obtain⟨w,hw,hj2⟩:=TE u AZ;have hrt:=Io (hB.db u AZ) H;rw[cm] at gn hrt;refine nL6 q1 q4 q3 gn hrt hj2 ?_;refine⟨aZ,_,_,rfl,?_,?_,rfl,by rw[List.length_append];omega⟩
    all_goals exact fj q1
   ·refine nL2 q1 q4 ?_
    exact⟨_,t,rfl,fj q1,fj q3,ah⟩
  ·rintro st ⟨T,t,rfl,q1,q3,ht⟩
   have hf:=hs.e;refine nL2 q1 q3 ?_
   grind
  ·refine⟨_,j0,rfl,?_,?_,?_,ah⟩
   all_goals exact iJ
 grind
theorem afX(s:ay)(at' : Nat)(H:ae)(gn:at'<=s.length)(hs:s.length<=4611686018427387904) :
  aj A 73 [.str s,.int .i64 at'] H=some (.int .i64 ((at' + bI false (s.drop at'):Nat):Int),none):=by
 refine cW ajc.eq_1 ?_;refine nE0 ?_;refine vl s.length (fun i=>Hd (fun T=>∃ c,T 0=.str s/\T 1=.int .i64 i/\T 5=.bool c/\at' + bI false (s.drop at')=i+bI c (s.drop i)) H H.length 0) ?_ at' _ gn ?_
 ·rintro i st hi iz
  obtain⟨T,rfl,c,h0,h1,h5,hc⟩:=iz.out;refine nE2 h0 h1 ?_;refine jC ?_ ?_<;>intro h
  ·have kP:i<s.length:=ah
   rw[avr kP] at hc;simp only[bI] at hc;refine nE3 h0 h1 (au5 kP) ?_;refine jO ?_ ?_<;>intro hb
   ·have iR:s[i].toNat=10:=by
     have:((s[i].toNat:Int))=10:=cY hb
     omega
    rw[if_pos iR] at hc;refine nE2 h0 h1 ?_
    grind
   have iR:s[i].toNat≠10:=fun e=>by rw[e] at hb;simp at hb
   rw[if_neg iR] at hc;refine nE0 ?_;refine jO ?_ ?_<;>intro kO
   ·have adj:s[i].toNat=35:=by
     have:((s[i].toNat:Int))=35:=cY kO
     omega
    rw[if_pos adj] at hc;refine nE2 h0 h1 ?_
    grind
   have adj:s[i].toNat≠35:=fun e=>by rw[e] at kO;simp at kO
   rw[if_neg adj] at hc
   by_cases hb3:s[i].toNat=32
   ·rw[if_neg (zo hb3)] at hc
    simp(disch:=omega)only[jq,aa,simprocAttr,h0,h1,h5,hb3,bne_self_eq_false]
    grind
   ·have ahW:((s[i].toNat:Int) != 32)=true:=dq
    cases c with
    | true =>
     rw[if_neg ag] at hc;refine nE4 h0 h1 h5 ahW ?_
     grind
    | false =>
     rw[if_pos (zo hb3)] at hc;refine nE3 h1 h5 ahW ?_;omega
  ·have:i=s.length:=ah
   subst this;rw[awB] at hc;simp only[bI] at hc;refine nE1 h1 ?_;omega
 ·refine nE0 ?_
  exact⟨false,rfl,rfl⟩
def ZQ(s:ay)(H:ae)(hs:s.length<=4611686018427387904) :
  aj A 29 [.str s] H=some (.tuple [.slice (fN (bB s).1) false,.str (bB s).2.1,.int .i64 (bB s).2.2],none):=by
 refine cW ai8.eq_1 ?_
 by_cases Tx:8192<s.length
 ·have e:bB s=([],[],8192):=by unfold bB;rw[if_pos Tx]
  rw[e];refine nO0 ?_;rfl
 have e:=FK s Tx;generalize bB s=R at e;refine nO0 ?_;refine oQ 0 (fun k=>Hd (fun T=>∃ (off:Nat) (acc:List Tok),T 0=.str s/\T 5=.slice (fN acc) true/\T 6=.int .i64 off/\off<=s.length/\k=s.length-off/\acc.length<=off/\ahead acc (fq (s.drop off) off)=R) H H.length 0)
  (fun _=>False) (Hd (fun T=>∃ o,T 2=.slice (fN R.1) o/\T 3=.str R.2.1/\T 4=.int .i64 R.2.2) H H.length 0) ?_ (fun _ h=>h.elim) ?_ s.length _ ?_
 ·rintro k st iz
  obtain⟨T,rfl,off,acc,h0,h5,h6,og,hk,yD,hc⟩:=iz.out;have Fy:=afX s off H og ah;have hle:=nw false (s.drop off);rw[avF] at hle
  by_cases xj:bI false (s.drop off)=(s.drop off).length
  ·rw[KS xj] at hc
   subst hc;rw[avF] at xj;rw[xj] at Fy;have e1:off+(s.length-off)=s.length:=ah;rw[e1] at Fy;simp(disch:=omega)only[dm,aa,simprocAttr,h0,h5,h6,Fy,avL];exact⟨false,rfl⟩
  ·have aZ:bI false (s.drop off)<s.length-off:=by rw[avF] at xj;omega
   have IL:=aaX s (off+bI false (s.drop off)) H ah ah;have ql:=zt (s.drop (off+bI false (s.drop off)));rw[avF] at ql
   by_cases iS:gI (s.drop (off+bI false (s.drop off)))=0
   ·rw[KR xj (by rw[av7];exact iS)] at hc
    subst hc;rw[if_pos iS] at IL;generalize hm:off+bI false (s.drop off)=m at Fy IL;have BV:off<=m:=ah;have Li:m<s.length:=ah;clear hm;refine nO4 h0 h6 Fy IL ?_;exact⟨true,rfl,rfl⟩
   ·rw[if_neg iS] at IL
    generalize tV:bI false (s.drop off)=k at Fy IL aZ iS ql;generalize IS:gI (s.drop (off+k))=n at IL iS ql;rw[GZ tV IS ah iS] at hc;have Ml:off+k+n<=s.length:=ah;have hn0:0<n:=ah;generalize hm:off+k=m at Fy IL hc Ml;have BV:off<=m:=ah;have Li:m<s.length:=ah;clear hm tV IS ql aZ xj hle;generalize hp:m+n=p at IL hc Ml;have D6:m<p:=ah;clear hp;refine nO5 h0 h5 h6 Fy (j2 IL @NJ) ?_;exact⟨s.length-p,ah,p,_,rfl,rfl,ah,rfl,dq,hc⟩
 ·intro st iz
  obtain⟨T,rfl,o,h2,h3,h4⟩:=iz.out;exact nE3 h2 h3 h4 tv
 ·refine nE0 ?_
  exact⟨0,[],rfl,rfl,ah,ah,ag,cY e⟩
def BE(s:ay):Prop:=s.length<=17
def tO:List ay:=[[102],[120,49],[99,97,115,101],[80,111,105,110,116],[97,86,101,114,121,76,111,110,103,78,97,109,101,49,50,51],[105,102],[90,57],[110,111,116]]
def vf:List ay:=[[40],[41],[123],[125],[91],[93],[44],[58],[46],[61],[61,61],[45,62],[43],[45],[42],[47],[37],[60]]
def Dp:List ay:=[[48],[55],[52,50],[49,50,51,52,53,54,55,56,57,48,49,50,51,52,53,54]]
def Iw:∀ s,s∈tO\/s∈vf\/s∈Dp->BE s:=by
 have h:(tO++vf++Dp).all (fun s=>decide (s.length<=17))=true:=aI
 intro s hs;have hm:s∈tO++vf++Dp:=by
  rcases hs with h|h|h
  ·exact au'.2 (.inl (au'.2 (.inl h)))
  ·exact au'.2 (.inl (au'.2 (.inr h)))
  ·exact au'.2 (.inr h)
 have:=ava.1 h s hm
 show s.length<=17
 simpa using this
def OS(n:Int)(H:ae)(hn:BD n):∃ s,BE s/\aj A 14 [.int .i64 n] H=some (.str s,none):=by
 obtain⟨r1,r2⟩:=lK (n:=n) (k:=1000000) ah;have ha:=rF n 1000000 H hn ah;generalize mr n 1000000=k at r1 r2 ha;have key:∃ r,aj A 14 [.int .i64 n] H=some r/\∃ s,BE s/\r=(.str s,none):=by
  refine uB (fn:=aef) rfl rfl rfl ?_;unfold aef;have hm5:k.tmod 5=k % 5:=avW r1;have hd5:k.tdiv 5=k / 5:=aw7 r1;obtain⟨a,ha8,ea⟩:∃ a:Nat,a<8/\(k / 5).tmod 8=a:=⟨((k / 5).tmod 8).toNat,by rw[avW ah];omega,by rw[avW ah];omega⟩
  obtain⟨b,adi,eb⟩:∃ a:Nat,a<18/\(k / 5).tmod 18=a:=⟨((k / 5).tmod 18).toNat,by rw[avW ah];omega,by rw[avW ah];omega⟩
  obtain⟨c,vZ,ec⟩:∃ a:Nat,a<4/\(k / 5).tmod 4=a:=⟨((k / 5).tmod 4).toNat,by rw[avW ah];omega,by rw[avW ah];omega⟩
  have wa:=iD (au5 (show a<tO.length from ha8))
  have wb:=iD (au5 (show b<vf.length from adi))
  have wc:=iD (au5 (show c<Dp.length from vZ))
  have sa:=Iw _ (.inl (avx (show a<tO.length from ha8)))
  have sb:=Iw _ (.inr (.inl (avx (show b<vf.length from adi))))
  have sc:=Iw _ (.inr (.inr (avx (show c<Dp.length from vZ))))
  generalize tO[a]'ha8=xa at wa sa;generalize vf[b]'adi=xb at wb sb;generalize Dp[c]'vZ=xc at wc sc;have pw:([[.str [102]],[.str [120,49]],[.str [99,97,115,101]],[.str [80,111,105,110,116]],[.str [97,86,101,114,121,76,111,110,103,78,97,109,101,49,50,51]],[.str [105,102]],[.str [90,57]],[.str [110,111,116]]]:List (List AV))=strs tO:=rfl;have am3:k % 5=0\/k % 5=1\/k % 5=2\/k % 5=3\/k % 5=4:=ah;have w8:((strs tO).length:Int)=8:=rfl;have w18:((strs vf).length:Int)=18:=rfl;have P1:cN 1 [[AV.str []],[AV.str []],[AV.str []],[AV.str []],[AV.str []],[AV.str []],[AV.str []],[AV.str []]] [(0,AV.str [102]),(1,AV.str [120,49]),(2,AV.str [99,97,115,101]),(3,AV.str [80,111,105,110,116]),(4,AV.str [97,86,101,114,121,76,111,110,103,78,97,109,101,49,50,51]),(5,AV.str [105,102]),(6,AV.str [90,57]),(7,AV.str [110,111,116])]=some (strs tO):=rfl;have P2:cN 1 [[AV.str []],[AV.str []],[AV.str []],[AV.str []],[AV.str []],[AV.str []],[AV.str []],[AV.str []],[AV.str []],[AV.str []],[AV.str []],[AV.str []],[AV.str []],[AV.str []],[AV.str []],[AV.str []],[AV.str []],[AV.str []]] [(0,AV.str [40]),(1,AV.str [41]),(2,AV.str [123]),(3,AV.str [125]),(4,AV.str [91]),(5,AV.str [93]),(6,AV.str [44]),(7,AV.str [58]),(8,AV.str [46]),(9,AV.str [61]),(10,AV.str [61,61]),(11,AV.str [45,62]),(12,AV.str [43]),(13,AV.str [45]),(14,AV.str [42]),(15,AV.str [47]),(16,AV.str [37]),(17,AV.str [60])]=some (strs vf):=rfl;have P3:cN 1 [[AV.str []],[AV.str []],[AV.str []],[AV.str []]] [(0,AV.str [48]),(1,AV.str [55]),(2,AV.str [52,50]),(3,AV.str [49,50,51,52,53,54,55,56,57,48,49,50,51,52,53,54])]=some (strs Dp):=rfl
  rcases am3 with h|h|h|h|h
  all_goals
   simp(disch:=omega)only[aO,aa,simprocAttr,ha,hm5,hd5,h,P1,P2,P3,w8,w18,ea,eb,ec,wa,wb,wc]
  ·exact⟨xa,sa,rfl⟩
  ·exact⟨xa,sa,rfl⟩
  ·exact⟨xc,sc,rfl⟩
  ·exact⟨xb,sb,rfl⟩
  ·exact⟨xb,sb,rfl⟩
 obtain⟨r,h1,s,h2,rfl⟩:=key;exact⟨s,h2,h1⟩
def UX:∀ {l:List Nat} {n:Nat},n∈l->n<=l.sum
 | a :: l,n,h=>by
  rw[List.sum_cons]
  rcases avs.1 h with rfl|h
  ·omega
  ·have:=UX h;omega
def ZR(h:(bB s).2.2=-1):∀ t∈(bB s).1,t.text.length<=8192/\t.before.length<=8192:=by
 obtain⟨h1,h2,_⟩:=It h;intro t ht;have h3:=awt List.length h2;have h4:(t.before++t.text).length<=((bB s).1.map fun t=>t.before++t.text).flatten.length:=by
  rw[List.length_flatten];exact UX (aw9 (aw9 ht))
 rw[List.length_append] at h3 h4;omega
def Py(s:ay)(a h b:Int)(H:ae)(hs:s.length<=4611686018427387904)(ha:BD a)(hh:BD h)(hb:BD b) :
  ∃ r,aj A 8 [.str s,.int .i64 a,.int .i64 h,.int .i64 b] H=some r/\∃ t:ay,t.length<=s.length+300000000/\r=(.str t,none):=by
 have T4:=ZQ s H hs;refine uB (fn:=ir8) rfl rfl rfl ?_;unfold ir8
 by_cases og:(bB s).2.2=-1
 ·obtain⟨-, -,ah2,jW, -⟩:=vR og
  have ql:=ZR og;rw[iP,List.length_map] at ah2;rw[og] at T4;generalize (bB s).2.1=fin at *;generalize (bB s).1=l at *
  by_cases hl:l=[]
  ·subst hl
   have h0:(((fN []).length:Int)==0)=true:=rfl;refine nK2 T4 h0 ?_;exact⟨s,ah,rfl⟩
  have hl0:0<l.length:=awq.2 hl;have hlen:(fN l).length=l.length:=qU;have dk:((l.length:Int)==0)=false:=dq;obtain⟨r1,r2⟩:=lK (n:=a) (k:=l.length) ah;obtain⟨r3,r4⟩:=lK (n:=b) (k:=l.length) ah;obtain⟨r5,r6⟩:=lK (n:=h) (k:=9) ah;have h1:=rF a l.length H ha ah;have h2:=rF b l.length H hb ah;have h3:=rF h 9 H hh ah;obtain⟨p,hp,h4⟩:=OS b H hb;obtain⟨i,hi⟩:∃ i:Nat,mr a l.length=i:=⟨(mr a l.length).toNat,ah⟩;obtain⟨j,hj⟩:∃ i:Nat,mr b l.length=i:=⟨(mr b l.length).toNat,ah⟩;obtain⟨k,hk⟩:∃ i:Nat,mr h 9=i:=⟨(mr h 9).toNat,ah⟩;rw[hi] at h1 r1 r2;rw[hj] at h2 r3 r4;rw[hk] at h3 r5 r6;have gi:=B6 (au5 (show i<l.length by omega))
  have gj:=B6 (au5 (show j<l.length by omega))
  have bi:=ql _ (avx (show i<l.length by omega))
  have bj:=ql _ (avx (show j<l.length by omega))
  generalize l[i]'ah=x at gi bi;generalize l[j]'ah=y at gj bj;obtain⟨X,hX⟩:∃ X:List ay,X=[[],x.text++[32]++x.text,p,y.text,[40]++x.text++[41],[40]++x.text,x.text++[41],[48,48,55],[45,48]]:=⟨_,rfl⟩;have hXk:∃ u:ay,(strs X)[k]?=some [.str u]/\u.length<=20000:=by
   have hX9:X.length=9:=by rw[hX];rfl
   refine⟨X[k]'ah,iD (au5 _),?_⟩;have hm:=avx (show k<X.length by omega)
   have oK:p.length<=17:=hp;generalize X[k]'ah=u at hm;rw[hX] at hm;simp only[avs,avQ,aww] at hm
   rcases hm with rfl|rfl|rfl|rfl|rfl|rfl|rfl|rfl|rfl<;>simp<;>omega
  obtain⟨u,hu,T9⟩:=hXk;have anz:[[AV.str []],[AV.str (x.text++[32]++x.text)],[AV.str p],[AV.str y.text],[AV.str (40 :: (x.text++[41]))],[AV.str (40 :: x.text)],[AV.str (x.text++[41])],[AV.str [48,48,55]],[AV.str [45,48]]]=strs X:=by rw[hX];rfl
  simp(disch:=omega)only[aO,aa,simprocAttr,T4,dk,hlen,h1,h2,h4,gi,gj,zV,anz,List.length_append,ab];refine cg l.length 0 (fun q st=>∃ T acc g,st=⟨T,H,H.length,g⟩/\T 9=.slice (fN l) false/\T 10=.str fin/\T 12=.int .i64 i/\T 2=.int .i64 h/\T 15=.slice (strs X) true/\T 16=.str acc/\T 17=.int .i64 q/\acc.length<=q*30000)
   (fun st=>∃ T acc g,st=⟨T,H,H.length,g⟩/\T 16=.str acc/\T 10=.str fin/\acc.length<=8192*30000) (fun _=>False) ?_ ?_ (fun _ h=>h.elim) 0 _ ah ?_
  ·rintro q st hq ⟨T,acc,g,rfl,e9,zA,e12,e2,WU,Ry,e17,yD⟩
   by_cases aZ:q<l.length
   ·have gq:=B6 (au5 aZ)
    have bq:=ql _ (avx aZ);generalize l[q]=z at gq bq;have hm:(q+1)*30000=q*30000+30000:=ah;have Li:q*30000<=8192*30000:=avg _ ah
    by_cases hqi:q=i
    ·have hx:(((q:Nat):Int)==((i:Nat):Int))=true:=by simp[hqi]
     simp(disch:=omega)only[aO,aa,simprocAttr,e9,e12,e2,WU,Ry,e17,hlen,gq,zV,hx,h3,hu,List.length_append,ab];refine⟨aZ,_,_,_,rfl,?_,?_,?_,?_,?_,rfl,?_,?_⟩
     all_goals first|exact nO5 e9 zA e12 e2 WU tv|skip
     ·rw[List.length_append,List.length_append];omega
    ·have hx:(((q:Nat):Int)==((i:Nat):Int))=false:=dq
     simp(disch:=omega)only[aO,aa,simprocAttr,e9,e12,Ry,e17,hlen,gq,zV,hx,List.length_append,ab];refine⟨aZ,_,_,_,rfl,?_,?_,?_,?_,?_,rfl,?_,?_⟩
     all_goals first|exact nO5 e9 zA e12 e2 WU tv|skip
     ·rw[List.length_append,List.length_append];omega
   ·have:q=l.length:=ah
    subst this;refine nK3 e9 e17 hlen ?_;exact⟨_,_,_,rfl,fj Ry,fj zA,avz yD (avg _ ah2)⟩
  ·rintro st ⟨T,acc,g,rfl,Ry,zA,yD⟩
   refine nK2 Ry zA ?_;exact⟨acc++fin,by rw[List.length_append];omega,rfl⟩
  ·exact⟨_,[],_,rfl,iJ,iJ,iJ,iJ,iJ,iJ,iJ,ag⟩
 ·have dk:((bB s).2.2 != -1)=true:=cY og
  refine nK2 T4 dk ?_;exact⟨s,ah,rfl⟩
def vH(args:List AV)(H:ae):Option (AV × Option fP) :=
 match args with
 | [.str s]=>cond (Nat.ble s.length 4611686018427387904) (some (.tuple [.agg (qt (lX s).1),.int .i64 (lX s).2],none)) none
 | _=>none
def B3(args:List AV)(H:ae):Option (AV × Option fP) :=
 match args,H with
 | [],[]=>some (.bool true,none)
 | _,_=>none
def ac8:FuncId->Option aB
 | 3=>some ir3
 | _=>none
def ov9:FuncId->Option (List AV->ae->Option (AV × Option fP))
 | 3=>none
 | 11=>some vH
 | 12=>some B3
 | f=>some (aj A f)
def A9:AP:={ fns:=ac8,ov:=ov9,aY:=Bg }
def c9{f:FuncId}(h:A9.ov f=some (aj A f)){args:List AV}{H:ae}{r:AV × Option fP}(hr:aj A f args H=some r)(hn:args.all vG=true:=by rfl):aj A9 f args H=some r:=gU (g:=aj A f) h hr hn
def aeM:aj A9 12 [] []=some (.bool true,none):=gU (g:=B3) rfl rfl
def Vp(hs:s.length<=4611686018427387904)(H:ae):aj A9 11 [.str s] H=some (.tuple [.agg (qt (lX s).1),.int .i64 (lX s).2],none) :=
 gU (g:=vH) rfl (by simp only[vH,avT hs,cond_true])
def F7:List ay:=[[],[32,97],[32,49],[32,41],[32,41,32,73,110,116,32,61,32,49],[32,40,97,41],[32,125],[32,93],[32,97,32,40,32,97,32,73,110,116,32,41,32,73,110,116,32,61,32,50],[32,105,110,32,49],[32,116,104,101,110,32,49,32,101,108,115,101,32,50],[32,61,32,49,32,105,110,32,50],[32,45,62,32,49,32,125]]
def Bl(r:ay):Prop:=r=[]\/∃ r',r=32 :: r'
def NX:∀ x∈F7,Bl x/\x.length<=100:=by
 intro x hx;unfold F7 at hx;simp only[avs,avQ,aww] at hx
 rcases hx with rfl|rfl|rfl|rfl|rfl|rfl|rfl|rfl|rfl|rfl|rfl|rfl|rfl
 ·exact⟨.inl rfl,by decide⟩
 all_goals exact⟨.inr ⟨_,rfl⟩,by decide⟩
def QV(h:¬ (bB s).2.2=-1):(lX s).2=(bB s).2.2:=by
 have hp:=uZ s;unfold p7 at hp;rw[if_neg h,au4] at hp;rw[<- hp]
def ajk(l:List Int)(a h b:Int)(gs:List Int)(hl:∀ n∈l,BD n)(ha:BD a)(hh:BD h)(hb:BD b)(J0:∀ n∈gs,BD n)(hgl:gs.length<=1000000000000) :
  aj A9 3 [.slice (ints l) false,.int .i64 a,.int .i64 h,.int .i64 b,.slice (ints gs) false] []=some (.bool true,none):=by
 obtain⟨so,D7,h5⟩:=V7 l hl [];obtain⟨s0,ano,h4⟩:=agi ah D7 [];obtain⟨_,h6,s,qv,rfl⟩:=Py s0 a h b [] ah ha hh hb;have hsL:s.length<=1000000000000:=by omega
 clear qv ano;have hp:=Vp (s:=s) (by omega) []
 have T4:=c9 rfl (Is s [] (by omega))
 replace h5:=c9 rfl h5
 replace h4:=c9 rfl h4
 replace h6:=c9 rfl h6
 have hv:=aeM;rw[qt] at h5 h4 hp;obtain⟨P,hP⟩:∃ P,P=(lX s).2:=⟨_,rfl⟩;rw[<- hP] at hp;refine cW ir3.eq_1 ?_
 by_cases c1:P<0
 ·have d1:decide (P<0)=true:=decide_eq_true c1
  exact nK6 h5 h4 h6 hp d1 hv tv
 have d1:decide (P<0)=false:=av1 c1;obtain⟨n,rfl⟩:=axB (show 0<=P by omega)
 by_cases c2:s.length<=n
 ·exact nK6 h5 h4 h6 hp d1 hv tv
 have aiv:¬ (bB s).2.2=-1->(n:Int)=(bB s).2.2:=fun h=>by rw[hP];exact QV h
 by_cases c3:(bB s).2.2=-1
 ·refine nK6 h5 h4 h6 hp d1 (j2 T4 c3) ?_
  obtain⟨hs8,X1,Ab⟩:=It c3;obtain⟨L,hL⟩:∃ L,L=(bB s).1:=⟨_,rfl⟩;have JO:L.length<=8192:=by
   have:=(vR c3).2.2.1
   rw[hL]
   simpa [iP] using this
  have RG:∀ k,(wr (L.take k)).length<=8192:=fun k=>by
   have h1:=WE L k;have h2:(wr L).length+(bB s).2.1.length=s.length:=by rw[hL,<- List.length_append,X1]
   omega
  rw[<- hL];refine cg L.length 0 (fun i st=>∃ T g,st=⟨T,[],0,g⟩/\T 4=.slice (ints gs) false/\T 11=.str s/\T 13=.int .i64 n/\T 14=.slice (fN L) false/\T 17=.str (wr (L.take i))/\T 18=.int .i64 i/\∀ j,j<i->(wr (L.take j)).length<=n)
   (fun st=>∃ T g k,st=⟨T,[],0,g⟩/\T 4=.slice (ints gs) false/\T 11=.str s/\T 13=.int .i64 n/\T 17=.str (wr (L.take k))/\∀ j,j<k->(wr (L.take j)).length<=n) (fun _=>False) ?_ ?_ (fun _ h=>h.elim) 0 _ (avB _) ?_
  ·rintro i st hi ⟨T,g,rfl,t4,t11,t13,t14,t17,t18,hm⟩
   have Yp:=RG i
   by_cases aZ:i<L.length
   ·by_cases hle:(wr (L.take i)).length<=n
    ·have hx:=B6 (au5 aZ)
     have hw:=aar (au5 aZ);have hw8:=RG (i+1);rw[hw] at hw8;simp only[List.length_append] at hw8;have kO:(wr (L.take i)++L[i].before).length+L[i].text.length<=8192:=by rw[List.length_append];omega
     refine nK6 t17 t18 t14 t13 @qU (j2 hx @zV.eq_1) ?_;refine⟨aZ,_,_,rfl,fj t4,fj t11,fj t13,fj t14,?_,iJ,fun j hj=>?_⟩
     ·rw[hw,<- avj];exact iJ
     ·rcases awQ j i with h|h
      ·exact hm j h
      ·rw[show j=i by omega];exact hle
    ·refine nK5 t17 t18 t14 t13 @qU ?_
     exact⟨_,_,i,rfl,fj t4,fj t11,fj t13,fj t17,hm⟩
   ·refine nK5 t17 t18 t14 t13 @qU ?_
    exact⟨_,_,i,rfl,fj t4,fj t11,fj t13,fj t17,hm⟩
  ·rintro st ⟨T,g,k,rfl,t4,t11,t13,t17,hm⟩
   have hn:n<s.length:=by omega
   have xq:s[n]?=some s[n]:=au5 hn;have hwk:=RG k
   by_cases c4:((s[n].toNat:Int)==40)=true
   ·exact by simp(disch:=omega)only[aO,aa,simprocAttr,t17,t11,t13,xq,c4,hv]
   have d4:((s[n].toNat:Int)==40)=false:=by simpa using c4
   by_cases c5:(wr (L.take k)).length<=n
   ·exact nK6 t17 t11 t13 xq d4 hv tv
   refine nK5 t17 t11 t13 xq d4 ?_;refine cg 6 2 (fun i st=>∃ T g m,st=⟨T,[],0,g⟩/\T 4=.slice (ints gs) false/\T 17=.str (wr (L.take k))/\T 19=.slice (strs F7) true/\T 20=.str m/\Bl m/\m.length<=20*i/\T 21=.int .i64 i)
    (fun st=>∃ T g m,st=⟨T,[],0,g⟩/\T 17=.str (wr (L.take k))/\T 19=.slice (strs F7) true/\T 20=.str m/\Bl m/\m.length<=200) (fun _=>False) ?_ ?_ (fun _ h=>h.elim) 0 _ (avB _) ?_
   ·rintro i st hi ⟨T,g,m,rfl,t4,t17,t19,t20,yH,hml,t21⟩
    by_cases aZ:i<gs.length
    ·by_cases h6:i<6
     ·have hx:=ints_at (au5 aZ)
      obtain⟨pc,gW,hpc⟩:=OS gs[i] [] (J0 _ (avx aZ));unfold BE at gW
      replace hpc:=c9 rfl hpc
      have BV:(m++[32]).length+pc.length<=1000:=by rw[List.length_append,avX];omega
      simp(disch:=omega)only[aO,aa,simprocAttr,t4,t20,t21,ma,hx,hpc,List.length_cons,List.length_nil];refine⟨h6,_,_,m++[32]++pc,rfl,fj t4,fj t17,fj t19,iJ,?_,?_,iJ⟩
      ·rcases yH with rfl|⟨r,rfl⟩
       ·exact .inr ⟨_,rfl⟩
       ·exact .inr ⟨_,rfl⟩
      ·simp only[List.length_append,avX];omega
     ·refine nK4 t4 t20 t21 @ma ?_
      exact⟨_,_,m,rfl,fj t17,fj t19,fj t20,yH,by omega⟩
    ·refine nK4 t4 t20 t21 @ma ?_
     exact⟨_,_,m,rfl,fj t17,fj t19,fj t20,yH,by omega⟩
   ·rintro st ⟨T,g,m,rfl,t17,t19,t20,yH,hml⟩
    have z6:=ga (l:=F7) (n:=m) (o:=true) (by decide)
    refine nK4 t17 t19 t20 z6 ?_;obtain⟨X,hX⟩:∃ X,X=F7++[m]:=⟨_,rfl⟩;have hXl:X.length=14:=by rw[hX];rfl
    have hXb:∀ x∈X,Bl x/\x.length<=200:=fun x hx=>by
     rw[hX] at hx
     rcases au'.1 hx with hx|hx
     ·exact⟨(NX x hx).1,avz (NX x hx).2 (by decide)⟩
     ·rw[avi] at hx
      subst hx;exact⟨yH,hml⟩
    rw[<- hX];refine cg 14 4 (fun i st=>∃ T g,st=⟨T,[],0,g⟩/\T 17=.str (wr (L.take k))/\T 19=.slice (strs X) true/\T 22=.int .i64 i) (fun st=>∃ T g,st=⟨T,[],0,g⟩) (fun _=>False) ?_ ?_ (fun _ h=>h.elim) 0 _ (avB _) ?_
    ·rintro i st hi ⟨T,g,rfl,t17,t19,t22⟩
     by_cases aZ:i<14
     ·have hx:=iD (au5 (show i<X.length by omega))
      obtain⟨Ft,kO⟩:=hXb _ (avx (show i<X.length by omega))
      generalize X[i]'(by omega)=x at hx Ft kO
      have hpx:=Vp (s:=wr (L.take k)++x) (by rw[List.length_append];omega) []
      rw[qt] at hpx;have dk:((lX (wr (L.take k)++x)).2==-1)=false:=by
       have:=Hu (r:=x) hP.symm c3 (k:=k) (by rw[<- hL];omega) (by rw[<- hL];exact hm) (fun e=>by
        rw[xq,au4] at e;rw[e] at d4;exact absurd d4 (by decide)) Ft
       rw[<- hL] at this
       simpa using this
      refine nK6 t17 t19 t22 @bV hXl (j3 hx hpx dk) ?_;exact⟨aZ,_,_,rfl,fj t17,fj t19,iJ⟩
     ·refine nK5 t17 t19 t22 @bV hXl ?_
      exact⟨_,_,rfl⟩
    ·rintro st ⟨T,g,rfl⟩
     exact nD hv
    ·exact⟨_,_,rfl,fj t17,iJ,iJ⟩
   ·exact⟨_,_,[],rfl,fj t4,fj t17,by simp(disch:=omega)only[dm,aa,simprocAttr];rfl,iJ,.inl rfl,avB _,iJ⟩
  ·exact⟨_,_,rfl,iJ,iJ,iJ,iJ,(by rw[show wr (L.take 0)=[] from rfl];exact iJ),iJ,fun j hj=>absurd hj (axF j)⟩
 ·have e3:=aiv c3
  have dk:((bB s).2.2==-1)=false:=cY c3;exact nK6 h5 h4 h6 hp d1 (j4 T4 dk hv e3) tv
def wJ:Nat->ay->Nat->List Tok × ay × Int
 | 0,_,_=>([],[],0)
 | n+1,r,off =>
  bif Nat.beq (bI false r) r.length then ([],r, -1)
  else bif Nat.beq (gI (r.drop (bI false r))) 0 then ([],[],((off+bI false r:Nat):Int))
  else
   let x:=wJ n (r.drop (bI false r+gI (r.drop (bI false r)))) (off+(bI false r+gI (r.drop (bI false r))))
   bif decide (x.2.2=-1) then (⟨(r.drop (bI false r)).take (gI (r.drop (bI false r))),r.take (bI false r)⟩ :: x.1,x.2.1, -1) else ([],[],x.2.2)
theorem KQ:∀ (n:Nat) (r:ay) (off:Nat),r.length<n->wJ n r off=fq r off
 | 0,_,_,h=>by omega
 | n+1,r,off,h=>by
  rw[fq,wJ]
  by_cases h1:bI false r=r.length
  ·simp_all
  ·have e1:Nat.beq (bI false r) r.length=false:=by rw[<- aw2,axe];exact h1
   rw[if_neg h1,e1,cond_false]
   by_cases h2:gI (r.drop (bI false r))=0
   ·rw[dif_pos h2,h2];rfl
   ·have e2:Nat.beq (gI (r.drop (bI false r))) 0=false:=by rw[<- aw2,axe];exact h2
    rw[dif_neg h2,e2,cond_false];have h3:=nw false r;rw[KQ n _ _ (by rw[avF];omega)]
    grind
end Go.Proofs.YtbadnagdfefbnaaGreatDoor
end
