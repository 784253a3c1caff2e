/-
  A part of the proof of PrintScans: S43, S44, SP1, SP2, SK, SL1, SL2.
-/
import Derived.Test.YtocbgffdpfiidaaGreatDoorP12
set_option linter.unusedSimpArgs false
set_option linter.unusedVariables false
set_option linter.defProp false
set_option maxHeartbeats 1000000
set_option maxRecDepth 100000
namespace Go.Proofs.YtocbgffdpfiidaaGreatDoor
open Go Go.Abs Go.Proofs
theorem ZH:A.aP 0=[.func (.func 100) [] [],.func (.func 187) [] [],.func (.func 188) [] [],.func (.func 188) [] []]:=rfl
theorem ZI:A.aP 1=jf.map .str:=rfl
theorem tH{c:UInt8} : gB c=decide (kindOf c=1):=by
 unfold kindOf
 cases h:gB c<;>cases h2:isDigit c<;>simp
theorem qo{c:UInt8} : isDigit c=decide (kindOf c=2):=by
 unfold kindOf
 cases h:gB c<;>cases h2:isDigit c<;>simp
 simp only[gB,isDigit,ajk,ahR,ah8] at h h2
 omega
def k6(s:aV):List aV->Nat
 | []=>0
 | x :: r=>if x.isPrefixOf s then x.length else k6 s r
theorem rO{b:UInt8}{r:aV} : ∀ l:aV,k6 (b :: r) (l.map fun x=>[x])=if l.contains b=true then 1 else 0
 | []=>rfl
 | x :: l=>by
  simp only[ah1,k6,List.isPrefixOf,List.isPrefixOf_nil_left,aka,ajH,ajk,rO l,List.length_cons,ahX]
  by_cases h:x=b
  ·subst h;simp
  ·have h1:(x==b)=false:=by simpa using h
   have h2:(b==x)=false:=by simpa using fun e=>h e.symm
   simp[h1,h2]
theorem C8{b:UInt8}{r:aV}(h:kindOf b=0):k6 (b :: r) jf=fO (b :: r):=by
 simp only[fO]
 rw[if_neg (by omega)]
 have zO:ga [b]=jI.contains b:=by unfold ga;simp
 rw[zO]
 have two:(1<=r.length/\ga ((b :: r).take 2)=true)↔([61,61].isPrefixOf (b :: r)=true\/[45,62].isPrefixOf (b :: r)=true):=by
  cases r with
  | nil=>simp[List.isPrefixOf]
  | cons c r' =>
   simp only[aiU,aiN,ga,List.isPrefixOf,List.length_cons,ahX]
   simp
   constructor
   ·rintro (⟨rfl,rfl⟩|⟨rfl,rfl⟩)<;>simp
   ·rintro (⟨rfl,rfl⟩|⟨rfl,rfl⟩)<;>simp
 have e:jf=[61,61] :: [45,62] :: (jI.map fun x=>[x]):=rfl
 rw[e]
 simp only[k6,rO]
 by_cases h2:[61,61].isPrefixOf (b :: r)=true
 ·rw[if_pos h2,if_pos (two.2 (.inl h2))];rfl
 rw[if_neg h2]
 by_cases h3:[45,62].isPrefixOf (b :: r)=true
 ·rw[if_pos h3,if_pos (two.2 (.inr h3))];rfl
 rw[if_neg h3,if_neg (fun h=>(two.1 h).elim h2 h3)]
theorem TK(s:aV)(H:ag)(JU:s≠[])(hs:s.length<=4611686018427387904):aB A 36 [.str s] H=some (.int .i64 (fO s),none):=by
 refine ba (fn:=Ns) rfl rfl rfl ?_
 unfold Ns
 obtain⟨b,r,rq⟩:∃ b r,s=b :: r:=by cases s with|nil=>exact absurd rfl JU|cons b r=>exact⟨b,r,rfl⟩
 have hb:s[0]?=some b:=by rw[rq];rfl
 have hd:s.drop 1=r:=by rw[rq];rfl
 simp(disch:=omega)only[fV,aa,simprocAttr,ZH]
 cases hl:gB b with
 | true =>
  have hk:kindOf b=1:=by rw[tH] at hl;simpa using hl
  refine qF ?_
  simp(disch:=omega)only[fV,aa,simprocAttr,a8,putAt,hb,vK,hl]
  refine bP s.length 2 (fun i=>Hd (fun T=>T 0=.str s/\T 4=.lbox 0 [.func (.func 100) [] [],.func (.func 187) [] []]/\T 5=.int .i64 i/\1<=i/\1+bW 1 r=i+bW 1 (s.drop i)) H H.length 1)
   (Hd (fun T=>T 5=.int .i64 ((1+bW 1 r:Nat):Int)) H H.length 1) (fun _=>False) ?_ ?_ (fun _ h=>h.elim) 1 _ (by rw[rq];simp) ?_
  ·rintro i st hi iN
   obtain⟨T,rfl,h0,h4,h5,hi1,hc⟩:=iN.out
   by_cases h:i<s.length
   ·rw[aij h] at hc
    have uw:s[i]?=some s[i]:=ahP h
    generalize s[i]=c at hc uw
    simp only[bW,ai9] at hc
    have he:(gB c || isDigit c)=decide (kindOf c=2\/kindOf c=1):=by rw[tH,qo];by_cases e1:kindOf c=1<;>by_cases e2:kindOf c=2<;>simp[e1,e2]
    by_cases nU:kindOf c=2\/kindOf c=1
    ·rw[if_pos nU] at hc
     simp(disch:=omega)only[aM,aa,simprocAttr,h0,h4,h5,uw,Bv,he,nU]
     omega
    ·rw[if_neg nU] at hc
     simp(disch:=omega)only[aM,aa,simprocAttr,h0,h4,h5,uw,Bv,he,nU]
     omega
   ·have:i=s.length:=by omega
    subst this
    rw[ajy] at hc
    simp only[bW] at hc
    simp(disch:=omega)only[aM,aa,simprocAttr,h0,h4,h5]
    omega
  ·intro st iN
   obtain⟨T,rfl,h5⟩:=iN.out
   have ht:fO s=if 16<1+bW 1 r then 0 else 1+bW 1 r:=by rw[rq];simp only[fO,hk,if_pos (show (0:Int)<1 by omega)]
   by_cases Qe:16<1+bW 1 r
   ·rw[if_pos Qe] at ht
    simp(disch:=omega)only[aM,aa,simprocAttr,h5,ht]
   ·rw[if_neg Qe] at ht
    simp(disch:=omega)only[aM,aa,simprocAttr,h5,ht]
  ·simp(disch:=omega)only[fV,aa,simprocAttr,hd]
 | false =>
  refine qF ?_
  simp(disch:=omega)only[fV,aa,simprocAttr,a8,putAt,hb,vK,hl]
  refine qF ?_
  cases Pq:isDigit b with
  | true =>
   have hk:kindOf b=2:=by rw[qo] at Pq;simpa using Pq
   simp(disch:=omega)only[fV,aa,simprocAttr,a8,putAt,hb,qS,Pq]
   refine bP s.length 2 (fun i=>Hd (fun T=>T 0=.str s/\T 4=.lbox 1 [.func (.func 188) [] [],.func (.func 188) [] []]/\T 5=.int .i64 i/\1<=i/\1+bW 2 r=i+bW 2 (s.drop i)) H H.length 2)
    (Hd (fun T=>T 5=.int .i64 ((1+bW 2 r:Nat):Int)) H H.length 2) (fun _=>False) ?_ ?_ (fun _ h=>h.elim) 1 _ (by rw[rq];simp) ?_
   ·rintro i st hi iN
    obtain⟨T,rfl,h0,h4,h5,hi1,hc⟩:=iN.out
    by_cases h:i<s.length
    ·rw[aij h] at hc
     have uw:s[i]?=some s[i]:=ahP h
     generalize s[i]=c at hc uw
     simp only[bW,show ((2:Int)=1)=False by simp,akd,akw] at hc
     have he:isDigit c=decide (kindOf c=2):=qo
     by_cases nU:kindOf c=2
     ·rw[if_pos nU] at hc
      simp(disch:=omega)only[aM,aa,simprocAttr,h0,h4,h5,uw,qS,he,nU]
      omega
     ·rw[if_neg nU] at hc
      simp(disch:=omega)only[aM,aa,simprocAttr,h0,h4,h5,uw,qS,he,nU]
      omega
    ·have:i=s.length:=by omega
     subst this
     rw[ajy] at hc
     simp only[bW] at hc
     simp(disch:=omega)only[aM,aa,simprocAttr,h0,h4,h5]
     omega
   ·intro st iN
    obtain⟨T,rfl,h5⟩:=iN.out
    have ht:fO s=if 16<1+bW 2 r then 0 else 1+bW 2 r:=by rw[rq];simp only[fO,hk,if_pos (show (0:Int)<2 by omega)]
    by_cases Qe:16<1+bW 2 r
    ·rw[if_pos Qe] at ht
     simp(disch:=omega)only[aM,aa,simprocAttr,h5,ht]
    ·rw[if_neg Qe] at ht
     simp(disch:=omega)only[aM,aa,simprocAttr,h5,ht]
   ·simp(disch:=omega)only[fV,aa,simprocAttr,hd]
  | false =>
   have hk:kindOf b=0:=by unfold kindOf;rw[hl,Pq];rfl
   simp(disch:=omega)only[fV,aa,simprocAttr,a8,putAt,hb,qS,Pq]
   refine qF ?_
   simp(disch:=omega)only[fV,aa,simprocAttr,ZI]
   refine UM (.agg (jf.map .str)) (by kernel_rfl) rfl ?_
   simp(disch:=omega)only[fV,aa,simprocAttr]
   have ads:k6 s jf=fO s:=by rw[rq];exact C8 hk
   have h18:jf.length=18:=rfl
   refine bP 18 4 (fun i=>Hd (fun T=>T 0=.str s/\T 36=.agg (jf.map .str)/\T 37=.int .i64 i/\fO s=k6 s (jf.drop i)) H H.length 2)
    (Hd (fun T=>fO s=0) H H.length 2) (Hd (fun T=>T 2=.int .i64 (fO s)) H H.length 2) ?_ ?_ ?_ 0 _ (by omega) ?_
   ·rintro i st hi iN
    obtain⟨T,rfl,h0,h36,h37,hc⟩:=iN.out
    by_cases h:i<18
    ·have ku:i<jf.length:=by rw[h18];exact h
     have hx:(jf.map AV.str)[i]?=some (.str jf[i]):=by rw[ah2,ahP ku];rfl
     rw[aij ku] at hc
     simp only[k6] at hc
     generalize jf[i]=x at hc hx
     cases hp:x.isPrefixOf s with
     | true =>
      rw[if_pos hp] at hc
      simp(disch:=omega)only[aM,aa,simprocAttr,h0,h36,h37,aji,hx,tv,hp]
      omega
     | false =>
      rw[if_neg (by simp[hp])] at hc
      simp(disch:=omega)only[aM,aa,simprocAttr,h0,h36,h37,aji,hx,tv,hp]
      exact⟨h,hc⟩
    ·have:i=18:=by omega
     subst this
     rw[show jf.drop 18=[] from rfl] at hc
     simp only[k6] at hc
     simp(disch:=omega)only[aM,aa,simprocAttr,h37,hc]
   ·intro st iN
    obtain⟨T,rfl,hc⟩:=iN.out
    simp(disch:=omega)only[fV,aa,simprocAttr,hc]
   ·intro st iN
    obtain⟨T,rfl,hc⟩:=iN.out
    simp(disch:=omega)only[fV,aa,simprocAttr,hc]
   ·simp(disch:=omega)only[fV,aa,simprocAttr,ads]
theorem wu:∀ (r:aV) (j:Nat),(gK 10 j r<0/\gK 10 j r=-1/\bA true r=r.length)\/(∃ k:Nat,gK 10 j r=((j+k:Nat):Int)/\k<r.length/\bA true r=k+bA false (r.drop k))
 | [],j=>.inl ⟨by simp[gK],by simp[gK],rfl⟩
 | b :: r,j=>by
  by_cases hb:b.toNat=10
  ·refine .inr ⟨0,?_,by simp,?_⟩
   ·simp[gK,hb]
   ·simp[bA,hb]
  ·have h1:bA true (b :: r)=1+bA true r:=by
    simp only[bA,if_neg hb]
    split
    ·rfl
    ·simp
   have h2:gK 10 j (b :: r)=gK 10 (j+1) r:=by
    simp only[gK]
    rw[aiT (by omega)];rfl
   rw[h1,h2]
   rcases wu r (j+1) with ⟨k1,k2,k3⟩|⟨k,k1,k2,k3⟩
   ·exact .inl ⟨k1,k2,by rw[k3,List.length_cons];omega⟩
   ·exact .inr ⟨k+1,by rw[k1];congr 1;omega,by simpa using k2,by rw[k3,ajr];omega⟩
theorem B9(s:aV)(H:ag):aB A 66 [.str s,.int .u8 10] H=some (.int .i64 (gK 10 0 s),none):=uK (g:=fL) rfl rfl
theorem Kv(s:aV)(H:ag)(hs:s.length<=4611686018427387904):aB A 35 [.str s] H=some (.int .i64 (bA false s),none):=by
 refine ba (fn:=Nr) rfl rfl rfl ?_
 unfold Nr
 simp(disch:=omega)only[fV,aa,simprocAttr]
 refine yW 0 (fun k=>Hd (fun T=>∃ n:Nat,T 0=.str s/\T 3=.int .i64 n/\n<=s.length/\k=s.length-n/\bA false s=n+bA false (s.drop n)) H H.length 0)
  (Hd (fun T=>T 3=.int .i64 (bA false s)) H H.length 0) (Hd (fun T=>T 2=.int .i64 (bA false s)) H H.length 0) ?_ ?_ ?_ s.length _ ?_
 ·rintro k st iN
  obtain⟨T,rfl,n,h0,h3,hn,hk,hc⟩:=iN.out
  by_cases h:n<s.length
  ·have hx:=ahP h
   have hd:=aij h
   generalize s[n]=b at hx hd
   rw[hd] at hc
   have Lj:b.toNat<256:=UInt8.toNat_lt b
   by_cases b32:b.toNat=32
   ·have e:bA false (b :: s.drop (n+1))=1+bA false (s.drop (n+1)):=by simp[bA,b32]
    rw[e] at hc
    simp(disch:=omega)only[aM,aa,simprocAttr,h0,h3,hx]
    exact⟨s.length-(n+1),by omega,n+1,by omega,by omega,rfl,by omega⟩
   by_cases b10:b.toNat=10
   ·have e:bA false (b :: s.drop (n+1))=1+bA false (s.drop (n+1)):=by simp[bA,b10]
    rw[e] at hc
    simp(disch:=omega)only[aM,aa,simprocAttr,h0,h3,hx]
    exact⟨s.length-(n+1),by omega,n+1,by omega,by omega,rfl,by omega⟩
   by_cases b35:b.toNat=35
   ·have e:bA false (b :: s.drop (n+1))=1+bA true (s.drop (n+1)):=by simp[bA,b35]
    rw[e] at hc
    have hi:gK 10 0 (s.drop n)=gK 10 1 (s.drop (n+1)):=by
     rw[hd];simp only[gK];rw[aiT (by omega)];rfl
    have hlen:(s.drop (n+1)).length=s.length-(n+1):=aiv ..
    rcases wu (s.drop (n+1)) 1 with ⟨k1,k2,k3⟩|⟨j,k1,k2,k3⟩
    ·rw[k2] at hi
     rw[k3] at hc
     simp(disch:=omega)only[aM,aa,simprocAttr,h0,h3,hx,aiZ,B9,hi]
     omega
    ·rw[k1] at hi
     rw[k3,ajc] at hc
     simp(disch:=omega)only[aM,aa,simprocAttr,h0,h3,hx,aiZ,B9,hi]
     exact⟨s.length-(n+(1+j)),by omega,n+(1+j),by omega,by omega,rfl,by rw[hc,show n+1+j=n+(1+j) by omega];omega⟩
   ·have e:bA false (b :: s.drop (n+1))=0:=by simp[bA,b32,b10,b35]
    rw[e] at hc
    simp(disch:=omega)only[aM,aa,simprocAttr,h0,h3,hx]
    omega
  ·have:n=s.length:=by omega
   subst this
   rw[ajy] at hc
   simp only[bA] at hc
   simp(disch:=omega)only[aM,aa,simprocAttr,h0,h3]
   omega
 ·intro st iN
  obtain⟨T,rfl,h3⟩:=iN.out
  simp(disch:=omega)only[fV,aa,simprocAttr,h3]
 ·intro st iN
  obtain⟨T,rfl,h2⟩:=iN.out
  simp(disch:=omega)only[fV,aa,simprocAttr,h2]
 ·simp(disch:=omega)only[fV,aa,simprocAttr]
  exact⟨0,by omega,by omega,by omega,by simp⟩
structure Tok where
 text:aV
 before:aV
 deriving DecidableEq
def Fe(t:Tok):List AV:=[.str t.text,.str t.before]
def fJ(l:List Tok):List (List AV):=l.map Fe
theorem nN{l:List Tok} : (fJ l).length=l.length:=by simp[fJ]
theorem TL{l:List Tok}{i:Nat}{t:Tok}(h:l[i]?=some t):(fJ l)[i]?=some (Fe t):=by simp[fJ,h]
def jt(r:aV)(off:Nat):List Tok × aV × Int :=
 if bA false r=r.length then ([],r, -1)
 else if h2:fO (r.drop (bA false r))=0 then ([],[],((off+bA false r:Nat):Int))
 else
  let x:=jt (r.drop (bA false r+fO (r.drop (bA false r)))) (off+(bA false r+fO (r.drop (bA false r))))
  if x.2.2=-1 then (⟨(r.drop (bA false r)).take (fO (r.drop (bA false r))),r.take (bA false r)⟩ :: x.1,x.2.1, -1) else ([],[],x.2.2)
termination_by r.length
decreasing_by
 have:=oU false r
 have:=HP (r.drop (bA false r))
 simp only[aiv] at this ⊢
 omega
def pP(s:aV):List Tok × aV × Int:=if 8192<s.length then ([],[],8192) else jt s 0
def ahead(acc:List Tok)(x:List Tok × aV × Int):List Tok × aV × Int:=if x.2.2=-1 then (acc++x.1,x.2.1, -1) else ([],[],x.2.2)
theorem OS{r:aV}{off:Nat}(h:bA false r=r.length)(acc:List Tok):ahead acc (jt r off)=(acc,r, -1):=by
 rw[jt,if_pos h]
 simp[ahead]
theorem OR{r:aV}{off:Nat}(h:bA false r≠r.length)(h2:fO (r.drop (bA false r))=0)(acc:List Tok):ahead acc (jt r off)=([],[],((off+bA false r:Nat):Int)):=by
 rw[jt,if_neg h,dif_pos h2]
 simp only[ahead]
 rw[if_neg (by omega)]
theorem OT{r:aV}{off:Nat}(h:bA false r≠r.length)(h2:fO (r.drop (bA false r))≠0)(acc:List Tok) :
  ahead acc (jt r off)=ahead (acc++[⟨(r.drop (bA false r)).take (fO (r.drop (bA false r))),r.take (bA false r)⟩]) (jt (r.drop (bA false r+fO (r.drop (bA false r)))) (off+(bA false r+fO (r.drop (bA false r))))):=by
 conv=>lhs;rw[jt,if_neg h,dif_neg h2]
 simp only[ahead]
 split
 ·simp
 ·rename_i hx;simp[hx]
theorem JK{s:aV}{off k n:Nat}(hk:bA false (s.drop off)=k)(hn:fO (s.drop (off+k))=n)(h:k≠s.length-off)(h2:n≠0)(acc:List Tok) :
  ahead acc (jt (s.drop off) off)=ahead (acc++[⟨(s.take (off+k+n)).drop (off+k),(s.take (off+k)).drop off⟩]) (jt (s.drop (off+k+n)) (off+k+n)):=by
 subst hk
 rw[<- ajc] at hn
 rw[OT (by rw[aiv];exact h) (by rw[hn];exact h2),hn]
 rw[ajc,ajc,List.take_drop,List.take_drop,ajp]
theorem H3(s:aV)(h:¬ 8192<s.length):ahead [] (jt s 0)=pP s:=by
 unfold pP
 rw[if_neg h]
 have key:∀ (r:aV) (off:Nat),(jt r off).2.2≠-1->jt r off=([],[],(jt r off).2.2):=by
  intro r off hx
  rw[jt] at hx ⊢
  split at hx
  ·exact absurd rfl hx
  ·rename_i h1
   rw[if_neg h1]
   split at hx
   ·rename_i h2;rw[dif_pos h2]
   ·rename_i h2
    rw[dif_neg h2]
    simp only at hx ⊢
    split at hx
    ·exact absurd rfl hx
    ·rename_i h3;rw[if_neg h3]
 unfold ahead
 split
 ·rename_i hx
  simp[<- hx]
 ·rename_i hx
  exact (key s 0 hx).symm
theorem yN{l:List Tok} : tc 2 (fJ l) :=
 ⟨fun r hr=>by simp only[fJ,aia] at hr;obtain⟨n,_,rfl⟩:=hr;rfl,sM fun r hr=>by simp only[fJ,aia] at hr;obtain⟨n,_,rfl⟩:=hr;rfl⟩
theorem Kn{l m:List Tok}{o:Bool}(h:l.length+m.length<=1099511627776):an false 2 32 (.slice (fJ l) true) (.slice (fJ m) o)=some (.slice (fJ (l++m)) true):=by
 rw[se yN yN (by rw[nN,nN];omega) (by rw[nN,nN];omega)];simp[fJ]
theorem PC{l:List Tok}{a b:aV}{o:Bool}(h:l.length<=1000000):an false 2 32 (.slice (fJ l) true) (.slice [[.str a,.str b]] o)=some (.slice (fJ (l++[⟨a,b⟩])) true):=Kn (m:=[⟨a,b⟩]) (by simp;omega)
theorem To(s:aV)(H:ag)(hs:s.length<=4611686018427387904) :
  aB A 16 [.str s] H=some (.tuple [.slice (fJ (pP s).1) false,.str (pP s).2.1,.int .i64 (pP s).2.2],none):=by
 refine ba (fn:=Nc) rfl rfl rfl ?_
 unfold Nc
 by_cases ZS:8192<s.length
 ·have e:pP s=([],[],8192):=by unfold pP;rw[if_pos ZS]
  rw[e]
  simp(disch:=omega)only[aM,aa,simprocAttr]
  rfl
 have e:=H3 s ZS
 generalize pP s=R at e
 simp(disch:=omega)only[aM,aa,simprocAttr]
 refine yW 0 (fun k=>Hd (fun T=>∃ (off:Nat) (acc:List Tok),T 0=.str s/\T 5=.slice (fJ acc) true/\T 6=.int .i64 off/\off<=s.length/\k=s.length-off/\acc.length<=off/\ahead acc (jt (s.drop off) off)=R) H H.length 0)
  (fun _=>False) (Hd (fun T=>∃ o,T 2=.slice (fJ R.1) o/\T 3=.str R.2.1/\T 4=.int .i64 R.2.2) H H.length 0) ?_ (fun _ h=>h.elim) ?_ s.length _ ?_
 ·rintro k st iN
  obtain⟨T,rfl,off,acc,h0,h5,h6,V7,hk,B0,hc⟩:=iN.out
  have I4:=Kv (s.drop off) H (by rw[aiv];omega)
  have hle:=oU false (s.drop off)
  rw[aiv] at hle
  by_cases IY:bA false (s.drop off)=(s.drop off).length
  ·rw[OS IY] at hc
   subst hc
   rw[aiv] at IY
   rw[IY] at I4
   have e1:(off:Int)+((s.length-off:Nat):Int)=(s.length:Int):=by omega
   generalize s.length-off=q at I4 e1
   simp(disch:=omega)only[aM,aa,simprocAttr,h0,h5,h6,I4,aiZ,e1]
   exact⟨false,rfl⟩
  ·have aZ:bA false (s.drop off)<s.length-off:=by rw[aiv] at IY;omega
   have Ui:=TK (s.drop (off+bA false (s.drop off))) H (fun e=>by have:=aj8 List.length e;rw[aiv,ahX] at this;omega) (by rw[aiv];omega)
   have Y3:=HP (s.drop (off+bA false (s.drop off)))
   rw[aiv] at Y3
   by_cases tY:fO (s.drop (off+bA false (s.drop off)))=0
   ·rw[OR IY (by rw[ajc];exact tY)] at hc
    subst hc
    rw[tY] at Ui
    generalize bA false (s.drop off)=k at I4 Ui aZ
    have e1:(off:Int)+(k:Int)=((off+k:Nat):Int):=by omega
    generalize hm:off+k=m at I4 Ui e1
    have Ql:off<=m:=by omega
    have YZ:m<s.length:=by omega
    clear hm
    simp(disch:=omega)only[aM,aa,simprocAttr,h0,h5,h6,I4,Ui,aiZ,e1]
    exact⟨true,rfl,rfl⟩
   ·generalize pz:bA false (s.drop off)=k at I4 Ui aZ tY Y3
    generalize I1:fO (s.drop (off+k))=n at Ui tY Y3
    rw[JK pz I1 (by omega) tY] at hc
    have Z6:off+k+n<=s.length:=by omega
    have hn0:0<n:=by omega
    have e1:(off:Int)+(k:Int)=((off+k:Nat):Int):=by omega
    generalize hm:off+k=m at I4 Ui hc Z6 e1
    have Ql:off<=m:=by omega
    have YZ:m<s.length:=by omega
    clear hm pz I1 Y3 aZ IY hle
    have e2:(m:Int)+(n:Int)=((m+n:Nat):Int):=by omega
    generalize hp:m+n=p at hc Z6 e2
    have hp1:m<p:=by omega
    clear hp
    simp(disch:=omega)only[aM,aa,simprocAttr,h0,h5,h6,I4,Ui,PC,aiZ,e1,e2]
    exact⟨s.length-p,by omega,p,_,rfl,rfl,by omega,rfl,by simp;omega,hc⟩
 ·intro st iN
  obtain⟨T,rfl,o,h2,h3,h4⟩:=iN.out
  simp(disch:=omega)only[fV,aa,simprocAttr,h2,h3,h4]
 ·simp(disch:=omega)only[fV,aa,simprocAttr,ai2,aio]
  exact⟨0,[],rfl,rfl,by omega,by omega,by simp,by simpa using e⟩
def Cut(r:aV):Prop:=r=[]\/∃ b t,r=b :: t/\(b=32\/b=10\/b=35\/b=41\/b=93\/b=44\/b=46)
theorem Whole.cut{x r:aV}(h:Whole x)(hx:x≠[]):Cut (x++r):=by
 cases x with
 | nil=>exact (hx rfl).elim
 | cons b t =>
  refine .inr ⟨b,t++r,rfl,?_⟩
  have h0:=h []
  simp only[ain,bA,List.length_cons] at h0
  by_cases h1:b.toNat=10
  ·exact .inr (.inl (UInt8.toNat_inj.1 h1))
  by_cases h2:b.toNat=35
  ·exact .inr (.inr (.inl (UInt8.toNat_inj.1 h2)))
  by_cases h3:b.toNat=32
  ·exact .inl (UInt8.toNat_inj.1 h3)
  rw[if_neg h1,if_neg h2,if_pos ⟨h3,trivial⟩] at h0
  omega
def gP(s:aV):Prop:=s≠[]/\fO s=s.length
theorem tR(k:Int){r:aV}(hr:bW k r=0):∀ s:aV,bW k s=s.length->bW k (s++r)=s.length
 | [],_=>hr
 | c :: s,h=>by
  have hl:=nQ k s
  simp only[bW,List.length_cons,ai'] at h ⊢
  by_cases hc:kindOf c=2\/kindOf c=1/\k=1
  ·rw[if_pos hc] at h ⊢
   rw[tR k hr s (by omega)]
   omega
  ·rw[if_neg hc] at h
   omega
theorem PI{r:aV}(h:Cut r)(k:Int):bW k r=0:=by
 rcases h with rfl|⟨b,t,rfl,hb⟩
 ·rfl
 ·have hk:kindOf b=0:=by rcases hb with rfl|rfl|rfl|rfl|rfl|rfl|rfl<;>decide
  simp only[bW,hk]
  rfl
theorem PJ{c:UInt8}{r:aV}(h:Cut r)(hr:r≠[]):ga ((c :: r).take 2)=false:=by
 rcases h with rfl|⟨b,t,rfl,hb⟩
 ·exact (hr rfl).elim
 ·have h1:b≠61/\b≠62:=by rcases hb with rfl|rfl|rfl|rfl|rfl|rfl|rfl<;>decide
  simp[ga,h1.1,h1.2]
theorem gP.cut{s r:aV}(h:gP s)(hr:Cut r):fO (s++r)=s.length:=by
 obtain⟨hs,ht⟩:=h
 cases s with
 | nil=>exact (hs rfl).elim
 | cons b t =>
  simp only[fO,List.length_cons,ai'] at ht ⊢
  by_cases hk:0<kindOf b
  ·rw[if_pos hk] at ht ⊢
   by_cases Qe:16<1+bW (kindOf b) t
   ·rw[if_pos Qe] at ht;omega
   ·rw[if_neg Qe] at ht
    have e:=tR (kindOf b) (PI hr (kindOf b)) t (by omega)
    rw[e,if_neg (by omega)];omega
  ·rw[if_neg hk] at ht ⊢
   cases t with
   | nil =>
    simp only[ahX,ajg] at ht ⊢
    rw[if_neg (by simp)] at ht
    by_cases FT:r=[]
    ·subst FT
     rw[if_neg (by simp)];exact ht
    ·have e:=PJ (c:=b) hr FT
     rw[if_neg (fun h=>by rw[e] at h;exact absurd h.2 (by decide))];exact ht
   | cons c u =>
    have e2:((b :: (c :: u)).take 2)=[b,c]:=rfl
    have e3:((b :: ((c :: u)++r)).take 2)=[b,c]:=rfl
    rw[e2] at ht
    rw[e3]
    simp only[List.length_cons,List.length_append,ai'] at ht ⊢
    by_cases Qs:ga [b,c]=true
    ·rw[if_pos ⟨by omega,Qs⟩] at ht ⊢;exact ht
    ·rw[if_neg (fun h=>Qs h.2)] at ht
     split at ht<;>omega
theorem qx{s:aV}(h:s=[40]\/s=[91]\/s=[46])(r:aV):fO (s++r)=s.length:=by
 have h2:∀ b:UInt8,(b=40\/b=91\/b=46)->fO (b :: r)=1:=by
  intro b hb
  have hk:¬ 0<kindOf b:=by rcases hb with rfl|rfl|rfl<;>decide
  have h1:ga [b]=true:=by rcases hb with rfl|rfl|rfl<;>decide
  have hn:ga ((b :: r).take 2)=false\/¬ 1<=r.length:=by
   cases r with
   | nil=>exact .inr (by simp)
   | cons c u =>
    left
    have:b≠61/\b≠45:=by rcases hb with rfl|rfl|rfl<;>decide
    simp[ga,this.1,this.2]
  simp only[fO]
  rw[if_neg hk,if_neg (by rintro ⟨a,b⟩;rcases hn with hn|hn<;>simp_all),if_pos h1]
 rcases h with rfl|rfl|rfl
 ·exact h2 40 (by decide)
 ·exact h2 91 (by decide)
 ·exact h2 46 (by decide)
theorem gP.skip{s r:aV}(h:gP s):bA false (s++r)=0:=by
 obtain⟨hs,ht⟩:=h
 cases s with
 | nil=>exact (hs rfl).elim
 | cons b t =>
  have hb:b≠10/\b≠35/\b≠32:=by
   refine⟨?_,?_,?_⟩<;>rintro rfl<;>simp only[fO,List.length_cons] at ht <;>
    rw[if_neg (by decide)] at ht<;>(cases t with
     | nil=>simp at ht;revert ht;decide
     | cons c u=>simp[ga,jI] at ht)
  have h1:b.toNat≠10:=fun e=>hb.1 (UInt8.toNat_inj.1 e)
  have h2:b.toNat≠35:=fun e=>hb.2.1 (UInt8.toNat_inj.1 e)
  have h3:b.toNat≠32:=fun e=>hb.2.2 (UInt8.toNat_inj.1 e)
  simp only[ai',bA]
  rw[if_neg h1,if_neg h2,if_pos ⟨h3,trivial⟩]
def glue:List aV->List aV->aV
 | _,[]=>[]
 | [],x :: _=>x
 | t :: ts,x :: xs=>x++(t++glue ts xs)
def mE:List aV->List aV->List Tok
 | t :: ts,x :: xs=>⟨t,x⟩ :: mE ts xs
 | _,_=>[]
inductive J7:List aV->List aV->Prop where
 | nil {x:aV} (h:Whole x):J7 [] [x]
 | cons {t x:aV} {ts xs:List aV} (hx:Whole x) (ht:gP t) (hl:fO (t++glue ts xs)=t.length) (hr:J7 ts xs):J7 (t :: ts) (x :: xs)
theorem yH:∀ (ts xs:List aV) (off:Nat),J7 ts xs->jt (glue ts xs) off=(mE ts xs,xs.getLastD [], -1)
 | [],xs,off,h=>by
  cases h with
  | nil hx =>
   rename_i x
   have e:bA false x=x.length:=by have:=hx [];simpa [bA] using this
   rw[glue,jt,if_pos e]
   rfl
 | t :: ts,xs,off,h=>by
  cases h with
  | cons hx ht hl hr =>
   rename_i x xs
   have ih:=fun off=>yH ts xs off hr
   have e1:bA false (x++(t++glue ts xs))=x.length:=by rw[hx,ht.skip];rfl
   have cS:t.length≠0:=by simpa using ht.1
   have e2:(x++(t++glue ts xs)).drop x.length=t++glue ts xs:=by simp
   have e3:(x++(t++glue ts xs)).drop (x.length+t.length)=glue ts xs:=by rw[<- ajc,e2];simp
   have e4:(x++(t++glue ts xs)).take x.length=x:=by simp
   have adf:¬ bA false (x++(t++glue ts xs))=(x++(t++glue ts xs)).length:=by rw[e1];simp only[List.length_append];omega
   have Wo:xs≠[]:=by cases hr<;>simp
   rw[glue,jt,if_neg adf,dif_neg (by rw[e1,e2,hl];exact cS)]
   simp only[e1,e2,hl,e3,e4,ih,ai3,mE]
   have e5:(t++glue ts xs).take t.length=t:=by simp
   have e6:(x :: xs).getLastD []=xs.getLastD []:=by cases xs with
    | nil=>exact (Wo rfl).elim
    | cons a b=>rfl
   rw[e5,e6]
structure jP (ts xs:List aV):Prop where
 len:xs.length=ts.length+1
 w:∀ x∈xs,Whole x
 s:∀ t∈ts,gP t
 g:∀ i,i+1<ts.length->xs.getD (i+1) []≠[]\/kM (ts.getD i []) (ts.getD (i+1) [])=true
theorem jJ{t r:aV}(h:t=[41]\/t=[93]\/t=[44]\/t=[46]):Cut (t++r):=by
 rcases h with rfl|rfl|rfl|rfl
 ·exact .inr ⟨41,r,rfl,by decide⟩
 ·exact .inr ⟨93,r,rfl,by decide⟩
 ·exact .inr ⟨44,r,rfl,by decide⟩
 ·exact .inr ⟨46,r,rfl,by decide⟩
theorem jP.II:∀ {ts xs:List aV},jP ts xs->J7 ts xs
 | [],xs,h=>by
  obtain⟨hl,hw, -, -⟩:=h
  match xs,hl with
  | [x],_=>exact .nil (hw x (by simp))
 | t :: ts,xs,h=>by
  obtain⟨hl,hw,hs,hg⟩:=h
  match xs,hl with
  | x :: xs,hl =>
   have zM:xs.length=ts.length+1:=by simpa using hl
   have hr:jP ts xs:=⟨zM,fun y hy=>hw y (by simp[hy]),fun y hy=>hs y (by simp[hy]),fun i hi=>by
    have:=hg (i+1) (by simp;omega)
    simpa using this⟩
   refine .cons (hw x (by simp)) (hs t (by simp)) ?_ (jP.II hr)
   have iN:=hs t (by simp)
   match xs,zM with
   | y :: ys,zM =>
    have hy:Whole y:=hw y (by simp)
    by_cases LK:y=[]
    ·subst LK
     match ts,zM with
     | [],_=>simpa [glue] using iN.cut (.inl rfl)
     | u :: us,zM =>
      have h0:=hg 0 (by simp)
      have ht:kM t u=true:=by simpa using h0
      rw[glue,ajg]
      simp only[kM,ajk,aiF] at ht
      rcases ht with (((((h|h)|h)|h)|h)|h)|h
      ·exact iN.cut (jJ (.inl h))
      ·exact iN.cut (jJ (.inr (.inl h)))
      ·exact iN.cut (jJ (.inr (.inr (.inl h))))
      ·exact iN.cut (jJ (.inr (.inr (.inr h))))
      ·exact qx (.inl h) _
      ·exact qx (.inr (.inl h)) _
      ·exact qx (.inr (.inr h)) _
    ·refine iN.cut ?_
     cases ts with
     | nil=>rw[glue];have:=hy.cut (r:=[]) LK;simpa using this
     | cons u us=>rw[glue];exact hy.cut LK
theorem Lc(t:List aV):glue t []=[]:=by cases t<;>rfl
theorem zH{B:Nat} : ∀ {ts xs:List aV},(∀ t∈ts,t.length<=B)->(∀ t∈xs,t.length<=B)->(glue ts xs).length<=(2*ts.length+1)*B
 | ts,[],_,_=>by rw[Lc];simp
 | [],x :: xs,_,h2=>by rw[glue];have:=h2 x (by simp);simpa using this
 | t :: ts,x :: xs,h1,h2=>by
  have ih:=zH (B:=B) (ts:=ts) (xs:=xs) (fun y hy=>h1 y (by simp[hy])) (fun y hy=>h2 y (by simp[hy]))
  have a:=h1 t (by simp)
  have b:=h2 x (by simp)
  rw[glue]
  simp only[List.length_append,List.length_cons]
  have e:(2*(ts.length+1)+1)*B=(2*ts.length+1)*B+2*B:=by rw[<- aip];congr 1
  omega
theorem JJ{ts xs:List aV}(h:jP ts xs)(hl:(glue ts xs).length<=8192):pP (glue ts xs)=(mE ts xs,xs.getLastD [], -1):=by
 rw[pP,if_neg (by omega)]
 exact yH _ _ _ h.II
def nE(layout old now:List aV)(i:Nat):aV :=
 if i<cW old now then layout.getD i []
 else if now.length-bJ old now<=i/\(now.length-bJ old now<i\/layout.getD (i+old.length-now.length) []≠[]) then layout.getD (i+old.length-now.length) []
 else dk now i
def kept(layout old now:List aV):List aV:=if layout.length=old.length+1 then (List.range (now.length+1)).map (nE layout old now) else []
theorem oK{layout old now:List aV}(h:layout.length=old.length+1):(kept layout old now).length=now.length+1:=by simp[kept,h]
theorem Cj{layout old now:List aV}(h:layout.length=old.length+1){i:Nat}(hi:i<now.length+1):(kept layout old now)[i]?=some (nE layout old now i):=by simp[kept,h,ai8 hi]
theorem pR(l:List aV)(i:Nat):Whole (dk l i):=by
 unfold dk
 split
 ·exact wN
 ·exact yQ
theorem rR{l:List aV}{i:Nat}(h:i+1<l.length):dk l (i+1)≠[]\/kM (l.getD i []) (l.getD (i+1) [])=true:=by
 unfold dk
 rw[show i+1-1=i from rfl]
 cases ht:kM (l.getD i []) (l.getD (i+1) [])
 ·left;rw[if_pos ⟨by omega,h,rfl⟩];simp
 ·right;rfl
theorem GU{l:List aV}{i:Nat}(h:i<l.length+1):(dB l).getD i []=dk l i:=by
 simp[dB,List.getD,ai8 h]
theorem GS{l:List aV}(h:∀ t∈l,gP t):jP l (dB l) where
 len:=by simp[dB]
 w:=by
  intro x hx
  obtain⟨i, -,rfl⟩:=aia.1 hx
  exact pR l i
 s:=h
 g:=fun i hi=>by rw[GU (by omega)];exact rR hi
theorem sJ{layout old now:List aV}(h:layout.length=old.length+1){i:Nat}(hi:i<now.length+1):(kept layout old now).getD i []=nE layout old now i:=by
 simp[List.getD,Cj h hi]
theorem BP{old now:List aV}{i:Nat}(h:i<cW old now):old.getD i []=now.getD i []:=by
 simpa using qM _ _ _ h
theorem Hw{old now:List aV}{i:Nat}(h:i<bJ old now):old.getD (old.length-1-i) []=now.getD (now.length-1-i) []:=by
 simpa using qM _ _ _ h
theorem vn{l:List aV}(h:∀ x∈l,Whole x)(i:Nat):Whole (l.getD i []):=by
 by_cases hi:i<l.length
 ·rw[getD_at hi];exact h _ (aiQ hi)
 ·rw[List.getD,air (by omega)];exact yQ
theorem Jb{layout old now:List aV}(h:jP old layout)(hs:∀ t∈now,gP t):jP now (kept layout old now) where
 len:=by simp[kept,h.len]
 w:=by
  intro x hx
  rw[kept,if_pos h.len] at hx
  obtain⟨i, -,rfl⟩:=aia.1 hx
  unfold nE
  split
  ·exact vn h.w _
  ·split
   ·exact vn h.w _
   ·exact pR _ _
 s:=hs
 g:=fun i hi=>by
  rw[sJ h.len (by omega)]
  have f1:=lF old now
  have f2:=ph old now
  unfold nE
  by_cases ha:i+1<cW old now
  ·rw[if_pos ha]
   have:=h.g i (by omega)
   rw[BP (show i<cW old now by omega),BP ha] at this
   exact this
  ·rw[if_neg ha]
   by_cases hb:now.length-bJ old now<=i+1/\(now.length-bJ old now<i+1\/layout.getD (i+1+old.length-now.length) []≠[])
   ·rw[if_pos hb]
    by_cases hc:layout.getD (i+1+old.length-now.length) []=[]
    ·rcases hb with ⟨FI,iV|iV⟩
     ·have g:=h.g (i+old.length-now.length) (by omega)
      have e1:=Hw (old:=old) (now:=now) (i:=now.length-1-i) (by omega)
      have e2:=Hw (old:=old) (now:=now) (i:=now.length-1-(i+1)) (by omega)
      rw[show old.length-1-(now.length-1-i)=i+old.length-now.length by omega,show now.length-1-(now.length-1-i)=i by omega] at e1
      rw[show old.length-1-(now.length-1-(i+1))=i+old.length-now.length+1 by omega,show now.length-1-(now.length-1-(i+1))=i+1 by omega] at e2
      rw[e1,e2,show i+old.length-now.length+1=i+1+old.length-now.length by omega] at g
      exact g
     ·exact absurd hc iV
    ·exact .inl hc
   ·rw[if_neg hb]
    exact rR hi
theorem F4{layout old now:List aV}{j:Nat}(h:layout.length=old.length+1)(hj:j<cW old now):(kept layout old now).getD j []=layout.getD j []:=by
 have f1:=lF old now
 rw[sJ h (by omega),nE,if_pos hj]
theorem Jc{layout old now:List aV}{j:Nat}(h:layout.length=old.length+1)(hj:j<bJ old now):(kept layout old now).getD (now.length-j) []=layout.getD (old.length-j) []:=by
 have f1:=lF old now
 have f2:=ph old now
 rw[sJ h (by omega),nE,if_neg (by omega),if_pos ⟨by omega,.inl (by omega)⟩]
 congr 1;omega
def Sd(l:List aV):Prop:=∀ s∈l,gP s
theorem Sd.nil:Sd []:=by intro s h;cases h
theorem Sd.cons{a:aV}{l:List aV}(h1:gP a)(h2:Sd l):Sd (a :: l):=by
 intro s h
 rcases aii.1 h with rfl|h
 ·exact h1
 ·exact h2 s h
theorem Sd.app{a b:List aV}(h1:Sd a)(h2:Sd b):Sd (a++b):=by
 intro s h
 rcases ahS.1 h with h|h
 ·exact h1 s h
 ·exact h2 s h
theorem Sd.listed:∀ {l:List (List aV)},(∀ x∈l,Sd x)->Sd (aG l)
 | [],_=>by rw[aG];exact Sd.nil
 | [a],h=>by rw[aG];exact h a (by simp)
 | a :: b :: r,h=>by
  rw[aG]
  exact ((h a (by simp)).app (Sd.cons ⟨by decide,by decide⟩ Sd.nil)).app (Sd.listed fun x hx=>h x (by simp only[aii] at hx ⊢;exact .inr hx))
theorem gP.len{s:aV}(h:gP s):s.length<=16:=by
 obtain⟨hs,ht⟩:=h
 cases s with
 | nil=>exact (hs rfl).elim
 | cons b t =>
  simp only[fO,List.length_cons] at ht ⊢
  split at ht
  ·split at ht<;>omega
  ·split at ht
   ·omega
   ·split at ht<;>omega
theorem iB{s:aV}(h:isWord s=true):gP s:=by
 cases s with
 | nil=>cases h
 | cons b t =>
  simp only[isWord,ahR,ah8] at h
  exact⟨by simp,h.2⟩
theorem tj:∀ (f n:Nat) (acc:aV),(∀ b∈acc,kindOf b=2)->∀ b∈da f n acc,kindOf b=2
 | 0,n,acc,h=>by rw[da];exact h
 | f+1,n,acc,h=>by
  have one:∀ d:Nat,d<10->kindOf (UInt8.ofNat (48+d))=2:=by
   intro d hd
   have:d=0\/d=1\/d=2\/d=3\/d=4\/d=5\/d=6\/d=7\/d=8\/d=9:=by omega
   rcases this with rfl|rfl|rfl|rfl|rfl|rfl|rfl|rfl|rfl|rfl<;>decide
  have put:∀ d:Nat,d<10->∀ b∈UInt8.ofNat (48+d) :: acc,kindOf b=2:=by
   intro d hd b hb
   rcases aii.1 hb with rfl|hb
   ·exact one d hd
   ·exact h b hb
  rw[da]
  cases hb:Nat.blt n 10 with
  | true=>rw[cond_true];exact put n (by simpa [aih] using hb)
  | false=>rw[ahW];exact tj f (n / 10) _ (put (n % 10) (by omega))
theorem xL:∀ (f n:Nat) (acc:aV),acc≠[]\/0<f->da f n acc≠[]
 | 0,n,acc,h=>by rw[da];rcases h with h|h;exact h;omega
 | f+1,n,acc,h=>by
  rw[da]
  cases Nat.blt n 10 with
  | true=>rw[cond_true];simp
  | false=>rw[ahW];exact xL f _ _ (.inl (by simp))
theorem we:∀ s:aV,(∀ b∈s,kindOf b=2)->bW 2 s=s.length
 | [],_=>rfl
 | b :: s,h=>by
  rw[bW,if_pos (.inl (h b (by simp))),we s fun c hc=>h c (by simp[hc])]
  simp;omega
theorem sW{n:Nat}(h:n<=2199023255552):gP (qR n):=by
 have h1:=tj (n+1) n [] (by simp)
 have h2:=xL (n+1) n [] (.inr (by omega))
 have h3:=KG h
 unfold qR at h3 ⊢
 revert h1 h2 h3
 generalize da (n+1) n []=s
 intro h1 h2 h3
 cases s with
 | nil=>exact (h2 rfl).elim
 | cons b t =>
  refine⟨by simp,?_⟩
  have hb:=h1 b (by simp)
  have hr:=we t fun c hc=>h1 c (by simp[hc])
  simp only[List.length_cons] at h3 ⊢
  simp only[fO,hb]
  rw[if_pos (by omega),hr,if_neg (by omega)]
  omega
theorem GO{n:Int}(h:0<=n/\n<=11):gP (fm n).1:=by
 have:n=0\/n=1\/n=2\/n=3\/n=4\/n=5\/n=6\/n=7\/n=8\/n=9\/n=10\/n=11:=by omega
 rcases this with rfl|rfl|rfl|rfl|rfl|rfl|rfl|rfl|rfl|rfl|rfl|rfl<;>exact⟨by decide,by decide⟩
theorem C6{s:aV}(h:lT s=true):Sd (cq s):=by
 unfold lT at h
 unfold cq
 rw[ahR] at h
 split
 ·rename_i h2
  rw[h2] at h
  exact Sd.cons (iB h.1) (Sd.cons ⟨by decide,by decide⟩ (Sd.cons (iB (by simpa using h.2)) Sd.nil))
 ·exact Sd.cons (iB h.1) Sd.nil
theorem wq:∀ (h:Nat) (w:Wd),wP h w->bE w=true->Sd (dh w):=by
 have leaf:∀ (n:aV),bE (.mk n [])=true->Sd (dh (.mk n [])):=by
  intro n hp
  rw[bE] at hp
  by_cases hl:n=gE
  ·rw[if_pos hl] at hp;cases hp
  rw[if_neg hl] at hp
  simp only[dh]
  by_cases h1:n=C4\/n=tO
  ·rw[if_pos h1]
   rcases h1 with rfl|rfl<;>exact Sd.cons ⟨by decide,by decide⟩ Sd.nil
  ·rw[if_neg h1]
   refine C6 ?_
   have e1:(n==C4)=false:=by simpa using fun e=>h1 (.inl e)
   have e2:(n==tO)=false:=by simpa using fun e=>h1 (.inr e)
   rw[e1,e2] at hp
   simpa using hp
 intro h
 induction h with
 | zero =>
  intro w hb hp
  obtain⟨n,ks⟩:=w
  obtain⟨h1,h2⟩:=hb
  simp only[Wd.kids] at h2
  subst h2
  exact leaf n hp
 | succ h ih =>
  intro w hb hp
  obtain⟨n,ks⟩:=w
  obtain⟨h1,h2,h3⟩:=hb
  simp only[Wd.kids,Wd.name] at h1 h2 h3
  match ks,h2,h3,hp with
  | [],_,_,hp=>exact leaf n hp
  | [k],_,h3,hp =>
   rw[bE] at hp
   by_cases hl:n=gE
   ·rw[if_pos hl] at hp
    rw[dh,if_pos hl]
    exact ((Sd.cons ⟨by decide,by decide⟩ (Sd.cons ⟨by decide,by decide⟩ Sd.nil)).app (ih k (h3 k (by simp)) hp)).app (Sd.cons ⟨by decide,by decide⟩ Sd.nil)
   ·rw[if_neg hl] at hp;cases hp
theorem mD{p:List aV × Int}{k:Int}(h:Sd p.1):Sd (pC p k):=by
 unfold pC
 split
 ·exact ((Sd.cons ⟨by decide,by decide⟩ Sd.nil).app h).app (Sd.cons ⟨by decide,by decide⟩ Sd.nil)
 ·exact h
theorem OV:∀ {ns:List aV} {tl:List (List aV × Int)},(∀ s∈ns,gP s)->(∀ p∈tl,Sd p.1)->∀ x∈List.zipWith (fun s (x:List aV × Int)=>[s,[61]]++x.1) ns tl,Sd x
 | [],_,_,_,x,hx=>by simp at hx
 | _ :: _,[],_,_,x,hx=>by simp at hx
 | s :: ns,p :: tl,h1,h2,x,hx=>by
  rw[List.zipWith_cons_cons,aii] at hx
  rcases hx with rfl|hx
  ·exact Sd.cons (h1 s (by simp)) (Sd.cons ⟨by decide,by decide⟩ (h2 p (by simp)))
  ·exact OV (fun u hu=>h1 u (by simp[hu])) (fun q hq=>h2 q (by simp[hq])) x hx
theorem OU{k n:Int}{a f:aV}{w:Wd}{ns:List aV}{tl:List (List aV × Int)}(hn:k=0->-1099511627776<=n/\n<=1099511627776)(h2:k=2->gP a)(hq:k=3\/k=7\/k=8\/k=9\/k=10->Sd (cq a))(hf:k=8\/k=9->gP f)
  (hw:k=11->Sd (dh w)) (hs:k=4->0<=n/\n<=11) (pA:∀ s∈ns,gP s) (h:∀ p∈tl,Sd p.1):Sd (jC k n a f w ns tl):=by
 have hl:Sd (aG (tl.map (·.1))):=Sd.listed fun x hx=>by obtain⟨p,hp,rfl⟩:=aia.1 hx;exact h p hp
 have hz:=Sd.listed (OV pA h)
 unfold jC
 by_cases h0:k=0
 ·rw[if_pos h0]
  have:=hn h0
  split
  ·exact Sd.cons ⟨by decide,by decide⟩ (Sd.cons (sW (by omega)) Sd.nil)
  ·exact Sd.cons (sW (by omega)) Sd.nil
 rw[if_neg h0]
 by_cases h1:k=1
 ·rw[if_pos h1]
  split<;>exact Sd.cons ⟨by decide,by decide⟩ Sd.nil
 rw[if_neg h1]
 by_cases Ub:k=2
 ·rw[if_pos Ub];exact Sd.cons (h2 Ub) Sd.nil
 rw[if_neg Ub]
 by_cases h3:k=3
 ·rw[if_pos h3]
  have hq:=hq (by omega)
  repeat' first
   | exact Sd.nil
   | exact hq
   | exact hw
   | exact hl
   | exact hz
   | exact h _ (by simp)
   | exact mD (h _ (by simp))
   | refine Sd.app ?_ ?_
   | refine Sd.cons (by first|exact⟨by decide,by decide⟩|exact pA _ (by simp)|exact hs|exact hf) ?_
 rw[if_neg h3]
 by_cases h4:k=4
 ·rw[if_pos h4]
  have hs:=GO (hs h4)
  split
  all_goals repeat' first
   | exact Sd.nil
   | exact hq
   | exact hw
   | exact hl
   | exact hz
   | exact h _ (by simp)
   | exact mD (h _ (by simp))
   | refine Sd.app ?_ ?_
   | refine Sd.cons (by first|exact⟨by decide,by decide⟩|exact pA _ (by simp)|exact hs|exact hf) ?_
 rw[if_neg h4]
 by_cases h5:k=5
 ·rw[if_pos h5]
  split
  all_goals repeat' first
   | exact Sd.nil
   | exact hq
   | exact hw
   | exact hl
   | exact hz
   | exact h _ (by simp)
   | exact mD (h _ (by simp))
   | refine Sd.app ?_ ?_
   | refine Sd.cons (by first|exact⟨by decide,by decide⟩|exact pA _ (by simp)|exact hs|exact hf) ?_
 rw[if_neg h5]
 by_cases h6:k=6
 ·rw[if_pos h6]
  split
  all_goals repeat' first
   | exact Sd.nil
   | exact hq
   | exact hw
   | exact hl
   | exact hz
   | exact h _ (by simp)
   | exact mD (h _ (by simp))
   | refine Sd.app ?_ ?_
   | refine Sd.cons (by first|exact⟨by decide,by decide⟩|exact pA _ (by simp)|exact hs|exact hf) ?_
 rw[if_neg h6]
 by_cases h7:k=7
 ·rw[if_pos h7]
  have hq:=hq (by omega)
  repeat' first
   | exact Sd.nil
   | exact hq
   | exact hw
   | exact hl
   | exact hz
   | exact h _ (by simp)
   | exact mD (h _ (by simp))
   | refine Sd.app ?_ ?_
   | refine Sd.cons (by first|exact⟨by decide,by decide⟩|exact pA _ (by simp)|exact hs|exact hf) ?_
 rw[if_neg h7]
 by_cases h8:k=8
 ·rw[if_pos h8]
  have hq:=hq (by omega)
  have hf:=hf (by omega)
  split
  all_goals repeat' first
   | exact Sd.nil
   | exact hq
   | exact hw
   | exact hl
   | exact hz
   | exact h _ (by simp)
   | exact mD (h _ (by simp))
   | refine Sd.app ?_ ?_
   | refine Sd.cons (by first|exact⟨by decide,by decide⟩|exact pA _ (by simp)|exact hs|exact hf) ?_
 rw[if_neg h8]
 by_cases h9:k=9
 ·rw[if_pos h9]
  have hq:=hq (by omega)
  have hf:=hf (by omega)
  split
  all_goals repeat' first
   | exact Sd.nil
   | exact hq
   | exact hw
   | exact hl
   | exact hz
   | exact h _ (by simp)
   | exact mD (h _ (by simp))
   | refine Sd.app ?_ ?_
   | refine Sd.cons (by first|exact⟨by decide,by decide⟩|exact pA _ (by simp)|exact hs|exact hf) ?_
 rw[if_neg h9]
 by_cases ZJ:k=10
 ·rw[if_pos ZJ]
  have hq:=hq (by omega)
  split
  all_goals repeat' first
   | exact Sd.nil
   | exact hq
   | exact hw
   | exact hl
   | exact hz
   | exact h _ (by simp)
   | exact mD (h _ (by simp))
   | refine Sd.app ?_ ?_
   | refine Sd.cons (by first|exact⟨by decide,by decide⟩|exact pA _ (by simp)|exact hs|exact hf) ?_
 rw[if_neg ZJ]
 by_cases YR:k=11
 ·rw[if_pos YR]
  have hw:=hw YR
  repeat' first
   | exact Sd.nil
   | exact hq
   | exact hw
   | exact hl
   | exact hz
   | exact h _ (by simp)
   | exact mD (h _ (by simp))
   | refine Sd.app ?_ ?_
   | refine Sd.cons (by first|exact⟨by decide,by decide⟩|exact pA _ (by simp)|exact hs|exact hf) ?_
 rw[if_neg YR]
 by_cases Ua:k=12
 ·rw[if_pos Ua]
  split
  all_goals repeat' first
   | exact Sd.nil
   | exact hq
   | exact hw
   | exact hl
   | exact hz
   | exact h _ (by simp)
   | exact mD (h _ (by simp))
   | refine Sd.app ?_ ?_
   | refine Sd.cons (by first|exact⟨by decide,by decide⟩|exact pA _ (by simp)|exact hs|exact hf) ?_
 rw[if_neg Ua]
 exact Sd.nil
theorem HK:∀ (h:Nat) (t:Tm),J' h t->bD t=true->Sd (aj t)
 | 0,t,hb,_=>by cases hb
 | h+1,t,hb,hp=>by
  have hF:=hb.out
  have hO:=HC hp
  have ih:∀ p∈t.kids.map fun t=>(aj t,dc t),Sd p.1:=fun p hp=>by
   obtain⟨u,hu,rfl⟩:=aia.1 hp
   exact HK h u (hF.kb u hu) (hO.kids u hu)
  rw[dZ]
  have hnm:∀ s∈t.names,gP s:=fun s hs=>by
   have h1:=hO.b1
   unfold mL ki at h1
   simp only[ajT,ajF] at h1
   exact iB (ahU.1 h1.2 s hs)
  refine OU (fun hk=>?_) (fun hk=>?_) (fun hk=>?_) (fun hk=>?_) (fun hk=>?_) (fun hk=>?_) hnm ih
  ·have h5:=hO.b5
   unfold mM at h5
   rw[decide_eq_true hk] at h5
   simp only[cond_true,aje] at h5
   omega
  ·have h2:=hO.b2
   unfold nv at h2
   have e:gA t.kind=false:=by unfold gA;rw[hk];decide
   rw[e,decide_eq_true hk] at h2
   simp only[ahW,cond_true,ajF] at h2
   exact iB h2
  ·have h2:=hO.b2
   unfold nv at h2
   have e:gA t.kind=true:=by unfold gA;exact decide_eq_true (by omega)
   rw[e] at h2
   simp only[cond_true,ajF] at h2
   exact C6 h2
  ·have h3:=hO.b3
   unfold nY at h3
   rw[decide_eq_true hk] at h3
   simp only[cond_true,ajF] at h3
   exact iB h3
  ·have h4:=hO.b4
   unfold nw at h4
   rw[decide_eq_true hk] at h4
   simp only[cond_true,ajF] at h4
   exact wq 3 _ hF.w h4
  ·have h1:=hO.b1
   unfold mL ki at h1
   simp only[ajT,aje] at h1
   have h2:=h1.1.1.1
   by_cases hn:0<=t.n/\t.n<=11
   ·exact hn
   ·exfalso
    apply h2
    have e:fm t.n=([],0):=by unfold fm;rw[if_pos (by omega)]
    unfold bN
    rw[hk,e]
    rfl
theorem HJ{f:Fm}(hF:Pl f)(hp:dw f=true):Sd (dL f):=by
 unfold dw at hp
 simp only[ahR] at hp
 obtain⟨⟨hn,hs⟩,hb⟩:=hp
 have hk:gP (qp.getD f.kind.toNat []):=by
  have:=hF.k
  have:f.kind.toNat=0\/f.kind.toNat=1\/f.kind.toNat=2\/f.kind.toNat=3\/f.kind.toNat=4\/f.kind.toNat=5:=by omega
  rcases this with e|e|e|e|e|e<;>rw[e]<;>exact⟨by decide,by decide⟩
 have tC:Sd (aG (f.bu.map (cZ f.kind))):=Sd.listed fun x hx=>by
  obtain⟨u,hu,rfl⟩:=aia.1 hx
  have h1:=ahU.1 hs u hu
  unfold gb at h1
  simp only[ahR,ah8] at h1
  obtain⟨⟨⟨⟨a1,a2⟩,a3⟩,a4⟩,a5⟩:=h1
  unfold cZ
  refine ((Sd.cons (iB a1) Sd.nil).app (wq 3 _ (hF.sb u hu).w a2)).app ?_
  split
  ·exact Sd.cons (sW (by omega)) Sd.nil
  ·exact Sd.nil
 unfold dL
 refine (((Sd.cons hk (Sd.cons (iB hn) (Sd.cons ⟨by decide,by decide⟩ Sd.nil))).app tC).app (Sd.cons ⟨by decide,by decide⟩ Sd.nil)).app ?_
 split
 ·exact Sd.nil
 ·rename_i hk2
  have e:(decide (f.kind=0) || decide (f.kind=1))=false:=by simpa using hk2
  rw[e] at hb
  simp only[ahW,ahR] at hb
  exact ((wq 3 _ hF.w hb.1).app (Sd.cons ⟨by decide,by decide⟩ Sd.nil)).app (HK _ _ hF.b hb.2)
theorem IJ{f:Fm}(hF:Pl f)(hV:Dz f){lay:List aV}(hl:lay=if f.layout=[] then gO (dL f) else f.layout):jP (dL f) lay/\∀ x∈lay,x.length<=20:=by
 have hs:=HJ hF hV.pr
 have pos:=xU f
 by_cases h:f.layout=[]
 ·rw[if_pos h] at hl
  subst hl
  have hu:=GS (l:=dL f) hs
  have e:∀ i,i<(dL f).length->(gO (dL f)).getD i []=(dB (dL f)).getD i []:=fun i hi=>by
   unfold gO
   rw[List.getD,ah6 (by rw[List.length_take,jv];omega),ah5,if_pos hi,List.getD]
  have mem:∀ x∈gO (dL f),x∈dB (dL f)\/x=[10]:=fun x hx=>by
   unfold gO at hx
   rcases ahS.1 hx with hx|hx
   ·exact .inl (aiO hx)
   ·exact .inr (ah4.1 hx)
  refine⟨⟨qA,fun x hx=>?_,hs,fun i hi=>?_⟩,fun x hx=>?_⟩
  ·rcases mem x hx with hx|rfl
   ·exact hu.w x hx
   ·exact Pg
  ·rw[e _ hi];exact hu.g i hi
  ·rcases mem x hx with hx|rfl
   ·obtain⟨i, -,rfl⟩:=aia.1 hx
    unfold dk;split<;>decide
   ·decide
 ·rw[if_neg h] at hl
  subst hl
  rcases hV.ly with h'|⟨h1,h2⟩
  ·exact (h h').elim
  ·exact⟨⟨h1,fun x hx=>(h2.w x hx).1,hs,fun i hi=>.inl (h2.g i (by omega))⟩,fun x hx=>(h2.w x hx).2⟩
section
theorem Vi(old now:List aV)(H:ag)(ho:old.length<=1000000)(hn:now.length<=1000000) :
  aB A 13 [.slice (strs old) false,.slice (strs now) false] H=some (.tuple [.int .i64 (cW old now:Nat),.int .i64 (bJ old now:Nat)],none):=by
 refine ba (fn:=MM) rfl rfl rfl ?_
 unfold MM
 simp(disch:=omega)only[aX,aa,simprocAttr]
 have hle:=lF old now
 refine bP (min old.length now.length) 0 (fun i=>Hd (fun T=>T 0=.slice (strs old) false/\T 1=.slice (strs now) false/\T 6=.int .i64 i/\∀ j,j<i->(old.getD j []==now.getD j [])=true) H H.length 0)
  (Hd (fun T=>T 0=.slice (strs old) false/\T 1=.slice (strs now) false/\T 6=.int .i64 (cW old now:Nat)) H H.length 0) (fun _=>False) ?_ ?_ ?_ 0 _ (by omega) ?_
 ·rintro i s hi hs
  obtain⟨T,rfl,h0,h1,h6,hj⟩:=hs.out
  by_cases mi:(i:Int)<old.length
  ·by_cases I1:(i:Int)<now.length
   ·have e1:=ahP (show i<old.length by omega)
    have e2:=ahP (show i<now.length by omega)
    have d1:=getD_at (d:=([]:aV)) (show i<old.length by omega)
    have d2:=getD_at (d:=([]:aV)) (show i<now.length by omega)
    cases he:(old[i]==now[i]) with
    | true =>
     simp(disch:=omega)only[aX,aa,simprocAttr,h0,h1,h6,aJ,mi,I1,bB e1,bB e2,he]
     refine⟨by omega,fun j my=>?_⟩
     rcases (show j<i\/j=i by omega) with h|rfl
     ·exact hj j h
     ·rw[d1,d2];exact he
    | false =>
     simp(disch:=omega)only[aX,aa,simprocAttr,h0,h1,h6,aJ,mi,I1,bB e1,bB e2,he]
     have:cW old now=i:=sn _ hi hj (fun _=>by simp only[d1,d2];exact he)
     rw[this]
   ·simp(disch:=omega)only[aX,aa,simprocAttr,h0,h1,h6,aJ,mi,I1]
    have:cW old now=i:=sn _ hi hj (fun h=>by omega)
    rw[this]
  ·simp(disch:=omega)only[aX,aa,simprocAttr,h0,h1,h6,aJ,mi]
   have:cW old now=i:=sn _ hi hj (fun h=>by omega)
   rw[this]
 ·intro s hs
  obtain⟨T,rfl,h0,h1,h6⟩:=hs.out
  simp(disch:=omega)only[aX,aa,simprocAttr,h0,h1,h6]
  refine bP (min old.length now.length-cW old now) 2 (fun i=>Hd (fun T=>T 0=.slice (strs old) false/\T 1=.slice (strs now) false/\T 6=.int .i64 (cW old now:Nat)/\T 7=.int .i64 i/\∀ j,j<i->(old.getD (old.length-1-j) []==now.getD (now.length-1-j) [])=true) H H.length 0)
   (Hd (fun T=>T 6=.int .i64 (cW old now:Nat)/\T 7=.int .i64 (bJ old now:Nat)) H H.length 0) (fun _=>False) ?_ ?_ ?_ 0 _ (by omega) ?_
  ·rintro i s hi hs
   obtain⟨T,rfl,h0,h1,h6,h7,hj⟩:=hs.out
   have Pq:=ph old now
   have rj:∀ (h:i<min old.length now.length-cW old now->(old.getD (old.length-1-i) []==now.getD (now.length-1-i) [])=false),bJ old now=i:=fun h=>sn _ hi hj h
   generalize cW old now=a at *
   by_cases mi:(i:Int)<(old.length:Int)-a
   ·by_cases I1:(i:Int)<(now.length:Int)-a
    ·have e1:=ahP (show old.length-1-i<old.length by omega)
     have e2:=ahP (show now.length-1-i<now.length by omega)
     have d1:=getD_at (d:=([]:aV)) (show old.length-1-i<old.length by omega)
     have d2:=getD_at (d:=([]:aV)) (show now.length-1-i<now.length by omega)
     have n1:asNat (.int .i64 ((old.length:Int)-1-i))=some (old.length-1-i):=by rw[dD (by omega)];congr 1;omega
     have n2:asNat (.int .i64 ((now.length:Int)-1-i))=some (now.length-1-i):=by rw[dD (by omega)];congr 1;omega
     cases he:(old[old.length-1-i]==now[now.length-1-i]) with
     | true =>
      simp(disch:=omega)only[aX,aa,simprocAttr,h0,h1,h6,h7,aJ,mi,I1,n1,n2,bB e1,bB e2,he]
      refine⟨by omega,fun j my=>?_⟩
      rcases (show j<i\/j=i by omega) with h|rfl
      ·exact hj j h
      ·rw[d1,d2];exact he
     | false =>
      simp(disch:=omega)only[aX,aa,simprocAttr,h0,h1,h6,h7,aJ,mi,I1,n1,n2,bB e1,bB e2,he]
      rw[rj (fun _=>by rw[d1,d2];exact he)]
    ·simp(disch:=omega)only[aX,aa,simprocAttr,h0,h1,h6,h7,aJ,mi,I1]
     rw[rj (fun h=>by omega)]
   ·simp(disch:=omega)only[aX,aa,simprocAttr,h0,h1,h6,h7,aJ,mi]
    rw[rj (fun h=>by omega)]
  ·intro s hs
   obtain⟨T,rfl,h6,h7⟩:=hs.out
   simp(disch:=omega)only[aX,aa,simprocAttr,h6,h7]
  ·intro s hs;exact hs.elim
  ·simp(disch:=omega)only[aX,aa,simprocAttr,h0,h1,h6,aio]
   exact fun j h=>absurd h (ajv j)
 ·intro s hs;exact hs.elim
 ·simp(disch:=omega)only[aX,aa,simprocAttr,aio]
  exact fun j h=>absurd h (ajv j)
section
variable {T:aA}{H:ag}{lo gen t:Nat}{os:List az}{K:AS->Prop}
def xK(x y:AV)(t:Nat)(os:List az)(T:aA)(H:ag)(lo gen:Nat)(K:AS->Prop):Prop :=
 bj (kS ⟨T,H,lo,gen⟩ x y) fun r=>match r.2 with
  | some s'=>WO A false os (s'.br t r.1) K
  | none=>WO A false os ⟨T.put t r.1,H,lo,gen⟩ K
theorem rM{x y:ak} : WO A false (⟨some t,none,.copyO x y⟩ :: os) ⟨T,H,lo,gen⟩ K=xK (x.addr A.aP T) (y.eval A.aP T) t os T H lo gen K:=l6 rfl
theorem Bh{o own:Bool}{f:List (List AV)} : xK (.slice [] o) (.slice f own) t os T H lo gen K=WO A false os ⟨T.put t (.int .i64 0),H,lo,gen⟩ K:=by
 simp only[xK,kS,av]
theorem Il{l o n:Nat}{own:Bool}{L:List aV}{cs:List AV}(hH:H[l]?=some (.dM cs))(hb:o+n<=cs.length) :
  xK (.sref l o n 1) (.slice (strs L) own) t os T H lo gen K =
   WO A false os ⟨T.put t (.int .i64 (Nat.min L.length n:Nat)),H.set l (.dM (cs.take o++(L.take (Nat.min L.length n)).map AV.str++cs.drop (o+(L.take (Nat.min L.length n)).length))),cond (Nat.blt l lo) l lo,gen⟩ K:=by
 have h1:fC 1 (strs L)=true:=by cases L<;>rfl
 have h2:fg (strs L)=true:=by simp[fg,strs,AV.plain]
 have h3:Nat.ble (o+n) cs.length=true:=by simpa [aiq] using hb
 have h4:((strs L).take (Nat.min L.length n)).flatten=(L.take (Nat.min L.length n)).map AV.str:=by
  generalize Nat.min L.length n=k
  rw[strs,<- List.map_take]
  generalize L.take k=M
  induction M with
  | nil=>rfl
  | cons a M ih=>simp only[ah1,aiz,ih];rfl
 simp only[xK,kS,hH,h1,h2,h3,ai1,cond_true,av,aj6,aJ,h4,putAt,AS.fa,AS.br,aie]
end
theorem qX{base t l n:Nat}{fn:au}{s:AS}{L:List aV}(hr:fn.results=[.tmp t])(hm:fn.muts.elem 888888=false)(hT:s.T t=.sref l 0 n 1)(hH:s.H[l]?=some (.dM (L.map AV.str)))(hl:base<=l)(hn:L.length=n)(wQ:s.lo=base)(m7:fn.muts.elem 777777=false:=by decide) :
  finish base fn s=some (.slice (strs L) false,none):=BL hr hm m7 hT hH rfl hl hn.symm wQ
theorem su{l o n:Nat}{own:Bool}{L O:List aV}{H:ag}{T:aA}{lo gen t:Nat}{os:List az}{K:AS->Prop}(hH:H[l]?=some (.dM (O.map AV.str)))(hb:o+n<=O.length)(hn:L.length<=n) :
  xK (.sref l o n 1) (.slice (strs L) own) t os T H lo gen K =
   WO A false os ⟨T.put t (.int .i64 (L.length:Nat)),H.set l (.dM ((O.take o++L++O.drop (o+L.length)).map AV.str)),cond (Nat.blt l lo) l lo,gen⟩ K:=by
 have e:Nat.min L.length n=L.length:=Nat.min_eq_left hn
 rw[Il hH (by simpa using hb),e,aiZ]
 simp only[List.map_append,List.map_take,List.map_drop]
theorem Ol{O:List aV}{i:Nat}{x:aV}(h:i<O.length):(O.map AV.str).take i++[AV.str x]++(O.map AV.str).drop (i+1)=(O.set i x).map AV.str:=by
 rw[List.set_eq_take_append_cons_drop,if_pos h]
 simp[List.map_take,List.map_drop]
theorem wD{l:List aV}{i:Nat} : (strs l).take i=strs (l.take i):=by simp[strs,List.map_take]
theorem l7{l:List aV}{i:Nat} : (strs l).drop i=strs (l.drop i):=by simp[strs,List.map_drop]
theorem vH{layout old now O1 O2:List aV}(hlen:layout.length=old.length+1)(hO:(dB now).take 0++layout.take (cW old now)++(dB now).drop (0+(layout.take (cW old now)).length)=O1)
  (h2:O2=if layout.getD (old.length-bJ old now) []=[] then O1 else O1.set (now.length-bJ old now) (layout.getD (old.length-bJ old now) [])) :
  O1.length=now.length+1/\O2.length=now.length+1/\O2.take (now.length-bJ old now+1)++layout.drop (old.length-bJ old now+1)=kept layout old now:=by
 have hf:=lF old now
 have Pq:=ph old now
 have hk:∀ j,nE layout old now j=if j<cW old now then layout.getD j [] else if now.length-bJ old now<=j/\(now.length-bJ old now<j\/layout.getD (j+old.length-now.length) []≠[]) then layout.getD (j+old.length-now.length) [] else dk now j:=fun _=>rfl
 have hkg:=fun {i:Nat} (hi:i<now.length+1)=>Cj (layout:=layout) (old:=old) (now:=now) hlen hi
 have uc:=oK (layout:=layout) (old:=old) (now:=now) hlen
 generalize cW old now=a at *
 generalize bJ old now=b at *
 have ha:(layout.take a).length=a:=by rw[List.length_take];omega
 have l1:O1.length=now.length+1:=by
  rw[<- hO];simp[jv];omega
 have g1:∀ j,j<now.length+1->O1[j]?=some (if j<a then layout.getD j [] else dk now j):=by
  intro j hj
  rw[<- hO,aiN,ajg,aiw,ha,Nat.zero_add]
  by_cases J0:j<a
  ·rw[if_pos J0,if_pos J0,ah5,if_pos J0,getD_at (show j<layout.length by omega),ahP (show j<layout.length by omega)]
  ·rw[if_neg J0,if_neg J0,ail,show a+(j-a)=j by omega,yO hj]
 have l2:O2.length=now.length+1:=by
  rw[h2];split
  ·exact l1
  ·rw[List.length_set];exact l1
 refine⟨l1,l2,?_⟩
 have g2:∀ j,j<now.length+1->O2[j]?=some (if j=now.length-b/\layout.getD (old.length-b) []≠[] then layout.getD (old.length-b) [] else if j<a then layout.getD j [] else dk now j):=by
  intro j hj
  rw[h2]
  by_cases hx:layout.getD (old.length-b) []=[]
  ·rw[if_pos hx,if_neg (fun h=>h.2 hx)];exact g1 j hj
  ·rw[if_neg hx]
   by_cases Uk:j=now.length-b
   ·rw[if_pos ⟨Uk,hx⟩,Uk,List.getElem?_set_self (by omega)]
   ·rw[if_neg (fun h=>Uk h.1),ajU (fun h=>Uk h.symm)];exact g1 j hj
 refine ajo fun j=>?_
 by_cases hj:j<now.length+1
 ·rw[hkg hj,aiw,List.length_take,l2,show min (now.length-b+1) (now.length+1)=now.length-b+1 by omega]
  by_cases Uk:j<now.length-b+1
  ·rw[if_pos Uk,ah5,if_pos Uk,g2 j hj,hk]
   congr 1
   by_cases hje:j=now.length-b
   ·have e:j+old.length-now.length=old.length-b:=by omega
    have J0:¬ j<a:=by omega
    rw[e]
    by_cases hx:layout.getD (old.length-b) []=[]
    ·rw[if_neg (show ¬ (j=now.length-b/\layout.getD (old.length-b) []≠[]) from fun h=>h.2 hx),if_neg (show ¬ (now.length-b<=j/\(now.length-b<j\/layout.getD (old.length-b) []≠[])) by rintro ⟨_,h|h⟩;omega;exact h hx)]
    ·rw[if_pos (show j=now.length-b/\layout.getD (old.length-b) []≠[] from ⟨hje,hx⟩),if_neg J0,if_pos (show now.length-b<=j/\(now.length-b<j\/layout.getD (old.length-b) []≠[]) from ⟨by omega,.inr hx⟩)]
   ·rw[if_neg (fun h=>hje h.1)]
    by_cases J0:j<a
    ·rw[if_pos J0,if_pos J0]
    ·rw[if_neg J0,if_neg J0,if_neg (by omega)]
  ·rw[if_neg Uk,ail,hk,if_neg (show ¬ j<a by omega),if_pos ⟨by omega,.inl (by omega)⟩]
   have e:old.length-b+1+(j-(now.length-b+1))=j+old.length-now.length:=by omega
   rw[e,getD_at (show j+old.length-now.length<layout.length by omega),ahP (show j+old.length-now.length<layout.length by omega)]
 ·rw[air (by simp[l2];omega),air (by rw[uc];omega)]
theorem Xh(layout old now:List aV)(H:ag)(hl:layout.length<=1000000)(ho:old.length<=1000000)(hn:now.length<=1000000) :
  ∃ o,aB A 10 [.slice (strs layout) false,.slice (strs old) false,.slice (strs now) false] H=some (.slice (strs (kept layout old now)) o,none):=by
 by_cases hlen:layout.length=old.length+1
 ·refine⟨false,?_⟩
  have cS:((layout.length:Int) != (old.length:Int)+1)=false:=by simp;omega
  have hf:=lF old now
  have Pq:=ph old now
  have key:∃ r,aB A 10 [.slice (strs layout) false,.slice (strs old) false,.slice (strs now) false] H=some r/\r=(.slice (strs (kept layout old now)) false,none):=by
   refine o4 (fn:=FZ) rfl rfl rfl ?_
   unfold FZ
   simp(disch:=omega)only[aX,aa,simprocAttr,aJ,cS]
   have Ly:(if (now.length:Int)<old.length then (now.length:Int) else old.length)=((min old.length now.length:Nat):Int):=by
    rw[Nat.min_def];split<;>split<;>omega
   simp(disch:=omega)only[Ly]
   refine bP (min old.length now.length) 0 (fun i=>HR (fun T=>T 0=.slice (strs layout) false/\T 1=.slice (strs old) false/\T 2=.slice (strs now) false/\T 7=.int .i64 (min old.length now.length:Nat)/\T 8=.int .i64 i/\∀ j,j<i->(old.getD j []==now.getD j [])=true) H H.length)
    (HR (fun T=>T 0=.slice (strs layout) false/\T 1=.slice (strs old) false/\T 2=.slice (strs now) false/\T 7=.int .i64 (min old.length now.length:Nat)/\T 8=.int .i64 (cW old now:Nat)) H H.length) (fun _=>False) ?_ ?_ ?_ 0 _ (by omega) ?_
   ·rintro i s hi hs
    obtain⟨T,g,rfl,h0,h1,h2,h7,h8,hj⟩:=hs.out
    have Lq:∀ (h:i<min old.length now.length->(old.getD i []==now.getD i [])=false),cW old now=i:=fun h=>sn _ hi hj h
    by_cases Dx:(i:Int)<((min old.length now.length:Nat):Int)
    ·have e1:=ahP (show i<old.length by omega)
     have e2:=ahP (show i<now.length by omega)
     have d1:=getD_at (d:=([]:aV)) (show i<old.length by omega)
     have d2:=getD_at (d:=([]:aV)) (show i<now.length by omega)
     cases he:(old[i]==now[i]) with
     | true =>
      simp(disch:=omega)only[aX,aa,simprocAttr,h0,h1,h2,h7,h8,aJ,Dx,bB e1,bB e2,he]
      refine⟨by omega,fun j my=>?_⟩
      rcases (show j<i\/j=i by omega) with h|rfl
      ·exact hj j h
      ·rw[d1,d2];exact he
     | false =>
      simp(disch:=omega)only[aX,aa,simprocAttr,h0,h1,h2,h7,h8,aJ,Dx,bB e1,bB e2,he]
      rw[Lq (fun _=>by rw[d1,d2];exact he)]
    ·simp(disch:=omega)only[aX,aa,simprocAttr,h0,h1,h2,h7,h8,aJ,Dx]
     rw[Lq (fun h=>by omega)]
   ·intro s hs
    obtain⟨T,g,rfl,h0,h1,h2,h7,h8⟩:=hs.out
    simp(disch:=omega)only[aX,aa,simprocAttr,h0,h1,h2,h7,h8]
    refine bP (min old.length now.length-cW old now) 2 (fun i=>HR (fun T=>T 0=.slice (strs layout) false/\T 1=.slice (strs old) false/\T 2=.slice (strs now) false/\T 7=.int .i64 (min old.length now.length:Nat)/\T 8=.int .i64 (cW old now:Nat)/\T 9=.int .i64 i/\∀ j,j<i->(old.getD (old.length-1-j) []==now.getD (now.length-1-j) [])=true) H H.length)
     (HR (fun T=>T 0=.slice (strs layout) false/\T 1=.slice (strs old) false/\T 2=.slice (strs now) false/\T 8=.int .i64 (cW old now:Nat)/\T 9=.int .i64 (bJ old now:Nat)) H H.length) (fun _=>False) ?_ ?_ ?_ 0 _ (by omega) ?_
    ·rintro i s hi hs
     obtain⟨T,g,rfl,h0,h1,h2,h7,h8,h9,hj⟩:=hs.out
     have rj:∀ (h:i<min old.length now.length-cW old now->(old.getD (old.length-1-i) []==now.getD (now.length-1-i) [])=false),bJ old now=i:=fun h=>sn _ hi hj h
     generalize cW old now=a at *
     by_cases Dx:(i:Int)<((min old.length now.length:Nat):Int)-a
     ·have e1:=ahP (show old.length-1-i<old.length by omega)
      have e2:=ahP (show now.length-1-i<now.length by omega)
      have d1:=getD_at (d:=([]:aV)) (show old.length-1-i<old.length by omega)
      have d2:=getD_at (d:=([]:aV)) (show now.length-1-i<now.length by omega)
      have n1:asNat (.int .i64 ((old.length:Int)-1-i))=some (old.length-1-i):=by rw[dD (by omega)];congr 1;omega
      have n2:asNat (.int .i64 ((now.length:Int)-1-i))=some (now.length-1-i):=by rw[dD (by omega)];congr 1;omega
      cases he:(old[old.length-1-i]==now[now.length-1-i]) with
      | true =>
       simp(disch:=omega)only[aX,aa,simprocAttr,h0,h1,h2,h7,h8,h9,aJ,Dx,n1,n2,bB e1,bB e2,he]
       refine⟨by omega,fun j my=>?_⟩
       rcases (show j<i\/j=i by omega) with h|rfl
       ·exact hj j h
       ·rw[d1,d2];exact he
      | false =>
       simp(disch:=omega)only[aX,aa,simprocAttr,h0,h1,h2,h7,h8,h9,aJ,Dx,n1,n2,bB e1,bB e2,he]
       rw[rj (fun _=>by rw[d1,d2];exact he)]
     ·simp(disch:=omega)only[aX,aa,simprocAttr,h0,h1,h2,h7,h8,h9,aJ,Dx]
      rw[rj (fun h=>by omega)]
    ·intro s hs
     obtain⟨T,g,rfl,h0,h1,h2,h8,h9⟩:=hs.out
     simp(disch:=omega)only[aX,aa,simprocAttr,h0,h1,h2,h8,h9,TM now H hn,aJ,wD,rM]
     rw[su (O:=dB now) dO (by rw[jv];omega) (by rw[List.length_take];omega)]
     obtain⟨O1,hO1⟩:∃ O1:List aV,(dB now).take 0++layout.take (cW old now)++(dB now).drop (0+(layout.take (cW old now)).length)=O1:=⟨_,rfl⟩
     rw[hO1]
     have V0:old.length-bJ old now<layout.length:=by omega
     have e0:=ahP V0
     have n0:asNat (.int .i64 ((old.length:Int)-(bJ old now:Nat)))=some (old.length-bJ old now):=by rw[dD (by omega)];congr 1;omega
     have n3:asNat (.int .i64 ((now.length:Int)-(bJ old now:Nat)))=some (now.length-bJ old now):=by rw[dD (by omega)];congr 1;omega
     have n4:asNat (.int .i64 ((now.length:Int)-(bJ old now:Nat)+1))=some (now.length-bJ old now+1):=by rw[dD (by omega)];congr 1;omega
     have n5:asNat (.int .i64 ((old.length:Int)-(bJ old now:Nat)+1))=some (old.length-bJ old now+1):=by rw[dD (by omega)];congr 1;omega
     have d0:=getD_at (d:=([]:aV)) V0
     have hho:fC 1 (strs layout)=true:=by cases layout<;>rfl
     cases hy:(layout[old.length-bJ old now]==[]) with
     | true =>
      have py:=vH (layout:=layout) (old:=old) (now:=now) (O2:=O1) hlen hO1 (by rw[d0,if_pos (aiF.1 hy)])
      by_cases hz:bJ old now=0
      ·have hd:decide (now.length-bJ old now+1<now.length+1)=false:=aiT (by omega)
       simp(disch:=omega)only[aX,aa,simprocAttr,h0,h1,h2,h8,h9,heap_set,cA,aJ,n0,bB e0,hy,n4,n5,l7,rM,hho,hd,Bh,aji]
       have hK:O1=kept layout old now:=by
        rw[<- py.2.2,aiA (by rw[py.2.1];omega),aiX (by omega),ain]
       exact⟨_,qX (t:=6) (L:=O1) (n:=now.length+1) rfl (by decide) (by simp[aA.put]) dO (ahQ _) py.2.1 rfl,by rw[hK]⟩
      ·have hd:decide (now.length-bJ old now+1<now.length+1)=true:=decide_eq_true (by omega)
       simp(disch:=omega)only[aX,aa,simprocAttr,h0,h1,h2,h8,h9,heap_set,cA,aJ,n0,bB e0,hy,n4,n5,l7,rM,hho,hd,aji]
       rw[su (O:=O1) dO (by rw[py.2.1];omega) (by rw[aiv];omega)]
       simp(disch:=omega)only[aX,aa,simprocAttr,h0,h1,h2,h8,h9,heap_set,cA]
       have hK:(O1).take (now.length-bJ old now+1)++layout.drop (old.length-bJ old now+1)++(O1).drop (now.length-bJ old now+1+(layout.drop (old.length-bJ old now+1)).length)=kept layout old now:=by
        rw[show (O1).drop (now.length-bJ old now+1+(layout.drop (old.length-bJ old now+1)).length)=[] from aiX (by rw[py.2.1,aiv];omega),ain];exact py.2.2
       rw[hK]
       exact⟨_,qX (t:=6) (L:=kept layout old now) (n:=now.length+1) rfl (by decide) (by simp[aA.put]) dO (ahQ _) (oK hlen) rfl,rfl⟩
     | false =>
      have py:=vH (layout:=layout) (old:=old) (now:=now) (O2:=O1.set (now.length-bJ old now) layout[old.length-bJ old now]) hlen hO1 (by rw[d0,if_neg (ai0.1 hy)])
      have aam:=Ol (O:=O1) (i:=now.length-bJ old now) (x:=layout[old.length-bJ old now]) (by rw[py.1];omega)
      by_cases hz:bJ old now=0
      ·have hd:decide (now.length-bJ old now+1<now.length+1)=false:=aiT (by omega)
       simp(disch:=omega)only[aX,aa,simprocAttr,h0,h1,h2,h8,h9,heap_set,cA,aJ,n0,n3,bB e0,hy,n4,n5,l7,rM,hho,hd,Bh,dO,aie,py.1,aji,aam]
       have hK:O1.set (now.length-bJ old now) layout[old.length-bJ old now]=kept layout old now:=by
        rw[<- py.2.2,aiA (by rw[py.2.1];omega),aiX (by omega),ain]
       exact⟨_,qX (t:=6) (L:=O1.set (now.length-bJ old now) layout[old.length-bJ old now]) (n:=now.length+1) rfl (by decide) (by simp[aA.put]) dO (ahQ _) py.2.1 rfl,by rw[hK]⟩
      ·have hd:decide (now.length-bJ old now+1<now.length+1)=true:=decide_eq_true (by omega)
       simp(disch:=omega)only[aX,aa,simprocAttr,h0,h1,h2,h8,h9,heap_set,cA,aJ,n0,n3,bB e0,hy,n4,n5,l7,rM,hho,hd,dO,aie,py.1,aji,aam]
       rw[su (O:=O1.set (now.length-bJ old now) layout[old.length-bJ old now]) dO (by rw[py.2.1];omega) (by rw[aiv];omega)]
       simp(disch:=omega)only[aX,aa,simprocAttr,h0,h1,h2,h8,h9,heap_set,cA]
       have hK:(O1.set (now.length-bJ old now) layout[old.length-bJ old now]).take (now.length-bJ old now+1)++layout.drop (old.length-bJ old now+1)++(O1.set (now.length-bJ old now) layout[old.length-bJ old now]).drop (now.length-bJ old now+1+(layout.drop (old.length-bJ old now+1)).length)=kept layout old now:=by
        rw[show (O1.set (now.length-bJ old now) layout[old.length-bJ old now]).drop (now.length-bJ old now+1+(layout.drop (old.length-bJ old now+1)).length)=[] from aiX (by rw[py.2.1,aiv];omega),ain];exact py.2.2
       rw[hK]
       exact⟨_,qX (t:=6) (L:=kept layout old now) (n:=now.length+1) rfl (by decide) (by simp[aA.put]) dO (ahQ _) (oK hlen) rfl,rfl⟩
    ·intro s hs;exact hs.elim
    ·simp(disch:=omega)only[aX,aa,simprocAttr,h0,h1,h2,h7,h8,aio]
     exact fun j h=>absurd h (ajv j)
   ·intro s hs;exact hs.elim
   ·simp(disch:=omega)only[aX,aa,simprocAttr,aio]
    exact fun j h=>absurd h (ajv j)
  obtain⟨r,h,rfl⟩:=key
  exact h
 ·refine⟨true,ba (fn:=FZ) rfl rfl rfl ?_⟩
  unfold FZ
  have cS:((layout.length:Int) != (old.length:Int)+1)=true:=by simp;omega
  have hk:kept layout old now=[]:=by simp[kept,hlen]
  simp(disch:=omega)only[aX,aa,simprocAttr,aJ,cS,hk,oW]
end
theorem wG:∀ {ts xs:List aV},xs.length=ts.length+1->(mE ts xs).length=ts.length
 | [],[],_=>rfl
 | [],_ :: _,_=>rfl
 | _ :: _,[],h=>by simp at h
 | t :: ts,x :: xs,h=>by simp only[mE,List.length_cons];rw[wG (by simpa using h)]
theorem wF:∀ {ts xs:List aV} {i:Nat},xs.length=ts.length+1->i<ts.length->(mE ts xs)[i]?=some ⟨ts.getD i [],xs.getD i []⟩
 | [],_,_,_,h=>by simp at h
 | _ :: _,[],_,h,_=>by simp at h
 | t :: ts,x :: xs,0,_,_=>rfl
 | t :: ts,x :: xs,i+1,h,hi=>by
  have:=wF (ts:=ts) (xs:=xs) (i:=i) (by simpa using h) (by simpa using hi)
  simpa [mE] using this
theorem xV:∀ {ts xs:List aV},xs.length=ts.length+1->glue ts xs=kP ts xs ts.length++xs.getD ts.length []
 | [],[x],_=>by simp[glue,kP]
 | t :: ts,x :: xs,h=>by
  have ih:=xV (ts:=ts) (xs:=xs) (by simpa using h)
  rw[glue,ih]
  unfold kP
  rw[List.length_cons,List.range_succ_eq_map]
  simp[ajh,Function.comp_def]
theorem vF{l lay:List aV}(h:lay.length=l.length+1):Ci l lay=glue l lay:=by
 unfold Ci rD
 rw[if_pos h,xV h]
theorem HI{l xs:List aV}(h:jP l xs)(hl:(glue l xs).length<=8192)(hn:l.length<=10000)(o:Bool)(H:ag):aB A 11 [.str (glue l xs),.slice (strs l) false] H=some (.bool true,none):=by
 have hs:=To (glue l xs) H (by omega)
 rw[JJ h hl] at hs
 simp only at hs
 have tl:=wG h.len
 have cS:(((mE l xs).length:Int) != (l.length:Int))=false:=by rw[tl];simp
 refine ba (fn:=Me) rfl rfl rfl ?_
 unfold Me
 simp(disch:=omega)only[aX,aa,simprocAttr,hs,nN,aJ,cS]
 refine bP l.length 0 (fun i s=>∃ T g,s=⟨T,H,H.length,g⟩/\T 1=.slice (strs l) false/\T 5=.slice (fJ (mE l xs)) false/\T 8=.int .i64 i) (fun s=>∃ T g,s=⟨T,H,H.length,g⟩) (fun _=>False) ?_ ?_ (fun _ h=>h.elim) 0 _ (aiB _) ?_
 ·rintro i s hi ⟨T,g,rfl,e1,e5,e8⟩
  by_cases hc:i<l.length
  ·have q1:=ju hc
   have q2:=TL (wF h.len hc)
   have hb:((l.getD i []) != (l.getD i []))=false:=by simp
   generalize l.getD i []=u at q1 q2 hb
   simp(disch:=omega)only[aX,aa,simprocAttr,e1,e5,e8,nN,tl,q1,q2,Fe,hb]
   refine⟨hc,_,_,rfl,?_,?_,?_⟩
   all_goals simp(disch:=omega)only[aM,aa,simprocAttr,e1,e5]
  ·simp(disch:=omega)only[aX,aa,simprocAttr,e1,e5,e8,nN,tl]
   exact⟨_,_,rfl⟩
 ·rintro s ⟨T,g,rfl⟩
  simp(disch:=omega)only[aX,aa,simprocAttr]
 ·refine⟨_,_,rfl,?_,?_,?_⟩
  all_goals simp(disch:=omega)only[aM,aa,simprocAttr,aio]
theorem Xi{layout old now:List aV}{B:Nat}(hB:1<=B)(h:∀ x∈layout,x.length<=B):∀ x∈kept layout old now,x.length<=B:=by
 intro x hx
 unfold kept at hx
 split at hx
 ·obtain⟨i, -,rfl⟩:=aia.1 hx
  have g:∀ i,(layout.getD i []).length<=B:=fun i=>zG h i
  unfold nE
  split
  ·exact g _
  ·split
   ·exact g _
   ·unfold dk;split
    ·simpa using hB
    ·simp
 ·cases hx
theorem wE{n:Int}(h:AG n)(k:Int)(hk:2<=k):AG (n.tdiv k):=by
 obtain⟨u1,u2⟩:=h
 by_cases aah:n<0
 ·have e:n.tdiv k=-((-n) / k):=by rw[<- Int.tdiv_eq_ediv_of_nonneg (show 0<=-n by omega),Int.neg_tdiv,Int.neg_neg]
  have h1:0<=(-n) / k:=Int.ediv_nonneg (by omega) (by omega)
  have h2:(-n) / k<=-n:=Int.ediv_le_self _ (by omega)
  have h3:(-n) / k<=(-n) / 2:=by
   rw[Int.le_ediv_iff_mul_le (by omega)]
   have h4:(-n) / k*k<=-n:=Int.ediv_mul_le _ (by omega)
   have h5:(-n) / k*2<=(-n) / k*k:=Int.mul_le_mul_of_nonneg_left hk h1
   omega
  exact⟨by omega,by omega⟩
 ·rw[Int.tdiv_eq_ediv_of_nonneg (by omega)]
  have h1:0<=n / k:=Int.ediv_nonneg (by omega) (by omega)
  have h2:n / k<=n:=Int.ediv_le_self _ (by omega)
  exact⟨by omega,by omega⟩
structure Df (f:Fm) (lay:List aV):Prop where
 fb:Pl f
 fv:Dz f
 II:jP (dL f) lay
 lb:∀ x∈lay,x.length<=20
theorem Df.len{f:Fm}{lay:List aV}(h:Df f lay):(dL f).length<=200:=h.fv.ln
def StA(at' : Int)(y:So)(f:Fm)(lay:List aV)(s:AS):Prop:=∃ T g gy o,s=⟨T,[],0,g⟩/\T 2=.int .i64 at'/\T 8=.lbox gy [.str y.name,.slice (strs y.mF) false,.slice (y.defs.map jR) false,.slice (strs y.head) false,.str y.fin] /\
 T 10=.slice (strs (dL f)) o/\T 11=.slice (strs lay) false
theorem CY{f:Fm}(h:Pl f)(hv:Dz f)(H:ag):∃ o,aB A 8 [.agg [.int .i64 f.kind,.str f.name,.slice (f.bu.map gk) false,.str f.rn,.slice (aO f.rk) false,.int .i64 f.body.kind,.int .i64 f.body.n,.str f.body.name,.str f.body.field,.str f.body.wn,.slice (aO f.body.wk) false,.slice (aK f.body.kids) false,.slice (strs f.body.names) false,.slice (strs f.layout) false]] H=some (.slice (strs (dL f)) o,none):=by
 have e:=Ar h H
 rw[wc hv.pr,jR] at e
 exact⟨_,e⟩
theorem Jf{x y:So}{at' : Int}{T:aA}{g gx gy:Nat}{Q:bw->AS->Prop}(hx:HS 4 x/\∀ f∈x.defs,Dz f)(kE:AG at')(qE:0<x.defs.length)
  (e2:T 2=.int .i64 at') (e7:T 7=.lbox gx [.str x.name,.slice (strs x.mF) false,.slice (x.defs.map jR) false,.slice (strs x.head) false,.str x.fin])
  (e8:T 8=.lbox gy [.str y.name,.slice (strs y.mF) false,.slice (y.defs.map jR) false,.slice (strs y.head) false,.str y.fin]) :
  W A ((zR.body.post 3).pre 3) ⟨T,[],0,g⟩ (andThen (fun s=>∃ f lay,Df f lay/\StA at' y f lay s) Q):=by
 unfold zR
 simp only[a7.post,a7.pre]
 obtain⟨r1,r2⟩:=iC (n:=at') (k:=(x.defs.length:Int)) (by omega)
 have ha:=mK at' x.defs.length [] kE (by omega)
 generalize kH at' x.defs.length=k at r1 r2 ha
 obtain⟨k,rfl⟩:∃ k' : Nat,k=k':=⟨k.toNat,by omega⟩
 have hk:k<x.defs.length:=by omega
 have hxi:=ahP hk
 have hm:=aiQ hk
 generalize x.defs[k]=f at hxi hm
 have zL:=T7 hxi
 rw[jR] at zL
 have hB:=(hx.1.db f hm).B (by omega)
 have hV:=hx.2 f hm
 obtain⟨o,h8⟩:=CY hB hV []
 obtain⟨lay,Lw⟩:∃ lay,lay=if f.layout=[] then gO (dL f) else f.layout:=⟨_,rfl⟩
 obtain⟨Hl,B6⟩:=IJ hB hV Lw
 by_cases hl0:f.layout=[]
 ·rw[if_pos hl0] at Lw
  subst Lw
  have hu:=Dk (dL f) [] (by have:=hV.ln;omega)
  have Uq:(f.layout.length:Int)=0:=by rw[hl0];rfl
  cases o <;>
  simp(disch:=omega)only[aX,aa,simprocAttr,e2,e7,e8,sE,ha,zL,h8,aJ,Uq,hu,cO,ar,bV]
  ·exact⟨f,_,⟨hB,hV,Hl,B6⟩,_,_,gy,false,rfl,by simp(disch:=omega)only[aM,aa,simprocAttr,e2],by simp(disch:=omega)only[aM,aa,simprocAttr,e8],by simp(disch:=omega)only[aM,aa,simprocAttr],by simp(disch:=omega)only[aM,aa,simprocAttr]⟩
  ·exact⟨f,_,⟨hB,hV,Hl,B6⟩,_,_,gy,true,rfl,by simp(disch:=omega)only[aM,aa,simprocAttr,e2],by simp(disch:=omega)only[aM,aa,simprocAttr,e8],by simp(disch:=omega)only[aM,aa,simprocAttr],by simp(disch:=omega)only[aM,aa,simprocAttr]⟩
 ·rw[if_neg hl0] at Lw
  subst Lw
  have Uq:0<f.layout.length:=aj2.2 hl0
  cases o <;>
  simp(disch:=omega)only[aX,aa,simprocAttr,e2,e7,e8,sE,ha,zL,h8,aJ,cO,ar,bV]
  ·exact⟨f,_,⟨hB,hV,Hl,B6⟩,_,_,gy,false,rfl,by simp(disch:=omega)only[aM,aa,simprocAttr,e2],by simp(disch:=omega)only[aM,aa,simprocAttr,e8],by simp(disch:=omega)only[aM,aa,simprocAttr],by simp(disch:=omega)only[aM,aa,simprocAttr]⟩
  ·exact⟨f,_,⟨hB,hV,Hl,B6⟩,_,_,gy,true,rfl,by simp(disch:=omega)only[aM,aa,simprocAttr,e2],by simp(disch:=omega)only[aM,aa,simprocAttr,e8],by simp(disch:=omega)only[aM,aa,simprocAttr],by simp(disch:=omega)only[aM,aa,simprocAttr]⟩
def StB(old lay now:List aV)(s:AS):Prop:=∃ T g o,s=⟨T,[],0,g⟩/\T 10=.slice (strs old) o/\T 11=.slice (strs lay) false/\T 16=.slice (strs now) true
theorem R2{y:So}{at' : Int}{f:Fm}{lay:List aV}{s:AS}{Q:bw->AS->Prop}(hD:Df f lay)(hy:HS 4 y/\∀ f∈y.defs,Dz f)(kE:AG at')(LK:0<y.defs.length)(hs:StA at' y f lay s) :
  W A ((zR.body.post 7).pre 4) s (andThen (fun s=>∃ now,(∀ t∈now,gP t)/\now.length<=204/\StB (dL f) lay now s) Q):=by
 obtain⟨T,g,gy,o,rfl,e2,e8,KO,um⟩:=hs
 unfold zR
 simp only[a7.post,a7.pre]
 have hxi:=ahP LK
 have hm:=aiQ LK
 generalize y.defs[0]=u at hxi hm
 have zL:=T7 hxi
 rw[jR] at zL
 have hB:=(hy.1.db u hm).B (by omega)
 have hV:=hy.2 u hm
 obtain⟨o2,h8⟩:=CY hB hV []
 have hul:=hV.ln
 have hus:=HJ hB hV.pr
 have FL:=hD.len
 have hfs:=hD.II.s
 generalize dL u=other at h8 hul hus
 generalize dL f=old at KO FL hfs ⊢
 have d3:=wE kE 3 (by omega)
 have d5:=wE kE 5 (by omega)
 have d7:=wE kE 7 (by omega)
 obtain⟨i0,i1⟩:=iC (n:=at'.tdiv 3) (k:=(old.length:Int)+1) (by omega)
 have hi:=mK (at'.tdiv 3) ((old.length:Int)+1) [] d3 (by omega)
 generalize kH (at'.tdiv 3) ((old.length:Int)+1)=i at i0 i1 hi
 obtain⟨i,rfl⟩:∃ i' : Nat,i=i':=⟨i.toNat,by omega⟩
 obtain⟨k0,k1⟩:=iC (n:=at'.tdiv 5) (k:=(old.length:Int)-i+1) (by omega)
 have hk:=mK (at'.tdiv 5) ((old.length:Int)-i+1) [] d5 (by omega)
 generalize kH (at'.tdiv 5) ((old.length:Int)-i+1)=k at k0 k1 hk
 obtain⟨k,rfl⟩:∃ k' : Nat,k=k':=⟨k.toNat,by omega⟩
 obtain⟨q,hq,q0,q4,ql⟩:∃ q:Int,(if (4:Int)<(other.length:Int) then (4:Int) else (other.length:Int))=q/\0<=q/\q<=4/\q<=other.length:=⟨_,rfl,by split<;>omega,by split<;>omega,by split<;>omega⟩
 obtain⟨n0,n1⟩:=iC (n:=at'.tdiv 7) (k:=q+1) (by omega)
 have hn:=mK (at'.tdiv 7) (q+1) [] d7 (by omega)
 generalize kH (at'.tdiv 7) (q+1)=n at n0 n1 hn
 obtain⟨n,rfl⟩:∃ n' : Nat,n=n':=⟨n.toNat,by omega⟩
 have l1:(old.take i).length<=200:=by rw[List.length_take];omega
 have l2:(other.take n).length<=4:=by rw[List.length_take];omega
 have l3:(old.drop (i+k)).length<=200:=by rw[aiv];omega
 have l4:(old.take i).length+(old.drop (i+k)).length<=200:=by rw[List.length_take,aiv];omega
 have a1:∀ o,an false 1 16 (.slice [] true) (.slice (strs (old.take i)) o)=some (.slice (strs (old.take i)) true):=fun o=>bG (l:=[]) (by simp;omega)
 have a2:∀ o,an false 1 16 (.slice (strs (old.take i)) true) (.slice (strs (other.take n)) o)=some (.slice (strs (old.take i++other.take n)) true):=fun o=>bG (by omega)
 have a3:∀ o,an false 1 16 (.slice (strs (old.take i++other.take n)) true) (.slice (strs (old.drop (i+k))) o)=some (.slice (strs (old.take i++other.take n++old.drop (i+k))) true):=fun o=>bG (by simp only[List.length_append];omega)
 have nk:asNat (.int .i64 ((i:Int)+k))=some (i+k):=by rw[dD (by omega)];congr 1
 have Qn:fC 1 (strs old)=true:=by cases old<;>rfl
 have Y2:fC 1 (strs other)=true:=by cases other<;>rfl
 cases o2 <;>
 simp(disch:=omega)only[aX,aa,simprocAttr,e2,e8,KO,um,sE,zL,h8,aJ,hi,hk,hq,hn,nk,wD,l7,Qn,Y2,aiZ,a1,a2,a3,cO,ar,bV]
 all_goals
  refine⟨old.take i++other.take n++old.drop (i+k),?_,by simp only[List.length_append];omega,_,_,o,rfl,?_,?_,?_⟩
  ·intro t ht
   rcases ahS.1 ht with ht|ht
   ·rcases ahS.1 ht with ht|ht
    ·exact hfs t (aiO ht)
    ·exact hus t (aiO ht)
   ·exact hfs t (akv ht)
  ·simp(disch:=omega)only[aM,aa,simprocAttr,KO]
  ·simp(disch:=omega)only[aM,aa,simprocAttr,um]
  ·simp(disch:=omega)only[aM,aa,simprocAttr]
def StC(old lay now:List aV)(s:AS):Prop:=∃ T g o,s=⟨T,[],0,g⟩/\T 11=.slice (strs lay) false/\T 16=.slice (strs now) true/\T 17=.slice (strs (kept lay old now)) o/\T 18=.int .i64 (cW old now:Nat)/\T 19=.int .i64 (bJ old now:Nat)
theorem NW{old lay now:List aV}{s:AS}{Q:bw->AS->Prop}(hf:jP old lay)(B6:∀ x∈lay,x.length<=20)(V9:old.length<=200)(pA:∀ t∈now,gP t)(n7:now.length<=204)(hs:StB old lay now s) :
  W A ((zR.body.post 12).pre 2) s (andThen (StC old lay now) Q):=by
 obtain⟨T,g,o,rfl,KO,um,xc⟩:=hs
 unfold zR
 simp only[a7.post,a7.pre]
 have hlen:=hf.len
 obtain⟨ok,hk⟩:=Xh lay old now [] (by omega) (by omega) (by omega)
 have uc:=oK (now:=now) hlen
 have Us:∀ t∈old,t.length<=40:=fun t ht=>ait (hf.s t ht).len (by omega)
 have hj:=Hv old lay [] (by omega) Us (fun x hx=>ait (B6 x hx) (by omega)) (by omega)
 rw[vF hlen] at hj
 have hgl:(glue old lay).length<=8192:=by
  have:=zH (B:=20) (fun t ht=>ait (hf.s t ht).len (by omega)) B6
  have h2:(2*old.length+1)*20<=409*20:=ah7 _ (by omega)
  omega
 have hsm:=HI hf hgl (by omega) false []
 have he:=Vi old now [] (by omega) (by omega)
 have cS:(((kept lay old now).length:Int) != (now.length:Int)+1)=false:=by rw[uc];simp
 cases ok<;>cases o <;>
 simp(disch:=omega)only[aX,aa,simprocAttr,KO,um,xc,aJ,hk,uc,cS,hj,hsm,he]
 ·refine⟨_,_,false,rfl,?_,?_,?_,?_,?_⟩
  all_goals simp(disch:=omega)only[aM,aa,simprocAttr,um,xc]
 ·refine⟨_,_,false,rfl,?_,?_,?_,?_,?_⟩
  all_goals simp(disch:=omega)only[aM,aa,simprocAttr,um,xc]
 ·refine⟨_,_,true,rfl,?_,?_,?_,?_,?_⟩
  all_goals simp(disch:=omega)only[aM,aa,simprocAttr,um,xc]
 ·refine⟨_,_,true,rfl,?_,?_,?_,?_,?_⟩
  all_goals simp(disch:=omega)only[aM,aa,simprocAttr,um,xc]
theorem R1{old lay now:List aV}{s:AS}(hf:jP old lay)(B6:∀ x∈lay,x.length<=20)(V9:old.length<=200)(pA:∀ t∈now,gP t)(n7:now.length<=204)(hs:StC old lay now s) :
  W A (zR.body.post 15) s (done 0 [.tmp 6] (.bool true,none)):=by
 obtain⟨T,g,o,rfl,um,xc,Fc,YP,Ix⟩:=hs
 unfold zR
 simp only[a7.post]
 have hlen:=hf.len
 have uc:=oK (now:=now) hlen
 have f1:=lF old now
 have f2:=ph old now
 simp(disch:=omega)only[aX,aa,simprocAttr]
 refine bP (cW old now) 0 (fun i s=>∃ T g o,s=⟨T,[],0,g⟩/\T 11=.slice (strs lay) false/\T 16=.slice (strs now) true/\T 17=.slice (strs (kept lay old now)) o/\T 18=.int .i64 (cW old now:Nat)/\T 19=.int .i64 (bJ old now:Nat)/\T 20=.int .i64 i)
  (fun s=>∃ T g o,s=⟨T,[],0,g⟩/\T 11=.slice (strs lay) false/\T 16=.slice (strs now) true/\T 17=.slice (strs (kept lay old now)) o/\T 19=.int .i64 (bJ old now:Nat)) (fun _=>False) ?_ ?_ (fun _ h=>h.elim) 0 _ (aiB _) ?_
 ·rintro i s hi ⟨T,g,o,rfl,um,xc,Fc,YP,Ix,e20⟩
  by_cases hc:i<cW old now
  ·have q1:=ju (l:=kept lay old now) (i:=i) (by omega)
   have q2:=ju (l:=lay) (i:=i) (by omega)
   rw[F4 hlen hc] at q1
   have hb:((lay.getD i []) != (lay.getD i []))=false:=by simp
   generalize lay.getD i []=u at q1 q2 hb
   cases o <;>
   simp(disch:=omega)only[aX,aa,simprocAttr,um,xc,Fc,YP,Ix,e20,q1,q2,hb]
   ·refine⟨hc,_,_,false,rfl,?_,?_,?_,?_,?_,?_⟩
    all_goals simp(disch:=omega)only[aM,aa,simprocAttr,um,xc,Fc,YP,Ix]
   ·refine⟨hc,_,_,true,rfl,?_,?_,?_,?_,?_,?_⟩
    all_goals simp(disch:=omega)only[aM,aa,simprocAttr,um,xc,Fc,YP,Ix]
  ·simp(disch:=omega)only[aX,aa,simprocAttr,YP,e20]
   exact⟨_,_,o,rfl,by simp(disch:=omega)only[aM,aa,simprocAttr,um],by simp(disch:=omega)only[aM,aa,simprocAttr,xc],by simp(disch:=omega)only[aM,aa,simprocAttr,Fc],by simp(disch:=omega)only[aM,aa,simprocAttr,Ix]⟩
 ·rintro s ⟨T,g,o,rfl,um,xc,Fc,Ix⟩
  simp(disch:=omega)only[aX,aa,simprocAttr]
  refine bP (bJ old now) 2 (fun i s=>∃ T g o,s=⟨T,[],0,g⟩/\T 11=.slice (strs lay) false/\T 16=.slice (strs now) true/\T 17=.slice (strs (kept lay old now)) o/\T 19=.int .i64 (bJ old now:Nat)/\T 21=.int .i64 i)
   (fun s=>∃ T g o,s=⟨T,[],0,g⟩/\T 16=.slice (strs now) true/\T 17=.slice (strs (kept lay old now)) o) (fun _=>False) ?_ ?_ (fun _ h=>h.elim) 0 _ (aiB _) ?_
  ·rintro i s hi ⟨T,g,o,rfl,um,xc,Fc,Ix,e21⟩
   by_cases hc:i<bJ old now
   ·have q1:=ju (l:=kept lay old now) (i:=now.length-i) (by omega)
    have q2:=ju (l:=lay) (i:=old.length-i) (by omega)
    rw[Jc hlen hc] at q1
    have hb:((lay.getD (old.length-i) []) != (lay.getD (old.length-i) []))=false:=by simp
    have n1:asNat (.int .i64 ((((kept lay old now).length:Int))-1-i))=some (now.length-i):=by rw[dD (by omega)];congr 1;omega
    have n2:asNat (.int .i64 (((lay.length:Int))-1-i))=some (old.length-i):=by rw[dD (by omega)];congr 1;omega
    generalize lay.getD (old.length-i) []=u at q1 q2 hb
    cases o <;>
    simp(disch:=omega)only[aX,aa,simprocAttr,um,xc,Fc,Ix,e21,aJ,n1,n2,q1,q2,hb]
    ·refine⟨hc,_,_,false,rfl,?_,?_,?_,?_,?_⟩
     all_goals simp(disch:=omega)only[aM,aa,simprocAttr,um,xc,Fc,Ix]
    ·refine⟨hc,_,_,true,rfl,?_,?_,?_,?_,?_⟩
     all_goals simp(disch:=omega)only[aM,aa,simprocAttr,um,xc,Fc,Ix]
   ·simp(disch:=omega)only[aX,aa,simprocAttr,Ix,e21]
    exact⟨_,_,o,rfl,by simp(disch:=omega)only[aM,aa,simprocAttr,xc],by simp(disch:=omega)only[aM,aa,simprocAttr,Fc]⟩
  ·rintro s ⟨T,g,o,rfl,xc,Fc⟩
   have hk:=Jb hf pA
   have uy:=Xi (old:=old) (now:=now) (B:=20) (by omega) B6
   have hj:=Hv now (kept lay old now) [] (by omega) (fun t ht=>ait (pA t ht).len (by omega)) (fun x hx=>ait (uy x hx) (by omega)) (by omega)
   rw[vF uc] at hj
   have hgl:(glue now (kept lay old now)).length<=8192:=by
    have:=zH (B:=20) (fun t ht=>ait (pA t ht).len (by omega)) uy
    have h2:(2*now.length+1)*20<=409*20:=ah7 _ (by omega)
    omega
   have hsm:=HI hk hgl (by omega) false []
   have Dw:aB A 6 [] []=some (.bool true,none):=uK (A:=A) (f:=6) rfl rfl
   cases o <;>
   simp(disch:=omega)only[aX,aa,simprocAttr,xc,Fc,hj,hsm,Dw]
  ·refine⟨_,_,o,rfl,?_,?_,?_,?_,?_⟩
   all_goals simp(disch:=omega)only[aM,aa,simprocAttr,um,xc,Fc,Ix,aio]
 ·refine⟨_,_,o,rfl,?_,?_,?_,?_,?_,?_⟩
  all_goals simp(disch:=omega)only[aM,aa,simprocAttr,um,xc,Fc,YP,Ix,aio]
theorem Tp(l m:List Int)(at' : Int)(hl:∀ n∈l,AG n)(hm:∀ n∈m,AG n)(kE:AG at'):aB A 3 [.slice (ints l) false,.slice (ints m) false,.int .i64 at'] []=some (.bool true,none):=by
 obtain⟨x,hx,ex⟩:=C5 l hl []
 obtain⟨y,hy,ey⟩:=C5 m hm []
 rw[PN] at ex ey
 have Dw:aB A 6 [] []=some (.bool true,none):=uK (A:=A) (f:=6) rfl rfl
 refine ba (fn:=zR) rfl rfl rfl ?_
 refine gI 3 (fun s=>∃ T g gx gy,s=⟨T,[],0,g⟩/\0<x.defs.length/\0<y.defs.length/\T 2=.int .i64 at'/\T 7=.lbox gx [.str x.name,.slice (strs x.mF) false,.slice (x.defs.map jR) false,.slice (strs x.head) false,.str x.fin] /\
  T 8=.lbox gy [.str y.name,.slice (strs y.mF) false,.slice (y.defs.map jR) false,.slice (strs y.head) false,.str y.fin]) ?_ ?_
 ·unfold zR
  simp only[a7.pre]
  have hxd:=hx.1.dl
  have hyd:=hy.1.dl
  by_cases qE:(x.defs.length:Int)=0
  ·simp(disch:=omega)only[aX,aa,simprocAttr,ex,ey,qE,sE,Dw,ahX,cO,ar,bV]
  ·by_cases LK:(y.defs.length:Int)=0
   ·simp(disch:=omega)only[aX,aa,simprocAttr,ex,ey,qE,LK,sE,Dw,ahX,cO,ar,bV]
   ·simp(disch:=omega)only[aX,aa,simprocAttr,ex,ey,qE,LK,sE,Dw,ahX,cO,ar,bV]
    refine⟨_,_,0,1,rfl,by omega,by omega,?_,?_,?_⟩
    all_goals simp(disch:=omega)only[aM,aa,simprocAttr]
 ·rintro s ⟨T,g,gx,gy,rfl,qE,LK,e2,e7,e8⟩
  refine gI 3 _ (Jf hx kE qE e2 e7 e8) ?_
  rintro s ⟨f,lay,hD,hs⟩
  have p1:(zR.body.post 3).post 3=zR.body.post 7:=rfl
  rw[p1]
  refine gI 4 _ (R2 hD hy kE LK hs) ?_
  rintro s ⟨now,pA,n7,hs⟩
  have p2:(zR.body.post 7).post 4=zR.body.post 12:=rfl
  rw[p2]
  refine gI 2 _ (NW hD.II hD.lb hD.len pA n7 hs) ?_
  intro s hs
  have p3:(zR.body.post 12).post 2=zR.body.post 15:=rfl
  rw[p3]
  exact R1 hD.II hD.lb hD.len pA n7 hs
end Go.Proofs.YtocbgffdpfiidaaGreatDoor
