/-
  A part of the proof of PrintForms: F1, F2, F3, F4, F5, F6, F7, F9, F8, F10, F11, F12, F13, F14, F15, F16, F17, F18, F19.
-/
import Derived.Test.YtbdnnjjcdcacnaaGreatDoorP11
set_option linter.unusedSimpArgs false
set_option linter.unusedVariables false
set_option linter.defProp false
set_option maxHeartbeats 1000000
set_option maxRecDepth 100000
namespace Go.Proofs.YtbdnnjjcdcacnaaGreatDoor
open Go Go.Abs Go.Proofs
abbrev bq:=List UInt8
def lJ(n k:Int):Int:=(if n<0 then -(n+1) else n).tmod k
def Yj(l:List Int)(i k:Int):Int:=if i<0\/(l.length:Int)<=i then 0 else lJ (l.getD i.toNat 0) k
def jb(c:UInt8):Bool:=decide ((97:Int)<=c.toNat)&&decide ((c.toNat:Int)<=122) || decide ((65:Int)<=c.toNat)&&decide ((c.toNat:Int)<=90)
def isDigit(c:UInt8):Bool:=decide ((48:Int)<=c.toNat)&&decide ((c.toNat:Int)<=57)
def kindOf(c:UInt8):Int:=if jb c then 1 else if isDigit c then 2 else 0
def Ao{α:Type}[BEq α](x:α):List α->Nat->Int
 | [],_=>-1
 | a :: l,i=>if a==x then i else Ao x l (i+1)
theorem sF{α:Type}[BEq α][LawfulBEq α](x:α):∀ (l:List α) (i:Nat),decide (0<=Ao x l i)=l.contains x
 | [],i=>by simp[Ao]
 | a :: l,i=>by
  unfold Ao
  by_cases h:a=x
  ·subst h;simp
  ·have h' : (a==x)=false:=by simpa using h
   have h2:(x==a)=false:=by simpa using fun e=>h e.symm
   rw[h',apY,h2,aon]
   exact sF x l (i+1)
theorem j7(n k:Int)(H:ah)(hn:zO n)(hk:0<k):aD A 20 [.int .i64 n,.int .i64 k] H=some (.int .i64 (lJ n k),none):=by
 obtain⟨h1,h2⟩:=hn
 have qN:k≠0:=by omega
 refine aB (fn:=QN) rfl rfl rfl ?_
 unfold QN
 simp(disch:=omega)only[ib,aa,simprocAttr]
 refine jf ?_ ?_<;>intro h
 ·simp(disch:=omega)only[ib,aa,simprocAttr,qN,lJ,if_pos h]
  simp only[show 0-(n+1)=-(n+1) by omega]
 ·simp(disch:=omega)only[ib,aa,simprocAttr,qN,lJ,if_neg h]
theorem ahw(l:List Int)(i k:Int)(H:ah)(hl:∀ n∈l,zO n)(hk:0<k):aD A 34 [.slice (ints l) false,.int .i64 i,.int .i64 k] H=some (.int .i64 (Yj l i k),none):=by
 refine aB (fn:=QS) rfl rfl rfl ?_
 unfold QS
 by_cases h0:i<0
 ·simp(disch:=omega)only[ib,aa,simprocAttr,h0,Yj,true_or,apB]
 by_cases h1:(l.length:Int)<=i
 ·simp(disch:=omega)only[ib,aa,simprocAttr,h0,h1,nJ,aqS,Yj,or_true,apB]
 ·have hi:i.toNat<l.length:=by omega
  have hg:l[i.toNat]?=some (l.getD i.toNat 0):=by rw[ao0,an' hi];rfl
  have hr:zO (l.getD i.toNat 0):=hl _ (by rw[ao0,an' hi];exact aoW hi)
  simp(disch:=omega)only[ib,aa,simprocAttr,h0,h1,nJ,aqS,Yj,false_or,aqv,fX (show 0<=i by omega),ints_at hg,j7 _ _ H hr hk]
theorem Uu(l:List bq)(w:bq)(H:ah)(hl:l.length<=9223372036854775806):aD A 99 [.slice (strs l) false,.str w] H=some (.int .i64 (Ao w l 0),none):=by
 refine aB (fn:=Ro) rfl rfl rfl ?_
 unfold Ro
 simp(disch:=omega)only[ib,aa,simprocAttr]
 refine xi l.length (fun i=>Hd (fun T=>T 0=.slice (strs l) false/\T 1=.str w/\T 7=.int .i64 l.length/\T 8=.int .i64 i/\Ao w l 0=Ao w (l.drop i) i) H H.length 0) ?_ 0 _ (ao9 _) ?_
 ·rintro i s hi hs
  obtain⟨T,rfl,h0,h1,h7,h8,hc⟩:=hs.out
  simp(disch:=omega)only[ib,aa,simprocAttr,h0,h7,h8]
  refine jf ?_ ?_<;>intro h
  ·have lD:i<l.length:=by omega
   simp(disch:=omega)only[ib,aa,simprocAttr,h0,h1,h8,fa (an' lD)]
   refine kL ?_ ?_<;>intro hb
   ·simp(disch:=omega)only[ib,aa,simprocAttr,hc,aoQ lD,Ao,show (l[i]==w)=true by rw[ao3] at hb ⊢;exact hb.symm]
   ·simp(disch:=omega)only[ib,aa,simprocAttr,h0,h1,h7,h8]
    exact⟨lD,by rw[hc,aoQ lD,Ao,show (l[i]==w)=false by rw[apA] at hb ⊢;exact hb.symm];rfl⟩
  ·have:i=l.length:=by omega
   subst this
   simp(disch:=omega)only[ib,aa,simprocAttr,hc,ap9,Ao]
 ·simp(disch:=omega)only[ib,aa,simprocAttr,apc,aoI,aW]
theorem IG(l:List bq)(w:bq)(H:ah)(hl:l.length<=9223372036854775806):aD A 114 [.slice (strs l) false,.str w] H=some (.bool (l.contains w),none):=by
 refine aB (fn:=Gi) rfl rfl rfl ?_
 unfold Gi
 simp(disch:=omega)only[ib,aa,simprocAttr,Uu l w H hl,aqS,sF]
theorem pd(c:UInt8)(H:ah):aD A 113 [.int .u8 c.toNat] H=some (.bool (jb c),none):=by
 refine aB (fn:=Gg) rfl rfl rfl ?_
 unfold Gg jb
 by_cases h1:(97:Int)<=c.toNat<;>by_cases h2:(c.toNat:Int)<=122<;>by_cases h3:(65:Int)<=c.toNat<;>by_cases h4:(c.toNat:Int)<=90 <;>
  simp(disch:=omega)only[ib,aa,simprocAttr,aqS,h1,h2,h3,h4]
theorem uf(c:UInt8)(H:ah):aD A 192 [.int .u8 c.toNat] H=some (.bool (isDigit c),none):=by
 refine aB (fn:=Gy) rfl rfl rfl ?_
 unfold Gy isDigit
 by_cases h1:(48:Int)<=c.toNat<;>by_cases h2:(c.toNat:Int)<=57 <;>
  simp(disch:=omega)only[ib,aa,simprocAttr,aqS,h1,h2]
theorem Fw(c:UInt8)(H:ah):aD A 191 [.int .u8 c.toNat] H=some (.bool (jb c || isDigit c),none):=by
 refine aB (fn:=Gx) rfl rfl rfl ?_
 unfold Gx
 cases h:jb c<;>simp(disch:=omega)only[ib,aa,simprocAttr,pd,uf,h]
theorem tz(c:UInt8)(H:ah):aD A 79 [.int .u8 c.toNat] H=some (.int .i64 (kindOf c),none):=by
 refine aB (fn:=Rc) rfl rfl rfl ?_
 unfold Rc kindOf jb isDigit
 by_cases h1:(97:Int)<=c.toNat<;>by_cases h2:(c.toNat:Int)<=122<;>by_cases h3:(65:Int)<=c.toNat<;>by_cases h4:(c.toNat:Int)<=90<;>by_cases h5:(48:Int)<=c.toNat<;>by_cases h6:(c.toNat:Int)<=57 <;>
  simp(disch:=omega)only[ib,aa,simprocAttr,aqS,h1,h2,h3,h4,h5,h6,apB,aqv,apy]
theorem sG:∀ (p s:bq),p.isPrefixOf s=(decide (p.length<=s.length)&&(s.take p.length==p))
 | [],s=>by simp
 | a :: p,[]=>by simp
 | a :: p,b :: s=>by
  have:=sG p s
  simp only[List.isPrefixOf,an5,apr,aqR,this,Nat.succ_le_succ_iff]
  by_cases h:a=b
  ·subst h;simp
  ·have h' : (a==b)=false:=by simpa using h
   have h2:(b==a)=false:=by simpa using fun e=>h e.symm
   simp[h',h2]
theorem uq(s p:bq)(H:ah):aD A 139 [.str s,.str p] H=some (.bool (p.isPrefixOf s),none):=by
 refine aB (fn:=Gv) rfl rfl rfl ?_
 unfold Gv
 rw[sG]
 by_cases h:(p.length:Int)<=s.length
 ·have hh:p.length<=s.length:=by omega
  simp(disch:=omega)only[ib,aa,simprocAttr,h,Zv hh,hh]
 ·simp(disch:=omega)only[ib,aa,simprocAttr,h,show ¬ p.length<=s.length by omega]
theorem wA(s p:bq)(H:ah):aD A 126 [.str s,.str p] H=some (.bool (p.isPrefixOf s),none):=by
 refine aB (fn:=Gs) rfl rfl rfl ?_
 unfold Gs
 simp(disch:=omega)only[ib,aa,simprocAttr,uq]
def lT:bq:=[40,41,123,125,91,93,44,58,46,61,43,45,42,47,37,60]
def lP(s:bq):Bool:=s==[61,61] || s==[45,62] || (decide (s.length=1)&&lT.contains (s.getD 0 0))
theorem ac3(a b:UInt8):(((a.toNat:Int))==(b.toNat:Int))=(a==b):=by
 by_cases h:a=b
 ·subst h;simp
 ·have h' : a.toNat≠b.toNat:=fun e=>h (UInt8.toNat_inj.1 e)
  have h2:(a==b)=false:=by simpa using h
  rw[h2]
  simp;omega
theorem Kh(s:bq)(H:ah):aD A 116 [.str s] H=some (.bool (lP s),none):=by
 refine aB (fn:=Gj) rfl rfl rfl ?_
 unfold Gj lP
 cases e1:(s==[61,61]) with
 | true=>simp(disch:=omega)only[ib,aa,simprocAttr,e1]
 | false =>
 cases e2:(s==[45,62]) with
 | true=>simp(disch:=omega)only[ib,aa,simprocAttr,e1,e2]
 | false =>
 simp(disch:=omega)only[ib,aa,simprocAttr,e1,e2]
 refine kL ?_ ?_<;>intro hl
 ·have zS:s.length≠1:=fun e=>by rw[e] at hl;simp at hl
  simp(disch:=omega)only[ib,aa,simprocAttr,zS]
 have zS:s.length=1:=by
  have:(s.length:Int)=1:=by simpa using hl
  omega
 match s,zS with
 | [b],_ =>
 simp(disch:=omega)only[ib,aa,simprocAttr]
 refine xi 16 (fun i=>Hd (fun T=>T 0=.str [b]/\T 3=.str lT/\T 4=.int .i64 i/\lT.contains b=(lT.drop i).contains b) H H.length 0) ?_ 0 _ (ao9 _) ?_
 ·rintro i st hi jN
  obtain⟨T,rfl,h0,h3,h4,hc⟩:=jN.out
  simp(disch:=omega)only[ib,aa,simprocAttr,h0,h3,h4,show lT.length=16 from rfl]
  refine jf ?_ ?_<;>intro h
  ·have lD:i<lT.length:=by simp only[show lT.length=16 from rfl];omega
   simp(disch:=omega)only[ib,aa,simprocAttr,h0,h3,h4,an' lD,ac3]
   refine kL ?_ ?_<;>intro hb
   ·have gm:lT[i]=b:=by simpa using hb
    simp(disch:=omega)only[ib,aa,simprocAttr,hc,aoQ lD,apY,gm,List.getD_cons_zero]
   ·have gm:(b==lT[i])=false:=by
     have:lT[i]≠b:=by simpa using hb
     simpa using fun e=>this e.symm
    simp(disch:=omega)only[ib,aa,simprocAttr,h0,h3,h4]
    exact⟨by omega,by rw[hc,aoQ lD,apY,gm,aon]⟩
  ·have:i=16:=by omega
   subst this
   rw[show (lT.drop 16).contains b=false from rfl] at hc
   simp(disch:=omega)only[ib,aa,simprocAttr,List.getD_cons_zero,hc]
 ·simp(disch:=omega)only[ib,aa,simprocAttr]
  exact rfl
def dJ(k:Int):bq->Nat
 | []=>0
 | c :: r=>if kindOf c=2\/kindOf c=1/\k=1 then 1+dJ k r else 0
theorem zL(k:Int):∀ s:bq,dJ k s<=s.length
 | []=>aoa _
 | c :: r=>by
  have:=zL k r
  simp only[dJ,an5]
  split<;>omega
def og:bq->Nat
 | []=>0
 | b :: r=>if 0<kindOf b then (if 16<1+dJ (kindOf b) r then 0 else 1+dJ (kindOf b) r)
  else if 1<=r.length/\lP ((b :: r).take 2)=true then 2 else if lP [b]=true then 1 else 0
theorem CO(c:UInt8):kindOf c=0\/kindOf c=1\/kindOf c=2:=by
 unfold kindOf
 split
 ·exact .inr (.inl rfl)
 ·split
  ·exact .inr (.inr rfl)
  ·exact .inl rfl
theorem ad6(s:bq)(at' : Nat)(H:ah)(fE:at' < s.length)(hs:s.length<=4611686018427387904) :
  aD A 81 [.str s,.int .i64 at'] H=some (.int .i64 (if og (s.drop at')=0 then -1 else ((at' + og (s.drop at'):Nat):Int)),none):=by
 refine aB (fn:=Re) rfl rfl rfl ?_
 unfold Re
 have hd:=aoQ fE
 generalize hb:s[at']=b at hd
 have jF:s[at']?=some b:=by rw[an' fE,hb]
 simp(disch:=omega)only[ib,aa,simprocAttr,jF,tz]
 refine jf ?_ ?_<;>intro hk
 ·have Ul:og (s.drop at')=if 16<1+dJ (kindOf b) (s.drop (at' + 1)) then 0 else 1+dJ (kindOf b) (s.drop (at' + 1)):=by
   rw[hd];simp only[og,if_pos hk]
  simp(disch:=omega)only[ib,aa,simprocAttr]
  refine bM s.length 0 (fun i=>Hd (fun T=>T 0=.str s/\T 1=.int .i64 at'/\T 5=.int .i64 (kindOf b)/\T 6=.int .i64 i/\at' + 1+dJ (kindOf b) (s.drop (at' + 1))=i+dJ (kindOf b) (s.drop i)) H H.length 0)
   (Hd (fun T=>T 1=.int .i64 at'/\T 6=.int .i64 ((at' + 1+dJ (kindOf b) (s.drop (at' + 1)):Nat):Int)) H H.length 0) (fun _=>False) ?_ ?_ (fun _ h=>h.elim) (at' + 1) _ (by omega) ?_
  ·rintro i st hi jN
   obtain⟨T,rfl,h0,h1,h5,h6,hc⟩:=jN.out
   by_cases h:(i:Int)<s.length
   ·have lD:i<s.length:=by omega
    rw[aoQ lD] at hc
    simp only[dJ] at hc
    have Ak:s[i]?=some s[i]:=an' lD
    generalize s[i]=c at hc Ak
    by_cases k2:kindOf c=2
    ·rw[if_pos (.inl k2)] at hc
     simp(disch:=omega)only[ib,aa,simprocAttr,h0,h1,h5,h6,h,Ak,tz,k2]
     omega
    by_cases k1:kindOf c=1
    ·by_cases kb:kindOf b=1
     ·rw[if_pos (.inr ⟨k1,kb⟩)] at hc
      rw[kb] at h5 hc ⊢
      simp(disch:=omega)only[ib,aa,simprocAttr,h0,h1,h5,h6,h,Ak,tz,k1,kb,Int.reduceBEq]
      omega
     ·rw[if_neg (by simp[k1,kb])] at hc
      simp(disch:=omega)only[ib,aa,simprocAttr,h0,h1,h5,h6,h,Ak,tz,k1,Int.reduceBEq,show (kindOf b==1)=false by simpa using kb]
      omega
    ·have k0:kindOf c=0:=by rcases CO c with h|h|h<;>simp_all
     rw[if_neg (by simp[k0])] at hc
     simp(disch:=omega)only[ib,aa,simprocAttr,h0,h1,h5,h6,h,Ak,tz,k0,Int.reduceBEq]
     omega
   ·have:i=s.length:=by omega
    subst this
    rw[ap9] at hc
    simp only[dJ] at hc
    simp(disch:=omega)only[ib,aa,simprocAttr,h0,h1,h6,h]
    omega
  ·intro st jN
   obtain⟨T,rfl,h1,h6⟩:=jN.out
   have hle:=zL (kindOf b) (s.drop (at' + 1))
   rw[aqq] at hle
   rw[Ul]
   generalize dJ (kindOf b) (s.drop (at' + 1))=w at h6 hle
   simp(disch:=omega)only[ib,aa,simprocAttr,h1,h6]
   refine jf ?_ ?_<;>intro h16
   ·simp(disch:=omega)only[ib,aa,simprocAttr,if_pos (show 16<1+w by omega)]
   ·simp(disch:=omega)only[ib,aa,simprocAttr,if_neg (show ¬ 16<1+w by omega),h6,if_neg (show ¬ 1+w=0 by omega)]
    omega
  ·simp(disch:=omega)only[ib,aa,simprocAttr]
 ·have Ul:og (s.drop at')=if 1<=(s.drop (at' + 1)).length/\lP ((b :: s.drop (at' + 1)).take 2)=true then 2 else if lP [b]=true then 1 else 0:=by
   rw[hd];simp only[og,if_neg hk]
  have e1:List.drop at' (List.take (at' + 1) s)=[b]:=by
   rw[List.drop_take,hd];simp
  have e2:List.drop at' (List.take (at' + 2) s)=(b :: s.drop (at' + 1)).take 2:=by
   rw[List.drop_take,hd];simp
  generalize (b :: s.drop (at' + 1)).take 2=two at e2 Ul
  have e3:(s.drop (at' + 1)).length=s.length-(at' + 1):=aqq ..
  rw[Ul,e3]
  by_cases h2:(at' : Int)+1<s.length
  ·cases Te:lP two with
   | true =>
    simp(disch:=omega)only[ib,aa,simprocAttr,h2,e2,Kh,Te,if_pos (show 1<=s.length-(at' + 1)/\True from ⟨by omega,trivial⟩)]
    rw[if_pos (show 1<=s.length-(at' + 1) by omega)]
    rw[if_neg (by omega)];rfl
   | false =>
    cases An:lP [b] <;>
    simp(disch:=omega)only[ib,aa,simprocAttr,h2,e2,e1,Kh,Te,An,apy,aqJ,aqv,apB]<;>rfl
  ·have hn:¬ 1<=s.length-(at' + 1):=by omega
   cases An:lP [b] <;>
   simp(disch:=omega)only[ib,aa,simprocAttr,h2,e1,Kh,An,hn,false_and,apy,aqv,apB]<;>rfl
theorem JD(H:ah):aD A 80 [] H=some (.slice (strs dZ) true,none):=by
 refine aB (fn:=Rd) rfl rfl rfl ?_
 unfold Rd
 simp only[Ze,HM,R9,HA,Zd,HL,By]
 refine Y6 (.slice (strs dZ) true) (by kernel_rfl) rfl ?_
 simp(disch:=omega)only[ib,aa,simprocAttr]
def isWord(s:bq):Bool:=match s with
 | []=>false
 | b :: _=>decide (kindOf b=1)&&!dZ.contains s&&decide (og s=s.length)
theorem oA(s:bq)(H:ah)(hs:s.length<=4611686018427387904):aD A 48 [.str s] H=some (.bool (isWord s),none):=by
 refine aB (fn:=Q1) rfl rfl rfl ?_
 unfold Q1
 cases rQ:s with
 | nil=>simp(disch:=omega)only[ib,aa,simprocAttr,isWord]
 | cons b r =>
 rw[<- rQ]
 have hl:((s.length:Int)==0)=false:=by rw[rQ];simp;omega
 have hb:s[0]?=some b:=by rw[rQ];rfl
 by_cases hk:kindOf b=1
 ·simp(disch:=omega)only[ib,aa,simprocAttr,hl,hb,tz,hk,bne_self_eq_false,JD]
  have h27:dZ.length=27:=rfl
  refine bM 27 0 (fun i=>Hd (fun T=>T 0=.str s/\T 3=.slice (strs dZ) true/\T 4=.int .i64 i/\dZ.contains s=(dZ.drop i).contains s) H H.length 0)
   (Hd (fun T=>T 0=.str s/\dZ.contains s=false) H H.length 0) (Hd (fun T=>T 2=.bool false/\dZ.contains s=true) H H.length 0) ?_ ?_ ?_ 0 _ (by omega) ?_
  ·rintro i st hi jN
   obtain⟨T,rfl,h0,h3,h4,hc⟩:=jN.out
   simp(disch:=omega)only[ib,aa,simprocAttr,h0,h3,h4,aW,h27]
   refine jf ?_ ?_<;>intro h
   ·have lD:i<dZ.length:=by rw[h27];omega
    simp(disch:=omega)only[ib,aa,simprocAttr,h0,h3,h4,fa (an' lD)]
    refine kL ?_ ?_<;>intro hb
    ·simp(disch:=omega)only[ib,aa,simprocAttr,hc,aoQ lD,apY,show (s==dZ[i])=true by rw[ao3] at hb ⊢;exact hb.symm]
    ·simp(disch:=omega)only[ib,aa,simprocAttr,h0,h3,h4]
     exact⟨by omega,by rw[hc,aoQ lD,apY,show (s==dZ[i])=false by rw[apA] at hb ⊢;exact hb.symm,aon]⟩
   ·have:i=27:=by omega
    subst this
    rw[show dZ.drop 27=[] from rfl] at hc
    simp(disch:=omega)only[ib,aa,simprocAttr,h0,hc,List.contains_nil]
  ·intro st jN
   obtain⟨T,rfl,h0,hc⟩:=jN.out
   have e1:=ad6 s 0 H (by rw[rQ];simp) hs
   rw[apc] at e1
   rw[aoI] at e1
   simp(disch:=omega)only[ib,aa,simprocAttr,h0,e1]
   have hw:isWord s=decide (og s=s.length):=by rw[rQ] at hc ⊢;simp only[isWord,hk,hc,apC,aoj,aou]
   rw[hw]
   have dn:s.length≠0:=by rw[rQ];simp
   by_cases Mj:og s=0
   ·rw[if_pos Mj,Mj];exact Kv (by omega)
   ·rw[if_neg Mj];exact Kv (by omega)
  ·intro st jN
   obtain⟨T,rfl,h2,hc⟩:=jN.out
   have hw:isWord s=false:=by rw[rQ] at hc ⊢;simp only[isWord,hc,aom,Bool.and_false,aoq]
   simp(disch:=omega)only[ib,aa,simprocAttr,h2,hw]
  ·simp(disch:=omega)only[ib,aa,simprocAttr,apc,aoI]
 ·have hw:isWord s=false:=by rw[rQ];simp only[isWord,hk,aob,aoq]
  simp(disch:=omega)only[ib,aa,simprocAttr,hl,hb,tz,show (kindOf b != 1)=true by simpa using hk,hw]
theorem fT{n k:Int}(hk:0<k):0<=lJ n k/\lJ n k<k:=by
 unfold lJ
 have h0:(0:Int)<=(if n<0 then -(n+1) else n):=by split<;>omega
 rw[Int.tmod_eq_emod_of_nonneg h0]
 exact⟨Int.emod_nonneg _ (by omega),Int.emod_lt_of_pos _ hk⟩
theorem AD{l:List Int}{i k:Int}(hk:0<k):0<=Yj l i k/\Yj l i k<k:=by
 unfold Yj
 split
 ·exact⟨Int.le_refl _,hk⟩
 ·exact fT hk
inductive Wd where
 | mk (name:bq) (kids:List Wd)
inductive Tm where
 | mk (kind n:Int) (name field wn:bq) (wk:List Wd) (kids:List Tm) (names:List bq)
def Wd.name:Wd->bq|.mk n _=>n
def Wd.kids:Wd->List Wd|.mk _ k=>k
def Tm.kind:Tm->Int|.mk k _ _ _ _ _ _ _=>k
def Tm.n:Tm->Int|.mk _ n _ _ _ _ _ _=>n
def Tm.name:Tm->bq|.mk _ _ a _ _ _ _ _=>a
def Tm.field:Tm->bq|.mk _ _ _ f _ _ _ _=>f
def Tm.wn:Tm->bq|.mk _ _ _ _ w _ _ _=>w
def Tm.wk:Tm->List Wd|.mk _ _ _ _ _ w _ _=>w
def Tm.kids:Tm->List Tm|.mk _ _ _ _ _ _ k _=>k
def Tm.names:Tm->List bq|.mk _ _ _ _ _ _ _ n=>n
mutual
def gz:Wd->List AV
 | .mk n ks=>[.str n,.slice (az ks) false]
def az:List Wd->List (List AV)
 | []=>[]
 | w :: r=>gz w :: az r
end
mutual
def cE:Tm->List AV
 | .mk k n a f wn wk ks ns=>[.int .i64 k,.int .i64 n,.str a,.str f,.str wn,.slice (az wk) false,.slice (au ks) false,.slice (strs ns) false]
def au:List Tm->List (List AV)
 | []=>[]
 | t :: r=>cE t :: au r
end
theorem iB(w:Wd):gz w=[.str w.name,.slice (az w.kids) false]:=by cases w;simp only[gz,Wd.name,Wd.kids]
theorem an(t:Tm):cE t=[.int .i64 t.kind,.int .i64 t.n,.str t.name,.str t.field,.str t.wn,.slice (az t.wk) false,.slice (au t.kids) false,.slice (strs t.names) false]:=by
 cases t;simp only[cE,Tm.kind,Tm.n,Tm.name,Tm.field,Tm.wn,Tm.wk,Tm.kids,Tm.names]
theorem mT:∀ l:List Wd,az l=l.map gz
 | []=>by simp[az]
 | t :: r=>by simp[az,mT r]
theorem gS:∀ l:List Tm,au l=l.map cE
 | []=>by simp[au]
 | t :: r=>by simp[au,gS r]
theorem dj{l:List Wd} : (az l).length=l.length:=by rw[mT];simp
theorem bB{l:List Tm} : (au l).length=l.length:=by rw[gS];simp
theorem Zc{l:List Wd}{i:Nat}{e:Wd}(h:l[i]?=some e):(az l)[i]?=some (gz e):=by rw[mT];simp[h]
theorem sM{l:List Tm}{i:Nat}{e:Tm}(h:l[i]?=some e):(au l)[i]?=some (cE e):=by rw[gS];simp[h]
def wi:Nat->Wd->Prop
 | 0,w=>w.name.length<=20/\w.kids=[]
 | h+1,w=>w.name.length<=20/\w.kids.length<=1/\∀ k∈w.kids,wi h k
inductive Lp:Nat->Tm->Prop where
 | mk (h:Nat) (k n:Int) (a f wn:bq) (wk:List Wd) (ks:List Tm) (ns:List bq) (h1:-2199023255552<=n/\n<=2199023255552) (hk:-100<=k/\k<=100) (h2:a.length<=20/\f.length<=20)
   (h3:wi 3 (.mk wn wk)) (h4:ks.length<=3) (h5:∀ t∈ks,Lp h t) (h6:ns.length<=8/\∀ s∈ns,s.length<=20):Lp (h+1) (.mk k n a f wn wk ks ns)
inductive oP (m:Nat):Nat->Tm->Prop where
 | mk (h:Nat) (k n:Int) (a f wn:bq) (wk:List Wd) (ks:List Tm) (ns:List bq) (h1:-2199023255552<=n/\n<=2199023255552) (hk:-100<=k/\k<=100) (h2:a.length<=20/\f.length<=20)
   (h3:wi 3 (.mk wn wk)) (h4:ks.length<=3) (h5:∀ t∈ks,oP m h t) (h6:ns.length<=m/\∀ s∈ns,s.length<=20):oP m (h+1) (.mk k n a f wn wk ks ns)
structure zW (m h:Nat) (t:Tm):Prop where
 n:-2199023255552<=t.n/\t.n<=2199023255552
 k:-100<=t.kind/\t.kind<=100
 a:t.name.length<=20
 f:t.field.length<=20
 w:wi 3 (.mk t.wn t.wk)
 kl:t.kids.length<=3
 kb:∀ u∈t.kids,oP m h u
 nl:t.names.length<=m
 nb:∀ s∈t.names,s.length<=20
theorem oP.out{m h:Nat}{t:Tm}(hb:oP m (h+1) t):zW m h t:=by
 cases hb with
 | mk h k n a f wn wk ks ns h1 hk h2 h3 h4 h5 h6=>exact⟨h1,hk,h2.1,h2.2,h3,h4,h5,h6.1,h6.2⟩
theorem zW.mk'{m h:Nat}{t:Tm}(f:zW m h t):oP m (h+1) t:=by
 obtain⟨k,n,a,fd,wn,wk,ks,ns⟩:=t
 exact .mk h k n a fd wn wk ks ns f.n f.k ⟨f.a,f.f⟩ f.w f.kl f.kb ⟨f.nl,f.nb⟩
theorem oP.le{m:Nat}(hm:m<=8):∀ (h h' : Nat) (t:Tm),h<=h'->oP m h t->Lp h' t
 | 0,_,t,_,hb=>by cases hb
 | h+1,0,t,hh,_=>by omega
 | h+1,h' + 1,t,hh,hb=>by
  cases hb with
  | mk h k n a f wn wk ks ns h1 hk h2 h3 h4 h5 h6=>exact .mk h' k n a f wn wk ks ns h1 hk h2 h3 h4 (fun u hu=>oP.le hm h h' u (by omega) (h5 u hu)) ⟨by omega,h6.2⟩
theorem oP.up{m m' : Nat}(hm:m<=m'):∀ (h h' : Nat) (t:Tm),h<=h'->oP m h t->oP m' h' t
 | 0,_,t,_,hb=>by cases hb
 | h+1,0,t,hh,_=>by omega
 | h+1,h' + 1,t,hh,hb=>by
  cases hb with
  | mk h k n a f wn wk ks ns h1 hk h2 h3 h4 h5 h6=>exact .mk h' k n a f wn wk ks ns h1 hk h2 h3 h4 (fun u hu=>oP.up hm h h' u (by omega) (h5 u hu)) ⟨by omega,h6.2⟩
theorem bE{f:FuncId}{fn:aJ}(ho:A.ov f=none)(hf:A.fns f=some fn){args:List AV}{H:ah}{r:AV × Option gJ}(hn:Nat.beq args.length fn.np=true)(hm:fn.muts.elem 777777=true)
  (h:W A fn.body { T:=gu args,H,lo:=H.length,gen:=0 } (x8 H.length fn.results fun x=>(mC x.1,x.2)=r)):aD A f args H=some r:=by
 obtain⟨r',h1,h2⟩:=mR (P:=fun x=>x=r) ho hf hn hm h
 rw[h1,h2]
theorem cy{cs:List AV} : mC (.agg cs)=.agg (cs.map n2):=rfl
theorem abM{cs:List AV} : mC (.tuple cs)=.tuple (cs.map n3):=rfl
theorem abJ{k:IntKind}{n:Int} : mC (.int k n)=.int k n:=rfl
theorem JX{l:bq} : mC (.str l)=.str l:=rfl
theorem abK{e:List (List AV)} : mC (.slice e false)=.slice (e.map fun r=>r.map n1) false:=rfl
theorem abL{e:List (List AV)} : mC (.slice e true)=.slice e true:=rfl
theorem abF{cs:List AV} : n3 (.agg cs)=.agg (cs.map n2):=rfl
theorem abG{k:IntKind}{n:Int} : n3 (.int k n)=.int k n:=rfl
theorem cV{k:IntKind}{n:Int} : n2 (.int k n)=.int k n:=rfl
theorem cw{l:bq} : n2 (.str l)=.str l:=rfl
theorem cz:n2 .aj=.slice [] false:=rfl
theorem ca{e:List (List AV)} : n2 (.slice e false)=.slice (e.map fun r=>r.map n1) false:=rfl
theorem cW{e:List (List AV)} : n2 (.slice e true)=.slice e true:=rfl
theorem cX{k:IntKind}{n:Int} : n1 (.int k n)=.int k n:=rfl
theorem cU{l:bq} : n1 (.str l)=.str l:=rfl
theorem dY{e:List (List AV)}{o:Bool} : n1 (.slice e o)=.slice e o:=rfl
theorem ajb{w:Wd} : (gz w).map n1=gz w:=by rw[iB];rfl
theorem aja{t:Tm} : (cE t).map n1=cE t:=by rw[an];rfl
theorem gH{l:List Wd} : ((az l).map fun r=>r.map n1)=az l:=by
 rw[mT,apE]
 exact aoD fun w _=>ajb
theorem gM{l:List Tm} : ((au l).map fun r=>r.map n1)=au l:=by
 rw[gS,apE]
 exact aoD fun w _=>aja
theorem gb{l:List bq} : ((strs l).map fun r=>r.map n1)=strs l:=by
 rw[strs,apE]
 exact aoD fun w _=>rfl
structure Cc where
 mm:Nat
 l:List Int
def TE(c:Cc)(p:Int):List AV:=[.slice (ints c.l) false,.int .i64 p]
def cP(c:Cc)(p:Int)(H:ah):ah:=H.set c.mm (.box 61 (TE c p))
structure CH (c:Cc) (p:Int) (H:ah):Prop where
 h0:H[c.mm]?=some (.box 61 (TE c p))
 hl:∀ n∈c.l,zO n
 len:H.length=c.mm+1
theorem CH.lt{c:Cc}{p:Int}{H:ah}(h:CH c p H):c.mm<H.length:=(an9.1 h.h0).1
theorem CH.set{c:Cc}{p p' : Int}{H:ah}(h:CH c p H):CH c p' (cP c p' H):=⟨by unfold cP;rw[List.getElem?_set_self h.lt],h.hl,by unfold cP;rw[List.length_set];exact h.len⟩
theorem bd{c:Cc}{p p' : Int}{H:ah} : cP c p (cP c p' H)=cP c p H:=by unfold cP;rw[List.set_set]
theorem a7{c:Cc}{p:Int}{H:ah} : (cP c p H).length=H.length:=by unfold cP;rw[List.length_set]
theorem bp{c:Cc}{p:Int}{H:ah} : (cP c p H).take H.length=cP c p H:=aoJ (apP a7)
theorem BD{H:ah}{i:Nat}{o:bZ} : (H.set i o).take H.length=H.set i o:=aoJ (apP List.length_set)
theorem Sv{H:ah}{i:Nat}{o:bZ} : (H.set i o).length=H.length:=List.length_set
theorem CH.open{c:Cc}{p:Int}{H:ah}(h:CH c p H)(cs:List AV):pg H.length c.mm (H.set c.mm (.box 61 cs))=true:=by
 have h1:((H.set c.mm (.box 61 cs)).take H.length).drop c.mm=[.box 61 cs]:=by
  rw[BD]
  refine ap3 fun j=>?_
  rw[aoU,api]
  cases j with
  | zero=>simp[h.lt]
  | succ j =>
   rw[if_neg (by omega),ape (by have:=h.len;omega)]
   simp
 unfold pg
 rw[h1]
 cases Nat.beq c.mm H.length<;>rfl
theorem CH.iz{c:Cc}{p p' : Int}{H:ah}(h:CH c p H):pg H.length c.mm (cP c p' H)=true:=h.open _
theorem kQ{c:Cc}{p:Int}{H:ah}(h:CH c p H)(n:Int)(hn:0<n):∃ x p',0<=x/\x<n/\aD A 14 [.ref c.mm 0,.int .i64 n] H=some (.int .i64 x,some ⟨cP c p' H,c.mm⟩):=by
 refine⟨Yj c.l (IntKind.i64.wrap (IntKind.i64.wrap (p+1)-1)) n,IntKind.i64.wrap (p+1),(AD hn).1,(AD hn).2,?_⟩
 refine bE (fn:=Qq) rfl rfl rfl rfl ?_
 unfold Qq
 have h0:=h.h0
 have bf:=h.lt
 have fE:=fun i H=>ahw c.l i n H h.hl hn
 have dB:=h.open
 have jN:∀ x:bZ,(H.set c.mm x)[c.mm]?=some x:=fun x=>List.getElem?_set_self bf
 rw[TE] at h0
 simp(disch:=omega)only[aN,aa,simprocAttr,h0,jN,dB,br,List.set_set,Sv,BD,fE,cP,TE,abJ]
def JT:List bq:=[[97],[98],[102],[80,111,105,110,116],[83,104,97,112,101],[120,49],[99,111,114,101],[117]]
theorem lt8{x:Int}(h0:0<=x)(h1:x<8):x=0\/x=1\/x=2\/x=3\/x=4\/x=5\/x=6\/x=7:=by omega
theorem mo{c:Cc}{p:Int}{H:ah}(h:CH c p H):∃ s p',s∈JT/\aD A 13 [.ref c.mm 0] H=some (.str s,some ⟨cP c p' H,c.mm⟩):=by
 obtain⟨x,p',h0,h1,fl⟩:=kQ h 8 (by omega)
 have bf:=h.lt
 have dB:=h.iz (p':=p')
 refine⟨(JT[x.toNat]?).getD [],p',?_,?_⟩
 ·rcases lt8 h0 h1 with rfl|rfl|rfl|rfl|rfl|rfl|rfl|rfl<;>decide
 ·refine bE (fn:=Qi) rfl rfl rfl rfl ?_
  unfold Qi
  rcases lt8 h0 h1 with rfl|rfl|rfl|rfl|rfl|rfl|rfl|rfl
  all_goals
   simp(disch:=omega)only[aN,aa,simprocAttr,fl,dB,br,a7,bp,JX]
   rfl
theorem gU:∀ s∈JT,s.length<=5:=by decide
theorem tB{c:Cc}{p:Int}{H:ah}(h:CH c p H):∃ s p',s.length<=20/\aD A 35 [.ref c.mm 0] H=some (.str s,some ⟨cP c p' H,c.mm⟩):=by
 obtain⟨x,p1,h0,h1,fl⟩:=kQ h 4 (by omega)
 obtain⟨s,p2,hs,qP⟩:=mo (h.set (p':=p1))
 rw[bd] at qP
 have uD:=gU s hs
 have dB:=h.iz (p':=p2)
 have bf:=h.lt
 by_cases hx:x=1
 ·subst hx
  refine⟨[107,46]++s,p2,by simp;omega,bE (fn:=Jv) rfl rfl rfl rfl ?_⟩
  unfold Jv
  simp(disch:=omega)only[aN,aa,simprocAttr,fl,qP,dB,br,a7,bp,JX]
 ·refine⟨s,p2,by omega,bE (fn:=Jv) rfl rfl rfl rfl ?_⟩
  unfold Jv
  simp(disch:=omega)only[aN,aa,simprocAttr,fl,qP,dB,br,a7,bp,JX]
theorem mM{d:Nat}{s:bq}(h:s.length<=20):wi d (.mk s []):=by
 cases d with
 | zero=>exact⟨h,rfl⟩
 | succ d=>exact⟨h,by simp[Wd.kids],by simp[Wd.kids]⟩
theorem X2{d:Nat}{w:Wd}(h:wi d w):wi (d+1) (.mk [76,105,115,116] [w]):=⟨by simp[Wd.name],by simp[Wd.kids],by simp[Wd.kids];exact h⟩
theorem GB{c:Cc} : ∀ (d:Nat) (p:Int) (H:ah),d<=100->CH c p H->∃ w p',wi d w/\aD A 17 [.ref c.mm 0,.int .i64 d] H=some (.agg (gz w),some ⟨cP c p' H,c.mm⟩):=by
 intro d
 induction d with
 | zero =>
  intro p H hd h
  obtain⟨x,p1,h0,h1,fl⟩:=kQ h 5 (by omega)
  obtain⟨s,p2,hs,qO⟩:=tB (h.set (p':=p1))
  rw[bd] at qO
  have dB:=h.iz (p':=p1)
  have aaP:=h.iz (p':=p2)
  have bf:=h.lt
  by_cases uE:x=1
  ·refine⟨.mk [66,111,111,108] [],p1,mM (by decide),bE (fn:=rb) rfl rfl rfl rfl ?_⟩
   unfold rb
   simp(disch:=omega)only[aN,aa,simprocAttr,fl,dB,br,a7,bp,cy,aoh,aol,cw,cz,gz,az]
  by_cases hx2:x=2
  ·refine⟨.mk s [],p2,mM hs,bE (fn:=rb) rfl rfl rfl rfl ?_⟩
   unfold rb
   simp(disch:=omega)only[aN,aa,simprocAttr,fl,qO,aaP,br,a7,bp,cy,aoh,aol,cw,cz,gz,az]
  by_cases hx3:x=3
  all_goals
   refine⟨.mk [73,110,116] [],p1,mM (by decide),bE (fn:=rb) rfl rfl rfl rfl ?_⟩
   unfold rb
   simp(disch:=omega)only[aN,aa,simprocAttr,fl,dB,br,a7,bp,cy,aoh,aol,cw,cz,gz,az]
 | succ d ih =>
  intro p H hd h
  obtain⟨x,p1,h0,h1,fl⟩:=kQ h 5 (by omega)
  obtain⟨s,p2,hs,qO⟩:=tB (h.set (p':=p1))
  rw[bd] at qO
  obtain⟨w,p3,hw,Yz⟩:=ih p1 (cP c p1 H) (by omega) h.set
  rw[bd,iB] at Yz
  have dB:=h.iz (p':=p1)
  have aaP:=h.iz (p':=p2)
  have aiB:=h.iz (p':=p3)
  have bf:=h.lt
  have wC:(d:Int)+1-1=d:=by omega
  by_cases uE:x=1
  ·refine⟨.mk [66,111,111,108] [],p1,mM (by decide),bE (fn:=rb) rfl rfl rfl rfl ?_⟩
   unfold rb
   simp(disch:=omega)only[aN,aa,simprocAttr,fl,dB,br,a7,bp,cy,aoh,aol,cw,cz,gz,az]
  by_cases hx2:x=2
  ·refine⟨.mk s [],p2,mM hs,bE (fn:=rb) rfl rfl rfl rfl ?_⟩
   unfold rb
   simp(disch:=omega)only[aN,aa,simprocAttr,fl,qO,aaP,br,a7,bp,cy,aoh,aol,cw,cz,gz,az]
  by_cases hx3:x=3
  ·refine⟨.mk [76,105,115,116] [w],p3,X2 hw,bE (fn:=rb) rfl rfl rfl rfl ?_⟩
   unfold rb
   simp(disch:=omega)only[aN,aa,simprocAttr,fl,wC,Yz,aiB,br,a7,bp,cy,aoh,aol,cw,cz,ca,cW,cU,dY,gz,az,iB]
  ·refine⟨.mk [73,110,116] [],p1,mM (by decide),bE (fn:=rb) rfl rfl rfl rfl ?_⟩
   unfold rb
   simp(disch:=omega)only[aN,aa,simprocAttr,fl,dB,br,a7,bp,cy,aoh,aol,cw,cz,gz,az]
theorem u6{t:Tm} : (cE t).length=8:=by rw[an];rfl
theorem ajr{t:Tm} : RI (cE t)=true:=by
 rw[an];simp only[Sa,R',Y1,Y3,Y2,apb]
theorem SI{l:List Tm} : we 8 (au l):=by
 rw[gS]
 exact⟨fun r hr=>by simp only[aoy] at hr;obtain⟨n,_,rfl⟩:=hr;exact u6,tF fun r hr=>by simp only[aoy] at hr;obtain⟨n,_,rfl⟩:=hr;exact ajr⟩
theorem N3{l m:List Tm}{o:Bool}(h:l.length+m.length<=100000000):aC false 8 136 (.slice (au l) true) (.slice (au m) o)=some (.slice (au (l++m)) true):=by
 rw[vo SI SI (by rw[bB,bB];omega) (by rw[bB,bB];omega)];simp[gS]
theorem N2{l:List Tm}{t:Tm}{o:Bool}(h:l.length<=10000000):aC false 8 136 (.slice (au l) true) (.slice [[.int .i64 t.kind,.int .i64 t.n,.str t.name,.str t.field,.str t.wn,.slice (az t.wk) false,.slice (au t.kids) false,.slice (strs t.names) false]] o)=some (.slice (au (l++[t])) true):=by
 have:=N3 (l:=l) (m:=[t]) (o:=o) (by simp;omega)
 rw[show au [t]=[cE t] by simp[au],an] at this
 exact this
theorem Ll:au []=[]:=by simp[au]
def xI(c:Cc)(d:Nat):Prop:=∀ (p:Int) (H:ah),CH c p H->∃ t p',oP 4 (d+1) t/\aD A 18 [.ref c.mm 0,.int .i64 d] H=some (.agg (cE t),some ⟨cP c p' H,c.mm⟩)
theorem Dt{c:Cc}{d:Nat}(hS:xI c d)(ga:Int)(h0:0<=ga/\ga<=1000)(p:Int)(H:ah)(h:CH c p H) :
  ∃ l p',(l.length:Int)<=ga/\(∀ t∈l,oP 4 (d+1) t)/\aD A 36 [.ref c.mm 0,.int .i64 d,.int .i64 ga] H=some (.slice (au l) false,some ⟨cP c p' H,c.mm⟩):=by
 have key:∃ r,aD A 36 [.ref c.mm 0,.int .i64 d,.int .i64 ga] H=some r/\∃ l p',(l.length:Int)<=ga/\(∀ t∈l,oP 4 (d+1) t)/\r=(.slice (au l) false,some ⟨cP c p' H,c.mm⟩):=by
  obtain⟨x,p1,yK,uE,fl⟩:=kQ h (ga+1) (by omega)
  have bf:=h.lt
  refine mR (fn:=QT) rfl rfl rfl rfl ?_
  unfold QT
  simp(disch:=omega)only[aN,aa,simprocAttr,fl]
  refine bM x.toNat 0 (fun i s=>∃ T p1 acc,s=⟨T,cP c p1 H,c.mm,0⟩/\T 0=.ref c.mm 0/\T 1=.int .i64 d/\T 7=.slice (au acc) true/\T 8=.int .i64 x/\T 9=.int .i64 i/\acc.length=i/\∀ t∈acc,oP 4 (d+1) t)
   (fun s=>∃ T p1 acc,s=⟨T,cP c p1 H,c.mm,0⟩/\T 7=.slice (au acc) true/\(acc.length:Int)<=ga/\∀ t∈acc,oP 4 (d+1) t) (fun _=>False) ?_ ?_ (fun _ h=>h.elim) 0 _ (by omega) ?_
  ·rintro i s hi ⟨T,p1,acc,rfl,e0,e1,e7,e8,e9,hl,hb⟩
   by_cases hc:(i:Int)<x
   ·obtain⟨t,p2,ht,qh⟩:=hS p1 (cP c p1 H) h.set
    rw[bd,an] at qh
    simp(disch:=omega)only[aP,aa,simprocAttr,e0,e1,e7,e8,e9,qh,N2]
    exact⟨by omega,_,p2,acc++[t],rfl,by simp(disch:=omega)only[aN,aa,simprocAttr,e0,e1,e7,e8,e9],by simp(disch:=omega)only[aN,aa,simprocAttr,e0,e1,e7,e8,e9],by simp(disch:=omega)only[aN,aa,simprocAttr],by simp(disch:=omega)only[aN,aa,simprocAttr,e8],by simp(disch:=omega)only[aN,aa,simprocAttr],by simp[hl],fun u hu=>by
     rcases aog.1 hu with hu|hu
     ·exact hb u hu
     ·rw[aos.1 hu];exact ht⟩
   ·simp(disch:=omega)only[aP,aa,simprocAttr,e0,e1,e7,e8,e9]
    exact⟨_,p1,acc,rfl,e7,by omega,hb⟩
  ·rintro s ⟨T,p1,acc,rfl,e7,hl,hb⟩
   have dB:=h.iz (p':=p1)
   simp(disch:=omega)only[aN,aa,simprocAttr,e7,dB,a7,bp,abK,gM]
   exact⟨acc,p1,hl,hb,rfl,rfl⟩
  ·exact⟨_,p1,[],rfl,by simp(disch:=omega)only[aN,aa,simprocAttr,Ll];simp⟩
 obtain⟨r,h1,l,p',h2,h3,rfl⟩:=key
 exact⟨l,p',h2,h3,h1⟩
theorem jX{h:Nat} : wi h (.mk [] []):=mM (by decide)
theorem qa{a b:Int}(h:0<=a):a.tdiv b=a / b:=Int.tdiv_eq_ediv_of_nonneg h
theorem gp{a b:Int}(h:0<=a):a.tmod b=a % b:=Int.tmod_eq_emod_of_nonneg h
theorem iZ{h:Nat}{k n:Int}{a:bq}(h1:-2199023255552<=n/\n<=2199023255552)(hk:0<=k/\k<=100)(h2:a.length<=20):oP 4 (h+1) (.mk k n a [] [] [] [] []) :=
 .mk h k n a [] [] [] [] [] h1 (by omega) ⟨h2,by decide⟩ jX (by decide) (by simp) ⟨by decide,by simp⟩
theorem lt4{x:Int}(h0:0<=x)(h1:x<4):x=0\/x=1\/x=2\/x=3:=by omega
theorem lt2{x:Int}(h0:0<=x)(h1:x<2):x=0\/x=1:=by omega
theorem agA{c:Cc} : xI c 0:=by
 intro p H h
 obtain⟨x,p1,yK,uE,fl⟩:=kQ h 24 (by omega)
 have hm:0<=x % 5/\x % 5<5:=by omega
 have bf:=h.lt
 by_cases c0:x % 5=0
 ·obtain⟨y,p2,y0,y1,gR⟩:=kQ (h.set (p':=p1)) 30 (by omega)
  rw[bd] at gR
  have dB:=h.iz (p':=p2)
  refine⟨.mk 0 (y-9) [] [] [] [] [] [],p2,iZ (by omega) (by omega) (by decide),bE (fn:=dK) rfl rfl rfl rfl ?_⟩
  unfold dK
  simp(disch:=omega)only[aP,aa,simprocAttr,fl,gR,dB,c0,gp,br,a7,bp,cy,aoh,aol,cV,cw,cz,ca,cW,cX,cU,dY,gM,gH,gb,an,au,az,strs,Tm.kind,Tm.n,Tm.name,Tm.field,Tm.wn,Tm.wk,Tm.kids,Tm.names]
 by_cases c1:x % 5=1
 ·obtain⟨y,p2,y0,y1,gR⟩:=kQ (h.set (p':=p1)) 4 (by omega)
  rw[bd] at gR
  have dB:=h.iz (p':=p2)
  rcases lt4 y0 y1 with rfl|rfl|rfl|rfl
  ·refine⟨.mk 0 0 [] [] [] [] [] [],p2,iZ (by omega) (by omega) (by decide),bE (fn:=dK) rfl rfl rfl rfl ?_⟩
   unfold dK
   simp(disch:=omega)only[aP,aa,simprocAttr,fl,gR,dB,c1,gp,br,a7,bp,cy,aoh,aol,cV,cw,cz,ca,cW,cX,cU,dY,gM,gH,gb,an,au,az,strs,Tm.kind,Tm.n,Tm.name,Tm.field,Tm.wn,Tm.wk,Tm.kids,Tm.names]
  ·refine⟨.mk 0 1099511627776 [] [] [] [] [] [],p2,iZ (by omega) (by omega) (by decide),bE (fn:=dK) rfl rfl rfl rfl ?_⟩
   unfold dK
   simp(disch:=omega)only[aP,aa,simprocAttr,fl,gR,dB,c1,gp,br,a7,bp,cy,aoh,aol,cV,cw,cz,ca,cW,cX,cU,dY,gM,gH,gb,an,au,az,strs,Tm.kind,Tm.n,Tm.name,Tm.field,Tm.wn,Tm.wk,Tm.kids,Tm.names]
  ·refine⟨.mk 0 (-1099511627776) [] [] [] [] [] [],p2,iZ (by omega) (by omega) (by decide),bE (fn:=dK) rfl rfl rfl rfl ?_⟩
   unfold dK
   simp(disch:=omega)only[aP,aa,simprocAttr,fl,gR,dB,c1,gp,br,a7,bp,cy,aoh,aol,cV,cw,cz,ca,cW,cX,cU,dY,gM,gH,gb,an,au,az,strs,Tm.kind,Tm.n,Tm.name,Tm.field,Tm.wn,Tm.wk,Tm.kids,Tm.names]
  ·refine⟨.mk 0 10 [] [] [] [] [] [],p2,iZ (by omega) (by omega) (by decide),bE (fn:=dK) rfl rfl rfl rfl ?_⟩
   unfold dK
   simp(disch:=omega)only[aP,aa,simprocAttr,fl,gR,dB,c1,gp,br,a7,bp,cy,aoh,aol,cV,cw,cz,ca,cW,cX,cU,dY,gM,gH,gb,an,au,az,strs,Tm.kind,Tm.n,Tm.name,Tm.field,Tm.wn,Tm.wk,Tm.kids,Tm.names]
 by_cases c2:x % 5=2
 ·obtain⟨y,p2,y0,y1,gR⟩:=kQ (h.set (p':=p1)) 2 (by omega)
  rw[bd] at gR
  have dB:=h.iz (p':=p2)
  refine⟨.mk 1 y [] [] [] [] [] [],p2,iZ (by omega) (by omega) (by decide),bE (fn:=dK) rfl rfl rfl rfl ?_⟩
  unfold dK
  simp(disch:=omega)only[aP,aa,simprocAttr,fl,gR,dB,c2,gp,br,a7,bp,cy,aoh,aol,cV,cw,cz,ca,cW,cX,cU,dY,gM,gH,gb,an,au,az,strs,Tm.kind,Tm.n,Tm.name,Tm.field,Tm.wn,Tm.wk,Tm.kids,Tm.names]
 obtain⟨s,p2,sh,gR⟩:=mo (h.set (p':=p1))
 have sl:=gU _ sh
 rw[bd] at gR
 have dB:=h.iz (p':=p2)
 refine⟨.mk 2 0 s [] [] [] [] [],p2,iZ (by omega) (by omega) (by omega),bE (fn:=dK) rfl rfl rfl rfl ?_⟩
 unfold dK
 simp(disch:=omega)only[aP,aa,simprocAttr,fl,gR,dB,gp,br,a7,bp,cy,aoh,aol,cV,cw,cz,ca,cW,cX,cU,dY,gM,gH,gb,an,au,az,strs,Tm.kind,Tm.n,Tm.name,Tm.field,Tm.wn,Tm.wk,Tm.kids,Tm.names]
theorem RA{P:Tm->Prop}{a:Tm}(h:P a):∀ t∈[a],P t:=fun t ht=>by rw[aos.1 ht];exact h
theorem vQ{P:Tm->Prop}{a b:Tm}(h:P a)(h2:P b):∀ t∈[a,b],P t:=fun t ht=>by
 rcases aoN.1 ht with rfl|ht
 ·exact h
 ·exact RA h2 t ht
theorem afC{P:Tm->Prop}{a b d:Tm}(h:P a)(h2:P b)(h3:P d):∀ t∈[a,b,d],P t:=fun t ht=>by
 rcases aoN.1 ht with rfl|ht
 ·exact h
 ·exact vQ h2 h3 t ht
theorem mi:(0:Nat)<=4/\∀ s∈([]:List bq),s.length<=20:=⟨by decide,by simp⟩
theorem j9{h:Nat}{k n:Int}{a f wn:bq}{wk:List Wd}{ks:List Tm}{ns:List bq}(h5:∀ t∈ks,oP 4 h t)(h4:ks.length<=3)(h1:-2199023255552<=n/\n<=2199023255552)(hk:0<=k/\k<=100)(h2:a.length<=20/\f.length<=20)
  (h3:wi 3 (.mk wn wk)) (h6:ns.length<=4/\∀ s∈ns,s.length<=20):oP 4 (h+1) (.mk k n a f wn wk ks ns):=.mk h k n a f wn wk ks ns h1 (by omega) h2 h3 h4 h5 h6
theorem S6{d d' : Nat} : ∀ {w:Wd},d<=d'->wi d w->wi d' w:=by
 induction d generalizing d' with
 | zero =>
  intro w _ h
  cases d' with
  | zero=>exact h
  | succ d'=>exact⟨h.1,by rw[h.2];simp,by rw[h.2];simp⟩
 | succ d ih =>
  intro w hd h
  cases d' with
  | zero=>omega
  | succ d'=>exact⟨h.1,h.2.1,fun k hk=>ih (by omega) (h.2.2 k hk)⟩
theorem agB{c:Cc}{d:Nat}(ih:xI c d){p p1:Int}{H:ah}(h:CH c p H)(fl:aD A 14 [.ref c.mm 0,.int .i64 24] H=some (.int .i64 9,some ⟨cP c p1 H,c.mm⟩))(hd:d<=100) :
  ∃ t p',oP 4 (d+1+1) t/\aD A 18 [.ref c.mm 0,.int .i64 ((d+1:Nat):Int)] H=some (.agg (cE t),some ⟨cP c p' H,c.mm⟩):=by
 have key:∃ r,aD A 18 [.ref c.mm 0,.int .i64 ((d+1:Nat):Int)] H=some r/\∃ t p',oP 4 (d+1+1) t/\r=(.agg (cE t),some ⟨cP c p' H,c.mm⟩):=by
  have bf:=h.lt
  have wC:(d:Int)+1-1=d:=by omega
  obtain⟨l,p2,ln,lh,gR⟩:=Dt ih 2 (by omega) p1 (cP c p1 H) h.set
  rw[bd] at gR
  refine mR (fn:=dK) rfl rfl rfl rfl ?_
  unfold dK
  simp(disch:=omega)only[aP,aa,simprocAttr,fl,gR,wC]
  refine bM l.length 1 (fun i s=>∃ T p3 acc,s=⟨T,cP c p3 H,c.mm,1⟩/\T 0=.ref c.mm 0/\T 4=.lbox 0 [.int .i64 0,.int .i64 0,.str [],.str [],.str [],.aj,.aj,.aj]/\T 6=.slice (au l) false/\T 7=.slice (strs acc) true/\T 8=.int .i64 i/\acc.length=i/\∀ s∈acc,s.length<=20)
   (fun s=>∃ T p3 acc,s=⟨T,cP c p3 H,c.mm,1⟩/\T 0=.ref c.mm 0/\T 4=.lbox 0 [.int .i64 0,.int .i64 0,.str [],.str [],.str [],.aj,.aj,.aj]/\T 6=.slice (au l) false/\T 7=.slice (strs acc) true/\acc.length<=l.length/\∀ s∈acc,s.length<=20) (fun _=>False) ?_ ?_ (fun _ h=>h.elim) 0 _ (by omega) ?_
  ·rintro i s hi ⟨T,p3,acc,rfl,e0,e4,e6,e7,e8,hl,hb⟩
   by_cases hc:i<l.length
   ·obtain⟨s,p4,hs,qP⟩:=mo (h.set (p':=p3))
    rw[bd] at qP
    have uD:=gU s hs
    have F2:aC false 1 16 (.slice (strs acc) true) (.slice [[.str s]] true)=some (.slice (strs (acc++[s])) true):=fj (by omega)
    simp(disch:=omega)only[aP,aa,simprocAttr,e0,e6,e7,e8,bB,qP,F2]
    refine⟨by omega,_,p4,acc++[s],rfl,by simp(disch:=omega)only[aN,aa,simprocAttr,e0],by simp(disch:=omega)only[aN,aa,simprocAttr,e4],by simp(disch:=omega)only[aN,aa,simprocAttr,e6],by simp(disch:=omega)only[aN,aa,simprocAttr],by simp(disch:=omega)only[aN,aa,simprocAttr],by simp[hl],fun u hu=>?_⟩
    rcases aog.1 hu with hu|hu
    ·exact hb u hu
    ·rw[aos.1 hu];omega
   ·simp(disch:=omega)only[aP,aa,simprocAttr,e0,e6,e7,e8,bB]
    exact⟨_,p3,acc,rfl,e0,e4,e6,e7,by omega,hb⟩
  ·rintro s ⟨T,p3,acc,rfl,e0,e4,e6,e7,hl,hb⟩
   obtain⟨s,p4,hs,qO⟩:=tB (h.set (p':=p3))
   rw[bd] at qO
   have dB:=h.iz (p':=p4)
   simp(disch:=omega)only[aP,aa,simprocAttr,e0,e4,e6,e7,qO,dB,br,a7,bp,cy,aoh,aol,cV,cw,cz,ca,cW,cX,cU,dY,gM,gH,gb]
   exact⟨.mk 7 0 s [] [] [] l acc,p4,j9 lh (by omega) (by omega) (by omega) ⟨hs,by decide⟩ jX ⟨by omega,hb⟩,by simp only[cE,az];exact⟨trivial,trivial⟩⟩
  ·exact⟨_,p2,[],rfl,by simp(disch:=omega)only[aN,aa,simprocAttr,strs];simp⟩
 obtain⟨r,h1,t,p',h2,rfl⟩:=key
 exact⟨t,p',h2,h1⟩
theorem Zn{t u:Tm}{l:List Tm}{o:Bool}(h:l.length<=1000):aC false 8 136 (.slice [[.int .i64 t.kind,.int .i64 t.n,.str t.name,.str t.field,.str t.wn,.slice (az t.wk) false,.slice (au t.kids) false,.slice (strs t.names) false],[.int .i64 u.kind,.int .i64 u.n,.str u.name,.str u.field,.str u.wn,.slice (az u.wk) false,.slice (au u.kids) false,.slice (strs u.names) false]] true) (.slice (au l) o)=some (.slice (au ([t,u]++l)) true):=by
 have:=N3 (l:=[t,u]) (m:=l) (o:=o) (by simp;omega)
 rw[show au [t,u]=[cE t,cE u] by simp[au],an t,an u] at this
 exact this
theorem Ij{l:List bq}{a b:bq}{o:Bool}(h:l.length<=1000):aC false 1 16 (.slice (strs l) true) (.slice [[.str a],[.str b]] o)=some (.slice (strs (l++[a,b])) true):=cb (m:=[a,b]) (by simp;omega)
theorem acY{c:Cc}{d:Nat}(ih:xI c d){p p1:Int}{H:ah}(h:CH c p H)(fl:aD A 14 [.ref c.mm 0,.int .i64 24] H=some (.int .i64 12,some ⟨cP c p1 H,c.mm⟩))(hd:d<=100) :
  ∃ t p',oP 4 (d+1+1) t/\aD A 18 [.ref c.mm 0,.int .i64 ((d+1:Nat):Int)] H=some (.agg (cE t),some ⟨cP c p' H,c.mm⟩):=by
 have key:∃ r,aD A 18 [.ref c.mm 0,.int .i64 ((d+1:Nat):Int)] H=some r/\∃ t p',oP 4 (d+1+1) t/\r=(.agg (cE t),some ⟨cP c p' H,c.mm⟩):=by
  have bf:=h.lt
  have wC:(d:Int)+1-1=d:=by omega
  obtain⟨t,p2,th,gR⟩:=ih p1 (cP c p1 H) h.set
  rw[bd,an] at gR
  obtain⟨u,p3,uh,pT⟩:=ih p2 (cP c p2 H) h.set
  rw[bd,an] at pT
  obtain⟨l,p4,ln,lh,uw⟩:=Dt ih 1 (by omega) p3 (cP c p3 H) h.set
  rw[bd] at uw
  have F2:=Zn (t:=t) (u:=u) (l:=l) (o:=false) (by omega)
  have DE:∀ s∈[t,u]++l,oP 4 (d+1) s:=fun s hs=>by
   rcases aog.1 hs with hs|hs
   ·exact vQ (P:=oP 4 (d+1)) th uh s hs
   ·exact lh s hs
  obtain⟨k,hk⟩:∃ k,k=[t,u]++l:=⟨_,rfl⟩
  have mV:2<=k.length/\k.length<=3:=by rw[hk];simp;omega
  rw[<- hk] at F2 DE
  refine mR (fn:=dK) rfl rfl rfl rfl ?_
  unfold dK
  simp(disch:=omega)only[aP,aa,simprocAttr,fl,gR,pT,uw,wC,F2]
  refine bM (k.length-1) 3 (fun i s=>∃ T p3 acc,s=⟨T,cP c p3 H,c.mm,1⟩/\T 0=.ref c.mm 0/\T 4=.lbox 0 [.int .i64 0,.int .i64 0,.str [],.str [],.str [],.aj,.aj,.aj]/\T 9=.slice (au k) true/\T 10=.slice (strs acc) true/\T 11=.int .i64 (i+1)/\acc.length=2*i/\∀ s∈acc,s.length<=20)
   (fun s=>∃ T p3 acc,s=⟨T,cP c p3 H,c.mm,1⟩/\T 0=.ref c.mm 0/\T 4=.lbox 0 [.int .i64 0,.int .i64 0,.str [],.str [],.str [],.aj,.aj,.aj]/\T 9=.slice (au k) true/\T 10=.slice (strs acc) true/\acc.length<=4/\∀ s∈acc,s.length<=20) (fun _=>False) ?_ ?_ (fun _ h=>h.elim) 0 _ (by omega) ?_
  ·rintro i s hi ⟨T,p3,acc,rfl,e0,e4,e9,ZD,ZE,hl,hb⟩
   by_cases hc:i+1<k.length
   ·obtain⟨a,p4,ha,qP⟩:=mo (h.set (p':=p3))
    rw[bd] at qP
    have DE:=gU a ha
    obtain⟨b,p5,jF,Pn⟩:=mo (h.set (p':=p4))
    rw[bd] at Pn
    have Mn:=gU b jF
    have aeu:aC false 1 16 (.slice (strs acc) true) (.slice [[.str a],[.str b]] true)=some (.slice (strs (acc++[a,b])) true):=Ij (by omega)
    simp(disch:=omega)only[aP,aa,simprocAttr,e0,e9,ZD,ZE,bB,qP,Pn,aeu]
    refine⟨by omega,_,p5,acc++[a,b],rfl,by simp(disch:=omega)only[aN,aa,simprocAttr,e0],by simp(disch:=omega)only[aN,aa,simprocAttr,e4],by simp(disch:=omega)only[aN,aa,simprocAttr,e9],by simp(disch:=omega)only[aN,aa,simprocAttr],by simp(disch:=omega)only[aN,aa,simprocAttr],by simp[hl];omega,fun u hu=>?_⟩
    rcases aog.1 hu with hu|hu
    ·exact hb u hu
    ·rcases aoN.1 hu with rfl|hu
     ·omega
     ·rw[aos.1 hu];omega
   ·simp(disch:=omega)only[aP,aa,simprocAttr,e0,e9,ZD,ZE,bB]
    exact⟨_,p3,acc,rfl,e0,e4,e9,ZD,by omega,hb⟩
  ·rintro s ⟨T,p3,acc,rfl,e0,e4,e9,ZD,hl,hb⟩
   obtain⟨s,p4,hs,qO⟩:=tB (h.set (p':=p3))
   rw[bd] at qO
   have dB:=h.iz (p':=p4)
   simp(disch:=omega)only[aP,aa,simprocAttr,e0,e4,e9,ZD,qO,dB,br,a7,bp,cy,aoh,aol,cV,cw,cz,ca,cW,cX,cU,dY,gM,gH,gb]
   exact⟨.mk 10 0 s [] [] [] k acc,p4,j9 DE (by omega) (by omega) (by omega) ⟨hs,by decide⟩ jX ⟨by omega,hb⟩,by simp only[cE,az];exact⟨trivial,trivial⟩⟩
  ·exact⟨_,p4,[],rfl,by simp(disch:=omega)only[aN,aa,simprocAttr,strs];simp⟩
 obtain⟨r,h1,t,p',h2,rfl⟩:=key
 exact⟨t,p',h2,h1⟩
theorem agC{c:Cc}{d:Nat}(hd:d<=100)(ih:xI c d):xI c (d+1):=by
 intro p H h
 obtain⟨x,p1,yK,uE,fl⟩:=kQ h 24 (by omega)
 have bf:=h.lt
 have wC:(d:Int)+1-1=d:=by omega
 by_cases c0:x=0
 ·obtain⟨y,p2,y0,y1,gR⟩:=kQ (h.set (p':=p1)) 30 (by omega)
  rw[bd] at gR
  have dB:=h.iz (p':=p2)
  refine⟨.mk 0 (y-9) [] [] [] [] [] [],p2,iZ (by omega) (by omega) (by decide),bE (fn:=dK) rfl rfl rfl rfl ?_⟩
  unfold dK
  simp(disch:=omega)only[aP,aa,simprocAttr,fl,gR,dB,c0,br,a7,bp,cy,aoh,aol,cV,cw,cz,ca,cW,cX,cU,dY,gM,gH,gb,an,au,az,strs,Tm.kind,Tm.n,Tm.name,Tm.field,Tm.wn,Tm.wk,Tm.kids,Tm.names]
 by_cases c1:x=1
 ·obtain⟨y,p2,y0,y1,gR⟩:=kQ (h.set (p':=p1)) 4 (by omega)
  rw[bd] at gR
  have dB:=h.iz (p':=p2)
  rcases lt4 y0 y1 with rfl|rfl|rfl|rfl
  ·refine⟨.mk 0 0 [] [] [] [] [] [],p2,iZ (by omega) (by omega) (by decide),bE (fn:=dK) rfl rfl rfl rfl ?_⟩
   unfold dK
   simp(disch:=omega)only[aP,aa,simprocAttr,fl,gR,dB,c1,br,a7,bp,cy,aoh,aol,cV,cw,cz,ca,cW,cX,cU,dY,gM,gH,gb,an,au,az,strs,Tm.kind,Tm.n,Tm.name,Tm.field,Tm.wn,Tm.wk,Tm.kids,Tm.names]
  ·refine⟨.mk 0 1099511627776 [] [] [] [] [] [],p2,iZ (by omega) (by omega) (by decide),bE (fn:=dK) rfl rfl rfl rfl ?_⟩
   unfold dK
   simp(disch:=omega)only[aP,aa,simprocAttr,fl,gR,dB,c1,br,a7,bp,cy,aoh,aol,cV,cw,cz,ca,cW,cX,cU,dY,gM,gH,gb,an,au,az,strs,Tm.kind,Tm.n,Tm.name,Tm.field,Tm.wn,Tm.wk,Tm.kids,Tm.names]
  ·refine⟨.mk 0 (-1099511627776) [] [] [] [] [] [],p2,iZ (by omega) (by omega) (by decide),bE (fn:=dK) rfl rfl rfl rfl ?_⟩
   unfold dK
   simp(disch:=omega)only[aP,aa,simprocAttr,fl,gR,dB,c1,br,a7,bp,cy,aoh,aol,cV,cw,cz,ca,cW,cX,cU,dY,gM,gH,gb,an,au,az,strs,Tm.kind,Tm.n,Tm.name,Tm.field,Tm.wn,Tm.wk,Tm.kids,Tm.names]
  ·refine⟨.mk 0 10 [] [] [] [] [] [],p2,iZ (by omega) (by omega) (by decide),bE (fn:=dK) rfl rfl rfl rfl ?_⟩
   unfold dK
   simp(disch:=omega)only[aP,aa,simprocAttr,fl,gR,dB,c1,br,a7,bp,cy,aoh,aol,cV,cw,cz,ca,cW,cX,cU,dY,gM,gH,gb,an,au,az,strs,Tm.kind,Tm.n,Tm.name,Tm.field,Tm.wn,Tm.wk,Tm.kids,Tm.names]
 by_cases c2:x=2
 ·obtain⟨y,p2,y0,y1,gR⟩:=kQ (h.set (p':=p1)) 2 (by omega)
  rw[bd] at gR
  have dB:=h.iz (p':=p2)
  refine⟨.mk 1 y [] [] [] [] [] [],p2,iZ (by omega) (by omega) (by decide),bE (fn:=dK) rfl rfl rfl rfl ?_⟩
  unfold dK
  simp(disch:=omega)only[aP,aa,simprocAttr,fl,gR,dB,c2,br,a7,bp,cy,aoh,aol,cV,cw,cz,ca,cW,cX,cU,dY,gM,gH,gb,an,au,az,strs,Tm.kind,Tm.n,Tm.name,Tm.field,Tm.wn,Tm.wk,Tm.kids,Tm.names]
 by_cases c5:x=5
 ·obtain⟨s,p2,sl,gR⟩:=tB (h.set (p':=p1))
  rw[bd] at gR
  obtain⟨l,p3,ln,lh,pT⟩:=Dt ih 3 (by omega) p2 (cP c p2 H) h.set
  rw[bd] at pT
  have dB:=h.iz (p':=p3)
  refine⟨.mk 3 0 s [] [] [] l [],p3,j9 lh (by omega) (by omega) (by omega) ⟨sl,by decide⟩ jX mi,bE (fn:=dK) rfl rfl rfl rfl ?_⟩
  unfold dK
  simp(disch:=omega)only[aP,aa,simprocAttr,fl,gR,pT,dB,c5,wC,br,a7,bp,cy,aoh,aol,cV,cw,cz,ca,cW,cX,cU,dY,gM,gH,gb,an,au,az,strs,Tm.kind,Tm.n,Tm.name,Tm.field,Tm.wn,Tm.wk,Tm.kids,Tm.names]
 by_cases c6:x=6
 ·obtain⟨t,p2,th,gR⟩:=ih p1 (cP c p1 H) h.set
  rw[bd,an] at gR
  obtain⟨u,p3,uh,pT⟩:=ih p2 (cP c p2 H) h.set
  rw[bd,an] at pT
  obtain⟨v,p4,vh,uw⟩:=ih p3 (cP c p3 H) h.set
  rw[bd,an] at uw
  have dB:=h.iz (p':=p4)
  refine⟨.mk 5 0 [] [] [] [] [t,u,v] [],p4,j9 (afC th uh vh) (by simp) (by omega) (by omega) ⟨by decide,by decide⟩ jX mi,bE (fn:=dK) rfl rfl rfl rfl ?_⟩
  unfold dK
  simp(disch:=omega)only[aP,aa,simprocAttr,fl,gR,pT,uw,dB,c6,wC,br,a7,bp,cy,aoh,aol,cV,cw,cz,ca,cW,cX,cU,dY,gM,gH,gb,an,au,az,strs,Tm.kind,Tm.n,Tm.name,Tm.field,Tm.wn,Tm.wk,Tm.kids,Tm.names]
 by_cases c7:x=7
 ·obtain⟨s,p2,sh,gR⟩:=mo (h.set (p':=p1))
  have sl:=gU _ sh
  rw[bd] at gR
  obtain⟨t,p3,th,pT⟩:=ih p2 (cP c p2 H) h.set
  rw[bd,an] at pT
  obtain⟨u,p4,uh,uw⟩:=ih p3 (cP c p3 H) h.set
  rw[bd,an] at uw
  have dB:=h.iz (p':=p4)
  refine⟨.mk 6 0 [] [] [] [] [t,u] [s],p4,j9 (vQ th uh) (by simp) (by omega) (by omega) ⟨by decide,by decide⟩ jX ⟨by simp,by simp;omega⟩,bE (fn:=dK) rfl rfl rfl rfl ?_⟩
  unfold dK
  simp(disch:=omega)only[aP,aa,simprocAttr,fl,gR,pT,uw,dB,c7,wC,br,a7,bp,cy,aoh,aol,cV,cw,cz,ca,cW,cX,cU,dY,gM,gH,gb,an,au,az,strs,Tm.kind,Tm.n,Tm.name,Tm.field,Tm.wn,Tm.wk,Tm.kids,Tm.names]
 by_cases c8:x=8
 ·obtain⟨s,p2,sh,gR⟩:=mo (h.set (p':=p1))
  have sl:=gU _ sh
  rw[bd] at gR
  obtain⟨r,p3,rh,pT⟩:=mo (h.set (p':=p2))
  have rl:=gU _ rh
  rw[bd] at pT
  obtain⟨t,p4,th,uw⟩:=ih p3 (cP c p3 H) h.set
  rw[bd,an] at uw
  obtain⟨u,p5,uh,hc5⟩:=ih p4 (cP c p4 H) h.set
  rw[bd,an] at hc5
  obtain⟨v,p6,vh,hc6⟩:=ih p5 (cP c p5 H) h.set
  rw[bd,an] at hc6
  have dB:=h.iz (p':=p6)
  refine⟨.mk 12 0 [] [] [] [] [t,u,v] [s,r],p6,j9 (afC th uh vh) (by simp) (by omega) (by omega) ⟨by decide,by decide⟩ jX ⟨by simp,by simp;omega⟩,bE (fn:=dK) rfl rfl rfl rfl ?_⟩
  unfold dK
  simp(disch:=omega)only[aP,aa,simprocAttr,fl,gR,pT,uw,hc5,hc6,dB,c8,wC,br,a7,bp,cy,aoh,aol,cV,cw,cz,ca,cW,cX,cU,dY,gM,gH,gb,an,au,az,strs,Tm.kind,Tm.n,Tm.name,Tm.field,Tm.wn,Tm.wk,Tm.kids,Tm.names]
 by_cases c10:x=10
 ·obtain⟨s,p2,sl,gR⟩:=tB (h.set (p':=p1))
  rw[bd] at gR
  obtain⟨r,p3,rh,pT⟩:=mo (h.set (p':=p2))
  have rl:=gU _ rh
  rw[bd] at pT
  obtain⟨t,p4,th,uw⟩:=ih p3 (cP c p3 H) h.set
  rw[bd,an] at uw
  have dB:=h.iz (p':=p4)
  refine⟨.mk 8 0 s r [] [] [t] [],p4,j9 (RA th) (by simp) (by omega) (by omega) ⟨sl,by omega⟩ jX mi,bE (fn:=dK) rfl rfl rfl rfl ?_⟩
  unfold dK
  simp(disch:=omega)only[aP,aa,simprocAttr,fl,gR,pT,uw,dB,c10,wC,br,a7,bp,cy,aoh,aol,cV,cw,cz,ca,cW,cX,cU,dY,gM,gH,gb,an,au,az,strs,Tm.kind,Tm.n,Tm.name,Tm.field,Tm.wn,Tm.wk,Tm.kids,Tm.names]
 by_cases c11:x=11
 ·obtain⟨s,p2,sl,gR⟩:=tB (h.set (p':=p1))
  rw[bd] at gR
  obtain⟨r,p3,rh,pT⟩:=mo (h.set (p':=p2))
  have rl:=gU _ rh
  rw[bd] at pT
  obtain⟨t,p4,th,uw⟩:=ih p3 (cP c p3 H) h.set
  rw[bd,an] at uw
  have dB:=h.iz (p':=p4)
  refine⟨.mk 9 0 s r [] [] [t] [],p4,j9 (RA th) (by simp) (by omega) (by omega) ⟨sl,by omega⟩ jX mi,bE (fn:=dK) rfl rfl rfl rfl ?_⟩
  unfold dK
  simp(disch:=omega)only[aP,aa,simprocAttr,fl,gR,pT,uw,dB,c11,wC,br,a7,bp,cy,aoh,aol,cV,cw,cz,ca,cW,cX,cU,dY,gM,gH,gb,an,au,az,strs,Tm.kind,Tm.n,Tm.name,Tm.field,Tm.wn,Tm.wk,Tm.kids,Tm.names]
 by_cases c13:x=13
 ·obtain⟨w,p2,wh,gR⟩:=GB 2 p1 (cP c p1 H) (by omega) h.set
  rw[bd,iB] at gR
  rw[show ((2:Nat):Int)=2 from rfl] at gR
  obtain⟨l,p3,ln,lh,pT⟩:=Dt ih 3 (by omega) p2 (cP c p2 H) h.set
  rw[bd] at pT
  have dB:=h.iz (p':=p3)
  refine⟨.mk 11 0 [] [] w.name w.kids l [],p3,j9 lh (by omega) (by omega) (by omega) ⟨by decide,by decide⟩ (by cases w;exact S6 (by omega) wh) mi,bE (fn:=dK) rfl rfl rfl rfl ?_⟩
  unfold dK
  simp(disch:=omega)only[aP,aa,simprocAttr,fl,gR,pT,dB,c13,wC,br,a7,bp,cy,aoh,aol,cV,cw,cz,ca,cW,cX,cU,dY,gM,gH,gb,an,au,az,strs,Tm.kind,Tm.n,Tm.name,Tm.field,Tm.wn,Tm.wk,Tm.kids,Tm.names]
 by_cases c14:x=14
 ·obtain⟨y,p2,y0,y1,gR⟩:=kQ (h.set (p':=p1)) 2 (by omega)
  rw[bd] at gR
  obtain⟨t,p3,th,pT⟩:=ih p2 (cP c p2 H) h.set
  rw[bd,an] at pT
  have dB:=h.iz (p':=p3)
  rcases lt2 y0 y1 with rfl|rfl
  ·refine⟨.mk 4 9 [] [] [] [] [t] [],p3,j9 (RA th) (by simp) (by omega) (by omega) ⟨by decide,by decide⟩ jX mi,bE (fn:=dK) rfl rfl rfl rfl ?_⟩
   unfold dK
   simp(disch:=omega)only[aP,aa,simprocAttr,fl,gR,pT,dB,c14,wC,br,a7,bp,cy,aoh,aol,cV,cw,cz,ca,cW,cX,cU,dY,gM,gH,gb,an,au,az,strs,Tm.kind,Tm.n,Tm.name,Tm.field,Tm.wn,Tm.wk,Tm.kids,Tm.names]
   first|done|rfl
  ·refine⟨.mk 4 11 [] [] [] [] [t] [],p3,j9 (RA th) (by simp) (by omega) (by omega) ⟨by decide,by decide⟩ jX mi,bE (fn:=dK) rfl rfl rfl rfl ?_⟩
   unfold dK
   simp(disch:=omega)only[aP,aa,simprocAttr,fl,gR,pT,dB,c14,wC,br,a7,bp,cy,aoh,aol,cV,cw,cz,ca,cW,cX,cU,dY,gM,gH,gb,an,au,az,strs,Tm.kind,Tm.n,Tm.name,Tm.field,Tm.wn,Tm.wk,Tm.kids,Tm.names]
   first|done|rfl
 by_cases c9:x=9
 ·subst c9;exact agB ih h fl hd
 by_cases c12:x=12
 ·subst c12;exact acY ih h fl hd
 by_cases c15:14<x
 ·obtain⟨y,p2,y0,y1,gR⟩:=kQ (h.set (p':=p1)) 10 (by omega)
  rw[bd] at gR
  obtain⟨t,p3,th,pT⟩:=ih p2 (cP c p2 H) h.set
  rw[bd,an] at pT
  obtain⟨u,p4,uh,uw⟩:=ih p3 (cP c p3 H) h.set
  rw[bd,an] at uw
  have dB:=h.iz (p':=p4)
  have hy:y=0\/y=1\/y=2\/y=3\/y=4\/y=5\/y=6\/y=7\/y=8\/y=9:=by omega
  rcases hy with rfl|rfl|rfl|rfl|rfl|rfl|rfl|rfl|rfl|rfl
  ·refine⟨.mk 4 0 [] [] [] [] [t,u] [],p4,j9 (vQ th uh) (by simp) (by omega) (by omega) ⟨by decide,by decide⟩ jX mi,bE (fn:=dK) rfl rfl rfl rfl ?_⟩
   unfold dK
   simp(disch:=omega)only[aP,aa,simprocAttr,fl,gR,pT,uw,dB,wC,br,a7,bp,cy,aoh,aol,cV,cw,cz,ca,cW,cX,cU,dY,gM,gH,gb,an,au,az,strs,Tm.kind,Tm.n,Tm.name,Tm.field,Tm.wn,Tm.wk,Tm.kids,Tm.names]
  ·refine⟨.mk 4 1 [] [] [] [] [t,u] [],p4,j9 (vQ th uh) (by simp) (by omega) (by omega) ⟨by decide,by decide⟩ jX mi,bE (fn:=dK) rfl rfl rfl rfl ?_⟩
   unfold dK
   simp(disch:=omega)only[aP,aa,simprocAttr,fl,gR,pT,uw,dB,wC,br,a7,bp,cy,aoh,aol,cV,cw,cz,ca,cW,cX,cU,dY,gM,gH,gb,an,au,az,strs,Tm.kind,Tm.n,Tm.name,Tm.field,Tm.wn,Tm.wk,Tm.kids,Tm.names]
  ·refine⟨.mk 4 2 [] [] [] [] [t,u] [],p4,j9 (vQ th uh) (by simp) (by omega) (by omega) ⟨by decide,by decide⟩ jX mi,bE (fn:=dK) rfl rfl rfl rfl ?_⟩
   unfold dK
   simp(disch:=omega)only[aP,aa,simprocAttr,fl,gR,pT,uw,dB,wC,br,a7,bp,cy,aoh,aol,cV,cw,cz,ca,cW,cX,cU,dY,gM,gH,gb,an,au,az,strs,Tm.kind,Tm.n,Tm.name,Tm.field,Tm.wn,Tm.wk,Tm.kids,Tm.names]
  ·refine⟨.mk 4 3 [] [] [] [] [t,u] [],p4,j9 (vQ th uh) (by simp) (by omega) (by omega) ⟨by decide,by decide⟩ jX mi,bE (fn:=dK) rfl rfl rfl rfl ?_⟩
   unfold dK
   simp(disch:=omega)only[aP,aa,simprocAttr,fl,gR,pT,uw,dB,wC,br,a7,bp,cy,aoh,aol,cV,cw,cz,ca,cW,cX,cU,dY,gM,gH,gb,an,au,az,strs,Tm.kind,Tm.n,Tm.name,Tm.field,Tm.wn,Tm.wk,Tm.kids,Tm.names]
  ·refine⟨.mk 4 4 [] [] [] [] [t,u] [],p4,j9 (vQ th uh) (by simp) (by omega) (by omega) ⟨by decide,by decide⟩ jX mi,bE (fn:=dK) rfl rfl rfl rfl ?_⟩
   unfold dK
   simp(disch:=omega)only[aP,aa,simprocAttr,fl,gR,pT,uw,dB,wC,br,a7,bp,cy,aoh,aol,cV,cw,cz,ca,cW,cX,cU,dY,gM,gH,gb,an,au,az,strs,Tm.kind,Tm.n,Tm.name,Tm.field,Tm.wn,Tm.wk,Tm.kids,Tm.names]
  ·refine⟨.mk 4 5 [] [] [] [] [t,u] [],p4,j9 (vQ th uh) (by simp) (by omega) (by omega) ⟨by decide,by decide⟩ jX mi,bE (fn:=dK) rfl rfl rfl rfl ?_⟩
   unfold dK
   simp(disch:=omega)only[aP,aa,simprocAttr,fl,gR,pT,uw,dB,wC,br,a7,bp,cy,aoh,aol,cV,cw,cz,ca,cW,cX,cU,dY,gM,gH,gb,an,au,az,strs,Tm.kind,Tm.n,Tm.name,Tm.field,Tm.wn,Tm.wk,Tm.kids,Tm.names]
  ·refine⟨.mk 4 6 [] [] [] [] [t,u] [],p4,j9 (vQ th uh) (by simp) (by omega) (by omega) ⟨by decide,by decide⟩ jX mi,bE (fn:=dK) rfl rfl rfl rfl ?_⟩
   unfold dK
   simp(disch:=omega)only[aP,aa,simprocAttr,fl,gR,pT,uw,dB,wC,br,a7,bp,cy,aoh,aol,cV,cw,cz,ca,cW,cX,cU,dY,gM,gH,gb,an,au,az,strs,Tm.kind,Tm.n,Tm.name,Tm.field,Tm.wn,Tm.wk,Tm.kids,Tm.names]
  ·refine⟨.mk 4 7 [] [] [] [] [t,u] [],p4,j9 (vQ th uh) (by simp) (by omega) (by omega) ⟨by decide,by decide⟩ jX mi,bE (fn:=dK) rfl rfl rfl rfl ?_⟩
   unfold dK
   simp(disch:=omega)only[aP,aa,simprocAttr,fl,gR,pT,uw,dB,wC,br,a7,bp,cy,aoh,aol,cV,cw,cz,ca,cW,cX,cU,dY,gM,gH,gb,an,au,az,strs,Tm.kind,Tm.n,Tm.name,Tm.field,Tm.wn,Tm.wk,Tm.kids,Tm.names]
  ·refine⟨.mk 4 8 [] [] [] [] [t,u] [],p4,j9 (vQ th uh) (by simp) (by omega) (by omega) ⟨by decide,by decide⟩ jX mi,bE (fn:=dK) rfl rfl rfl rfl ?_⟩
   unfold dK
   simp(disch:=omega)only[aP,aa,simprocAttr,fl,gR,pT,uw,dB,wC,br,a7,bp,cy,aoh,aol,cV,cw,cz,ca,cW,cX,cU,dY,gM,gH,gb,an,au,az,strs,Tm.kind,Tm.n,Tm.name,Tm.field,Tm.wn,Tm.wk,Tm.kids,Tm.names]
  ·refine⟨.mk 4 10 [] [] [] [] [t,u] [],p4,j9 (vQ th uh) (by simp) (by omega) (by omega) ⟨by decide,by decide⟩ jX mi,bE (fn:=dK) rfl rfl rfl rfl ?_⟩
   unfold dK
   simp(disch:=omega)only[aP,aa,simprocAttr,fl,gR,pT,uw,dB,wC,br,a7,bp,cy,aoh,aol,cV,cw,cz,ca,cW,cX,cU,dY,gM,gH,gb,an,au,az,strs,Tm.kind,Tm.n,Tm.name,Tm.field,Tm.wn,Tm.wk,Tm.kids,Tm.names]
 have amy:x=3\/x=4:=by omega
 obtain⟨s,p2,sh,gR⟩:=mo (h.set (p':=p1))
 have sl:=gU _ sh
 rw[bd] at gR
 have dB:=h.iz (p':=p2)
 refine⟨.mk 2 0 s [] [] [] [] [],p2,iZ (by omega) (by omega) (by omega),bE (fn:=dK) rfl rfl rfl rfl ?_⟩
 unfold dK
 simp(disch:=omega)only[aP,aa,simprocAttr,fl,gR,dB,wC,br,a7,bp,cy,aoh,aol,cV,cw,cz,ca,cW,cX,cU,dY,gM,gH,gb,an,au,az,strs,Tm.kind,Tm.n,Tm.name,Tm.field,Tm.wn,Tm.wk,Tm.kids,Tm.names]
def bg:bq->bq × bq × Bool
 | []=>([],[],false)
 | b :: r=>if b.toNat=46 then ([],r,true) else (b :: (bg r).1,(bg r).2.1,(bg r).2.2)
theorem wy:∀ {s:bq},(bg s).2.2=false->bg s=(s,[],false)
 | [],_=>rfl
 | b :: r,h=>by
  unfold bg at h ⊢
  split at h
  ·cases h
  ·rename_i hb
   rw[if_neg hb,wy h]
theorem KJ(s:bq)(H:ah)(hs:s.length<=1000000):aD A 111 [.str s] H=some (.tuple [.str (bg s).1,.str (bg s).2.1,.bool (bg s).2.2],none):=by
 refine aB (fn:=Ge) rfl rfl rfl ?_
 unfold Ge
 simp(disch:=omega)only[aN,aa,simprocAttr]
 refine bM s.length 0 (fun i=>Hd (fun T=>T 0=.str s/\T 5=.int .i64 i/\bg s=(s.take i++(bg (s.drop i)).1,(bg (s.drop i)).2.1,(bg (s.drop i)).2.2)) H H.length 0)
  (Hd (fun T=>T 0=.str s/\bg s=(s,[],false)) H H.length 0) (Hd (fun T=>T 2=.str (bg s).1/\T 3=.str (bg s).2.1/\T 4=.bool (bg s).2.2) H H.length 0) ?_ ?_ ?_ 0 _ (ao9 _) ?_
 ·rintro i st hi jN
  obtain⟨T,rfl,h0,h5,hc⟩:=jN.out
  by_cases h:i<s.length
  ·have hx:=an' h
   have hd:=aoQ h
   generalize s[i]=b at hx hd
   have Mn:b.toNat<256:=UInt8.toNat_lt b
   by_cases b46:b.toNat=46
   ·have e:bg (s.drop i)=([],s.drop (i+1),true):=by rw[hd,bg,if_pos b46]
    rw[e] at hc
    simp only[aoZ] at hc
    simp(disch:=omega)only[aN,aa,simprocAttr,h0,h5,hx,hc]
    rw[apm]
   ·have e:bg (s.drop i)=(b :: (bg (s.drop (i+1))).1,(bg (s.drop (i+1))).2.1,(bg (s.drop (i+1))).2.2):=by rw[hd,bg,if_neg b46]
    rw[e] at hc
    have j6:s.take (i+1)=s.take i++[b]:=by rw[ap4,hx];rfl
    simp(disch:=omega)only[aN,aa,simprocAttr,h0,h5,hx]
    exact⟨h,by rw[hc,j6];simp⟩
  ·have e:s.drop i=[]:=aqg (by omega)
   rw[e,bg,aoJ (by omega)] at hc
   simp only[aoZ] at hc
   simp(disch:=omega)only[aN,aa,simprocAttr,h0,h5]
   exact hc
 ·rintro st jN
  obtain⟨T,rfl,h0,hc⟩:=jN.out
  simp(disch:=omega)only[aN,aa,simprocAttr,h0,hc]
 ·rintro st jN
  obtain⟨T,rfl,h2,h3,h4⟩:=jN.out
  simp(disch:=omega)only[aN,aa,simprocAttr,h2,h3,h4]
 ·simp(disch:=omega)only[aN,aa,simprocAttr,aoV,apc,ao8]
theorem nv:∀ s:bq,(bg s).1.length<=s.length/\(bg s).2.1.length<=s.length
 | []=>⟨aoa _,aoa _⟩
 | b :: r=>by
  have:=nv r
  unfold bg
  split
  ·exact⟨by simp,by simp⟩
  ·exact⟨by simp only[an5];omega,by simp only[an5];omega⟩
def cD(s:bq):Bool:=isWord (bg s).1&&(!(bg s).2.2 || isWord (bg s).2.1)
def cA(s:bq):List bq:=if (bg s).2.2=true then [(bg s).1,[46],(bg s).2.1] else [(bg s).1]
theorem RY(s:bq)(H:ah)(hs:s.length<=1000000):aD A 108 [.str s] H=some (.bool (cD s),none):=by
 have hf:=KJ s H hs
 obtain⟨l1,l2⟩:=nv s
 refine aB (fn:=Gb) rfl rfl rfl ?_
 unfold Gb
 have w1:=oA (bg s).1 H (by omega)
 have w2:=oA (bg s).2.1 H (by omega)
 unfold cD
 cases h1:isWord (bg s).1<;>cases h2:(bg s).2.2<;>rw[h1] at w1<;>rw[h2] at hf<;>simp(disch:=omega)only[aN,aa,simprocAttr,hf,w1,w2,aoq,aou,aom,aoj,aon,aoH]
theorem rY(s:bq)(H:ah)(hs:s.length<=1000000):aD A 71 [.str s] H=some (.slice (strs (cA s)) true,none):=by
 have hf:=KJ s H hs
 refine aB (fn:=Q5) rfl rfl rfl ?_
 unfold Q5
 unfold cA
 cases h2:(bg s).2.2<;>rw[h2] at hf<;>simp(disch:=omega)only[aN,aa,simprocAttr,hf,strs,aoh,aol,apB,reduceCtorEq,aqv,apy]
theorem GY(l:List bq)(H:ah)(hl:l.length<=1000000)(hs:∀ s∈l,s.length<=1000000):aD A 49 [.slice (strs l) false] H=some (.bool (l.all isWord),none):=by
 refine aB (fn:=Q2) rfl rfl rfl ?_
 unfold Q2
 simp(disch:=omega)only[aN,aa,simprocAttr]
 refine bM l.length 0 (fun i=>Hd (fun T=>T 0=.slice (strs l) false/\T 3=.int .i64 i/\l.all isWord=(l.drop i).all isWord) H H.length 0)
  (Hd (fun T=>l.all isWord=true) H H.length 0) (Hd (fun T=>T 2=.bool false/\l.all isWord=false) H H.length 0) ?_ ?_ ?_ 0 _ (ao9 _) ?_
 ·rintro i st hi jN
  obtain⟨T,rfl,h0,h3,hc⟩:=jN.out
  by_cases h:i<l.length
  ·have hx:=an' h
   have hd:=aoQ h
   have hm:=aoW h
   generalize l[i]=b at hx hd hm
   have hw:=oA b H (by have:=hs b hm;omega)
   rw[hd,ao6] at hc
   have fE:=fa hx
   cases hb:isWord b<;>rw[hb] at hw hc
   ·simp(disch:=omega)only[aN,aa,simprocAttr,h0,h3,aW,fE,hw]
    rw[hc];rfl
   ·simp(disch:=omega)only[aN,aa,simprocAttr,h0,h3,aW,fE,hw]
    exact⟨h,by rw[hc,aou]⟩
  ·have e:l.drop i=[]:=aqg (by omega)
   rw[e,apd] at hc
   simp(disch:=omega)only[aN,aa,simprocAttr,h0,h3,aW]
   exact hc
 ·rintro st jN
  obtain⟨T,rfl,hc⟩:=jN.out
  simp(disch:=omega)only[aN,aa,simprocAttr,hc]
 ·rintro st jN
  obtain⟨T,rfl,h2,hc⟩:=jN.out
  simp(disch:=omega)only[aN,aa,simprocAttr,h2,hc]
 ·simp(disch:=omega)only[aN,aa,simprocAttr,apc]
abbrev fL:bq:=[76,105,115,116]
abbrev xe:bq:=[73,110,116]
abbrev qm:bq:=[66,111,111,108]
def bc:Wd->Bool
 | .mk n [k]=>if n=fL then bc k else false
 | .mk n []=>if n=fL then false else (n==xe || n==qm || cD n)
 | .mk n _=>false
def dh:Wd->List bq
 | .mk n [k]=>if n=fL then [fL,[40]]++dh k++[[41]] else (if n=xe\/n=qm then [n] else cA n)
 | .mk n _=>if n=xe\/n=qm then [n] else cA n
theorem vT:∀ (h:Nat) (w:Wd) (H:ah),wi h w->aD A 68 [.agg (gz w)] H=some (.bool (bc w),none):=by
 have leaf:∀ (n:bq) (H:ah),n.length<=20->aD A 68 [.agg (gz (.mk n []))] H=some (.bool (bc (.mk n [])),none):=by
  intro n H hn
  have hq:=RY n H (by omega)
  refine aB (fn:=Jy) rfl rfl rfl ?_
  unfold Jy
  rw[gz,az]
  by_cases h1:n=fL
  ·have e1:(n==[76,105,115,116])=true:=by simpa using h1
   simp(disch:=omega)only[aP,aa,simprocAttr,e1,bc,if_pos h1]
  have e1:(n==[76,105,115,116])=false:=by simpa using h1
  by_cases h2:n=xe
  ·have e2:(n==[73,110,116])=true:=by simpa using h2
   simp(disch:=omega)only[aP,aa,simprocAttr,e1,e2,bc,if_neg h1,aoH]
  have e2:(n==[73,110,116])=false:=by simpa using h2
  by_cases h3:n=qm
  ·have e3:(n==[66,111,111,108])=true:=by simpa using h3
   simp(disch:=omega)only[aP,aa,simprocAttr,e1,e2,e3,bc,if_neg h1,aoH,aon]
  have e3:(n==[66,111,111,108])=false:=by simpa using h3
  simp(disch:=omega)only[aP,aa,simprocAttr,e1,e2,e3,hq,bc,if_neg h1,aon]
 intro h
 induction h with
 | zero =>
  intro w H hw
  obtain⟨n,ks⟩:=w
  obtain⟨h1,h2⟩:=hw
  simp only[Wd.kids,Wd.name] at h1 h2
  subst h2
  exact leaf n H h1
 | succ h ih =>
  intro w H hw
  obtain⟨n,ks⟩:=w
  obtain⟨h1,h2,h3⟩:=hw
  simp only[Wd.kids,Wd.name] at h1 h2 h3
  match ks,h2,h3 with
  | [],_,_=>exact leaf n H h1
  | [k],_,h3 =>
   have hk:=ih k H (h3 k (by simp))
   rw[iB] at hk
   refine aB (fn:=Jy) rfl rfl rfl ?_
   unfold Jy
   rw[gz,az,az,iB]
   by_cases h1:n=fL
   ·have e1:(n==[76,105,115,116])=true:=by simpa using h1
    simp(disch:=omega)only[aP,aa,simprocAttr,e1,hk,bc,if_pos h1]
   ·have e1:(n==[76,105,115,116])=false:=by simpa using h1
    simp(disch:=omega)only[aP,aa,simprocAttr,e1,bc,if_neg h1]
theorem jV(s:bq):(cA s).length<=3:=by unfold cA;split<;>simp
theorem kV:∀ (h:Nat) (w:Wd),wi h w->(dh w).length<=3*h+3
 | 0,.mk n ks,hw=>by
  obtain⟨_,h2⟩:=hw
  simp only[Wd.kids] at h2
  subst h2
  unfold dh
  have:=jV n
  split
  ·simp
  ·omega
 | h+1,.mk n [],_=>by
  unfold dh
  have:=jV n
  split
  ·simp
  ·omega
 | h+1,.mk n [k],hw=>by
  have hk:=kV h k (hw.2.2 k (by simp[Wd.kids]))
  have:=jV n
  unfold dh
  split
  ·simp only[List.length_append,an5,an6];omega
  ·split
   ·simp
   ·omega
 | h+1,.mk n (a :: b :: r),hw=>by
  have:=hw.2.1
  simp[Wd.kids] at this
theorem DB:∀ (h:Nat) (w:Wd) (H:ah),h<=1000->wi h w->bc w=true->aD A 38 [.agg (gz w)] H=some (.slice (strs (dh w)) true,none):=by
 have leaf:∀ (n:bq) (H:ah),n.length<=20->bc (.mk n [])=true->aD A 38 [.agg (gz (.mk n []))] H=some (.slice (strs (dh (.mk n []))) true,none):=by
  intro n H hn hp
  have hq:=rY n H (by omega)
  have h1:n≠fL:=fun e=>by subst e;simp[bc] at hp
  have e1:(n==[76,105,115,116])=false:=by simpa using h1
  refine aB (fn:=Jw) rfl rfl rfl ?_
  unfold Jw
  rw[gz,az]
  by_cases h2:n=xe
  ·have e2:(n==[73,110,116])=true:=by simpa using h2
   simp(disch:=omega)only[aP,aa,simprocAttr,e1,e2,dh,if_pos (Or.inl h2),strs,aoh,aol]
  have e2:(n==[73,110,116])=false:=by simpa using h2
  by_cases h3:n=qm
  ·have e3:(n==[66,111,111,108])=true:=by simpa using h3
   simp(disch:=omega)only[aP,aa,simprocAttr,e1,e2,e3,dh,if_pos (Or.inr h3),strs,aoh,aol]
  have e3:(n==[66,111,111,108])=false:=by simpa using h3
  simp(disch:=omega)only[aP,aa,simprocAttr,e1,e2,e3,hq,dh,if_neg (show ¬ (n=xe\/n=qm) from fun h=>h.elim h2 h3)]
 intro h
 induction h with
 | zero =>
  intro w H _ hw hp
  obtain⟨n,ks⟩:=w
  obtain⟨h1,h2⟩:=hw
  simp only[Wd.kids,Wd.name] at h1 h2
  subst h2
  exact leaf n H h1 hp
 | succ h ih =>
  intro w H hh hw hp
  obtain⟨n,ks⟩:=w
  obtain⟨h1,h2,h3⟩:=hw
  simp only[Wd.kids,Wd.name] at h1 h2 h3
  match ks,h2,h3,hp with
  | [],_,_,hp=>exact leaf n H h1 hp
  | [k],_,h3,hp =>
   have hl:n=fL:=by
    unfold bc at hp
    split at hp
    ·assumption
    ·cases hp
   have mH:bc k=true:=by
    unfold bc at hp
    rwa [if_pos hl] at hp
   have hk:=ih k H (by omega) (h3 k (by simp)) mH
   have hlen:=kV h k (h3 k (by simp))
   rw[iB] at hk
   have a1:aC false 1 16 (.slice [[.str [76,105,115,116]],[.str [40]]] true) (.slice (strs (dh k)) true)=some (.slice (strs ([fL,[40]]++dh k)) true):=cb (l:=[fL,[40]]) (by simp;omega)
   have a2:aC false 1 16 (.slice (strs ([fL,[40]]++dh k)) true) (.slice [[.str [41]]] true)=some (.slice (strs ([fL,[40]]++dh k++[[41]])) true):=fj (by simp;omega)
   have hw:dh (.mk n [k])=[fL,[40]]++dh k++[[41]]:=by rw[dh,if_pos hl]
   generalize [fL,[40]]++dh k=l1 at a1 a2 hw
   have e1:(n==[76,105,115,116])=true:=by simpa using hl
   refine aB (fn:=Jw) rfl rfl rfl ?_
   unfold Jw
   rw[gz,az,az,iB]
   simp(disch:=omega)only[aP,aa,simprocAttr,e1,hk,a1,a2,hw]
theorem Sw{x:Int}(h0:¬ x<0)(h1:¬ 11<x):x=0\/x=1\/x=2\/x=3\/x=4\/x=5\/x=6\/x=7\/x=8\/x=9\/x=10\/x=11:=by omega
theorem Ds(n:Int)(H:ah):aD A 74 [.int .i64 n] H=some (.tuple [.str (dF n).1,.int .i64 (dF n).2],none):=by
 refine aB (fn:=Q8) rfl rfl rfl ?_
 unfold Q8
 by_cases h0:n<0
 ·have e:dF n=([],0):=by unfold dF;rw[if_pos (Or.inl h0)]
  simp(disch:=omega)only[aP,aa,simprocAttr,h0,e]
 by_cases h1:11<n
 ·have e:dF n=([],0):=by unfold dF;rw[if_pos (Or.inr h1)]
  simp(disch:=omega)only[aP,aa,simprocAttr,h0,h1,e]
 rcases Sw h0 h1 with rfl|rfl|rfl|rfl|rfl|rfl|rfl|rfl|rfl|rfl|rfl|rfl
 all_goals
  simp(disch:=omega)only[aP,aa,simprocAttr]
  rfl
def dL(t:Tm):Int:=if t.kind=5\/t.kind=6\/t.kind=12 then 0 else if t.kind=4 then (dF t.n).2 else 8
theorem V4(t:Tm)(H:ah):aD A 112 [.agg (cE t)] H=some (.int .i64 (dL t),none):=by
 have hs:=Ds t.n H
 refine aB (fn:=Gf) rfl rfl rfl ?_
 unfold Gf
 rw[an]
 by_cases h5:t.kind=5
 ·simp(disch:=omega)only[aP,aa,simprocAttr,h5,dL,true_or,apB]
 by_cases h6:t.kind=6
 ·simp(disch:=omega)only[aP,aa,simprocAttr,h5,h6,dL,true_or,or_true,apB]
 by_cases Ys:t.kind=12
 ·simp(disch:=omega)only[aP,aa,simprocAttr,h5,h6,Ys,dL,true_or,or_true,apB]
 have hn:¬ (t.kind=5\/t.kind=6\/t.kind=12):=by omega
 by_cases h4:t.kind=4
 ·have e:dL t=(dF t.n).2:=by unfold dL;rw[if_neg hn,if_pos h4]
  simp(disch:=omega)only[aP,aa,simprocAttr,h4,hs,e]
 ·have e:dL t=8:=by unfold dL;rw[if_neg hn,if_neg h4]
  simp(disch:=omega)only[aP,aa,simprocAttr,h5,h6,Ys,h4,e]
def bF(k n:Int)(len:Nat):Int × Int :=
 if k=0\/k=1\/k=2 then (0,0) else if k=3\/k=11 then (-1,0)
 else if k=4 then (if (dF n).1=[] then (-2,0) else if (dF n).2=7 then (1,0) else (2,0))
 else if k=5 then (3,0) else if k=6 then (2,1) else if k=7 then (-1,len) else if k=8\/k=9 then (1,0)
 else if k=10 then (if len<2 then (-2,0) else (-1,2*((len:Int)-1))) else if k=12 then (3,2) else (-2,0)
theorem tv(k:Int):k=0\/k=1\/k=2\/k=3\/k=4\/k=5\/k=6\/k=7\/k=8\/k=9\/k=10\/k=11\/k=12\/(k<0\/12<k):=by omega
theorem Oi(t:Tm)(H:ah)(hl:t.kids.length<=1000):aD A 110 [.agg (cE t)] H=some (.tuple [.int .i64 (bF t.kind t.n t.kids.length).1,.int .i64 (bF t.kind t.n t.kids.length).2],none):=by
 have hs:=Ds t.n H
 refine aB (fn:=Gd) rfl rfl rfl ?_
 unfold Gd
 rw[an]
 rcases tv t.kind with h|h|h|h|h|h|h|h|h|h|h|h|h|h
 ·rw[h];simp(disch:=omega)only[aP,aa,simprocAttr,bB];rfl
 ·rw[h];simp(disch:=omega)only[aP,aa,simprocAttr,bB];rfl
 ·rw[h];simp(disch:=omega)only[aP,aa,simprocAttr,bB];rfl
 ·rw[h];simp(disch:=omega)only[aP,aa,simprocAttr,bB];rfl
 ·rw[h]
  by_cases h1:(dF t.n).1=[]
  ·have e1:((dF t.n).1==[])=true:=by rw[h1];rfl
   have e:bF 4 t.n t.kids.length=(-2,0):=by simp[bF,h1]
   rw[e]
   simp(disch:=omega)only[aP,aa,simprocAttr,bB,hs,e1]
  ·have e1:((dF t.n).1==[])=false:=by simpa using h1
   by_cases h2:(dF t.n).2=7
   ·have e:bF 4 t.n t.kids.length=(1,0):=by simp[bF,h1,h2]
    rw[e]
    simp(disch:=omega)only[aP,aa,simprocAttr,bB,hs,e1,h2]
   ·have e:bF 4 t.n t.kids.length=(2,0):=by simp[bF,h1,h2]
    rw[e]
    simp(disch:=omega)only[aP,aa,simprocAttr,bB,hs,e1,h2]
 ·rw[h];simp(disch:=omega)only[aP,aa,simprocAttr,bB];rfl
 ·rw[h];simp(disch:=omega)only[aP,aa,simprocAttr,bB];rfl
 ·rw[h];simp(disch:=omega)only[aP,aa,simprocAttr,bB];rfl
 ·rw[h];simp(disch:=omega)only[aP,aa,simprocAttr,bB];rfl
 ·rw[h];simp(disch:=omega)only[aP,aa,simprocAttr,bB];rfl
 ·rw[h]
  by_cases h1:t.kids.length<2
  ·have e:bF 10 t.n t.kids.length=(-2,0):=by simp[bF,h1]
   rw[e]
   simp(disch:=omega)only[aP,aa,simprocAttr,bB]
  ·have e:bF 10 t.n t.kids.length=(-1,2*((t.kids.length:Int)-1)):=by simp[bF,h1]
   rw[e]
   simp(disch:=omega)only[aP,aa,simprocAttr,bB]
 ·rw[h];simp(disch:=omega)only[aP,aa,simprocAttr,bB];rfl
 ·rw[h];simp(disch:=omega)only[aP,aa,simprocAttr,bB];rfl
 ·have e:bF t.kind t.n t.kids.length=(-2,0):=by
   unfold bF
   repeat rw[if_neg (by omega)]
  rw[e]
  simp(disch:=omega)only[aP,aa,simprocAttr,bB]
theorem OX{j:Nat}(h:j<8):∃ s:bq,s.length<=7 /\
  ([[.str []],[.str [32]],[.str [10]],[.str [32,32]],[.str [35,32,97,32,40,98,10]],[.str [32,35,10,32]],[.str [10,10]],[.str [35,255,35,32,49,10]]]:List (List AV))[j]?=some [.str s]:=by
 have hj:j=0\/j=1\/j=2\/j=3\/j=4\/j=5\/j=6\/j=7:=by omega
 rcases hj with rfl|rfl|rfl|rfl|rfl|rfl|rfl|rfl<;>exact⟨_,by decide,rfl⟩
theorem afD{x:Int}(h0:0<=x)(h1:x<8):∃ j:Nat,j<8/\x=j:=⟨x.toNat,by omega,by omega⟩
theorem Yq(n k:Int)(H:ah)(hn:zO n):∃ s:bq,s.length<=20/\aD A 16 [.int .i64 n,.int .i64 k] H=some (.str s,none):=by
 have hr:=fT (n:=n) (k:=1000000) (by omega)
 have ha:=j7 n 1000000 H hn (by omega)
 generalize lJ n 1000000=x at hr ha
 obtain⟨i,hi,ei⟩:=afD (x:=x % 8) (by omega) (by omega)
 obtain⟨j,hj,ej⟩:=afD (x:=x / 8 % 8) (by omega) (by omega)
 obtain⟨s,hs,ats⟩:=OX hi
 obtain⟨u,hu,atu⟩:=OX hj
 have key:∃ r,aD A 16 [.int .i64 n,.int .i64 k] H=some r/\∃ s:bq,s.length<=20/\r=(.str s,none):=by
  refine xR (fn:=QH) rfl rfl rfl ?_
  unfold QH
  by_cases h3:x % 3=0
  ·obtain⟨v,hv⟩:∃ v,v=s++u:=⟨_,rfl⟩
   have hvl:v.length<=14:=by rw[hv];simp;omega
   cases hb:(v==[]) with
   | false =>
    rw[hv] at hb
    simp(disch:=omega)only[aP,aa,simprocAttr,ha,gp,qa,ei,ej,ats,atu,h3,hb]
    exact⟨_,by rw[<- hv];omega,rfl⟩
   | true =>
    rw[hv] at hb
    by_cases hk:k=0
    ·simp(disch:=omega)only[aP,aa,simprocAttr,ha,gp,qa,ei,ej,ats,atu,h3,hb,hk]
     exact⟨_,by rw[<- hv];omega,rfl⟩
    ·simp(disch:=omega)only[aP,aa,simprocAttr,ha,gp,qa,ei,ej,ats,atu,h3,hb,hk]
     exact⟨[32],by decide,rfl⟩
  ·cases hb:(s==[]) with
   | false =>
    simp(disch:=omega)only[aP,aa,simprocAttr,ha,gp,qa,ei,ej,ats,atu,h3,hb]
    exact⟨s,by omega,rfl⟩
   | true =>
    by_cases hk:k=0
    ·simp(disch:=omega)only[aP,aa,simprocAttr,ha,gp,qa,ei,ej,ats,atu,h3,hb,hk]
     exact⟨s,by omega,rfl⟩
    ·simp(disch:=omega)only[aP,aa,simprocAttr,ha,gp,qa,ei,ej,ats,atu,h3,hb,hk]
     exact⟨[32],by decide,rfl⟩
 obtain⟨r,h1,s,h2,rfl⟩:=key
 exact⟨s,h2,h1⟩
theorem ZN{j:Nat}(h:j<4):∃ s:bq,s.length<=20/\([[.str [10]],[.str [32,10]],[.str [35,32,120,10]],[.str [32,32,35,32,121,32,40,10]]]:List (List AV))[j]?=some [.str s]:=by
 have hj:j=0\/j=1\/j=2\/j=3:=by omega
 rcases hj with rfl|rfl|rfl|rfl<;>exact⟨_,by decide,rfl⟩
theorem Bb{x:Int}(h0:0<=x)(h1:x<1000000):zO x:=⟨by omega,by omega⟩
theorem Rw{c:Cc}{p:Int}{H:ah}(h:CH c p H)(n:Nat)(hn:n<=100000)(b:bq)(hb:b.length<=20) :
  ∃ (out:List bq) (p' : Int),out.length<=n+2/\(∀ s∈out,s.length<=20)/\aD A 15 [.ref c.mm 0,.int .i64 n,.str b] H=some (.slice (strs out) true,some ⟨cP c p' H,c.mm⟩):=by
 have key:∃ r,aD A 15 [.ref c.mm 0,.int .i64 n,.str b] H=some r/\∃ (out:List bq) (p' : Int),out.length<=n+2/\(∀ s∈out,s.length<=20)/\r=(.slice (strs out) true,some ⟨cP c p' H,c.mm⟩):=by
  have bf:=h.lt
  refine mR (fn:=Qu) rfl rfl rfl rfl ?_
  unfold Qu
  simp(disch:=omega)only[aP,aa,simprocAttr]
  refine bM (n-1) 0 (fun i s=>∃ T G lo p3 acc,s=⟨T,G,lo,0⟩/\(G=H/\lo=H.length/\i=0\/G=cP c p3 H/\lo=c.mm)/\T 0=.ref c.mm 0/\T 1=.int .i64 n/\T 7=.slice (strs acc) true/\T 8=.int .i64 (i+1)/\acc.length=i+1/\∀ s∈acc,s.length<=20)
   (fun s=>∃ T G lo p3 acc,s=⟨T,G,lo,0⟩/\(G=H/\lo=H.length\/G=cP c p3 H/\lo=c.mm)/\T 0=.ref c.mm 0/\T 7=.slice (strs acc) true/\acc.length<=n+1/\∀ s∈acc,s.length<=20) (fun _=>False) ?_ ?_ (fun _ h=>h.elim) 0 _ (by omega) ?_
  ·rintro i s hi ⟨T,G,lo,p3,acc,rfl,hG,e0,e1,e7,e8,hl,hbd⟩
   by_cases hc:i+1<n
   ·have fl:∃ x p4,0<=x/\x<1000/\aD A 14 [.ref c.mm 0,.int .i64 1000] G=some (.int .i64 x,some ⟨cP c p4 H,c.mm⟩):=by
     rcases hG with ⟨rfl,rfl,rfl⟩|⟨rfl,rfl⟩
     ·exact kQ h 1000 (by omega)
     ·obtain⟨x,p4,x0,x1,hx⟩:=kQ (h.set (p':=p3)) 1000 (by omega)
      rw[bd] at hx
      exact⟨x,p4,x0,x1,hx⟩
    obtain⟨x,p4,x0,x1,fl⟩:=fl
    obtain⟨g,hg,aif⟩:=Yq x 1 (cP c p4 H) (Bb x0 (by omega))
    have F2:aC false 1 16 (.slice (strs acc) true) (.slice [[.str g]] true)=some (.slice (strs (acc++[g])) true):=fj (by omega)
    have qp:(bif decide (c.mm<lo) then c.mm else lo)=c.mm:=by
     rcases hG with ⟨_,rfl,_⟩|⟨_,rfl⟩
     ·rw[decide_eq_true bf];rfl
     ·simp
    simp(disch:=omega)only[aP,aa,simprocAttr,e0,e1,e7,e8,fl,aif,F2,qp]
    refine⟨by omega,_,_,_,p4,acc++[g],rfl,.inr ⟨rfl,rfl⟩,by simp(disch:=omega)only[aN,aa,simprocAttr,e0],by simp(disch:=omega)only[aN,aa,simprocAttr,e1],by simp(disch:=omega)only[aN,aa,simprocAttr],by simp(disch:=omega)only[aN,aa,simprocAttr],by simp[hl],fun u hu=>?_⟩
    rcases aog.1 hu with hu|hu
    ·exact hbd u hu
    ·rw[aos.1 hu];omega
   ·simp(disch:=omega)only[aP,aa,simprocAttr,e0,e1,e7,e8]
    refine⟨_,G,lo,p3,acc,rfl,?_,e0,e7,by omega,hbd⟩
    rcases hG with ⟨h1,h2,_⟩|h1
    ·exact .inl ⟨h1,h2⟩
    ·exact .inr h1
  ·rintro s ⟨T,G,lo,p3,acc,rfl,hG,e0,e7,hl,hbd⟩
   have fl:∃ x p4,0<=x/\x<4/\aD A 14 [.ref c.mm 0,.int .i64 4] G=some (.int .i64 x,some ⟨cP c p4 H,c.mm⟩):=by
    rcases hG with ⟨rfl,rfl⟩|⟨rfl,rfl⟩
    ·exact kQ h 4 (by omega)
    ·obtain⟨x,p4,x0,x1,hx⟩:=kQ (h.set (p':=p3)) 4 (by omega)
     rw[bd] at hx
     exact⟨x,p4,x0,x1,hx⟩
   obtain⟨x,p4,x0,x1,fl⟩:=fl
   obtain⟨j,hj,rfl⟩:∃ j:Nat,j<4/\x=j:=⟨x.toNat,by omega,by omega⟩
   obtain⟨e,he,ate⟩:=ZN hj
   have F2:aC false 1 16 (.slice (strs acc) true) (.slice [[.str e]] true)=some (.slice (strs (acc++[e])) true):=fj (by omega)
   have qp:(bif decide (c.mm<lo) then c.mm else lo)=c.mm:=by
    rcases hG with ⟨_,rfl⟩|⟨_,rfl⟩
    ·rw[decide_eq_true bf];rfl
    ·simp
   have dB:=h.iz (p':=p4)
   simp(disch:=omega)only[aP,aa,simprocAttr,e0,e7,fl,ate,F2,qp,dB,a7,bp,abL]
   refine⟨acc++[e],p4,by simp[hl],fun u hu=>?_,rfl,rfl⟩
   rcases aog.1 hu with hu|hu
   ·exact hbd u hu
   ·rw[aos.1 hu];exact he
  ·refine⟨_,H,H.length,0,[b],rfl,.inl ⟨rfl,rfl,rfl⟩,?_⟩
   simp(disch:=omega)only[aN,aa,simprocAttr,strs,aoh,aol]
   exact fun s hs=>by rw[aos.1 hs];exact hb
 obtain⟨r,h1,out,p',h2,h3,rfl⟩:=key
 exact⟨out,p',h2,h3,h1⟩
def iJ(k:Int):Bool:=decide (k=3\/k=7\/k=8\/k=9\/k=10)
def mb(c1 c2 l m:Int)(w:Bool):Bool:=decide (c1=-2) || decide (0<=c1/\l≠c1) || decide (m≠c2) || !w
def oS(t:Tm):Bool:=mb (bF t.kind t.n t.kids.length).1 (bF t.kind t.n t.kids.length).2 t.kids.length t.names.length (t.names.all isWord)
def pI(t:Tm):Bool:=bif iJ t.kind then !(cD t.name) else bif decide (t.kind=2) then !(isWord t.name) else decide (t.name≠[])
def pJ(t:Tm):Bool:=bif decide (t.kind=8\/t.kind=9) then !(isWord t.field) else decide (t.field≠[])
def oT(t:Tm):Bool:=bif decide (t.kind=11) then !(bc (.mk t.wn t.wk)) else (decide (t.wn≠[]) || decide (0<t.wk.length))
def oU(t:Tm):Bool:=bif decide (t.kind=0) then decide (t.n < -1099511627776\/1099511627776<t.n) else bif decide (t.kind=1) then decide (t.n≠0/\t.n≠1) else false
def pK(t:Tm):Bool:=decide (t.kind≠0/\t.kind≠1/\t.kind≠4/\t.n≠0)
def mr(t:Tm):Bool:=!(oS t || pI t || pJ t || oT t || oU t || pK t)
mutual
def ai:Tm->Bool
 | .mk k n a f wn wk ks ns=>mr (.mk k n a f wn wk ks ns)&&pq ks
def pq:List Tm->Bool
 | []=>true
 | t :: r=>ai t&&pq r
end
theorem fe(t:Tm):ai t=(mr t&&pq t.kids):=by cases t;rw[ai,Tm.kids]
theorem dp:∀ l:List Tm,pq l=l.all ai
 | []=>by simp[pq]
 | t :: r=>by simp[pq,dp r]
structure u9 (h:Nat) (t:Tm):Prop where
 n:-2199023255552<=t.n/\t.n<=2199023255552
 k:-100<=t.kind/\t.kind<=100
 a:t.name.length<=20
 f:t.field.length<=20
 w:wi 3 (.mk t.wn t.wk)
 kl:t.kids.length<=3
 kb:∀ u∈t.kids,Lp h u
 nl:t.names.length<=8
 nb:∀ s∈t.names,s.length<=20
theorem Lp.out{h:Nat}{t:Tm}(hb:Lp (h+1) t):u9 h t:=by
 cases hb with
 | mk h k n a f wn wk ks ns h1 hk h2 h3 h4 h5 h6=>exact⟨h1,hk,h2.1,h2.2,h3,h4,h5,h6.1,h6.2⟩
def DN(t:Tm)(H:ah)(s:AS):Prop:=∃ T,s=⟨T,H,H.length,1⟩/\T 1=.lbox 0 [.int .i64 t.kind,.int .i64 t.n,.str t.name,.str t.field,.str t.wn,.slice (az t.wk) false,.slice (au t.kids) false,.slice (strs t.names) false]
abbrev iP(H:ah)(b:Bool):bP->AS->Prop:=done H.length [.tmp 2] (.bool b,none)
theorem agu{t:Tm}{h:Nat}(hb:u9 h t){H:ah}(hf:oS t=true->ai t=false) :
  W A (re.body.pre 2) { T:=gu [.agg (cE t)],H,lo:=H.length,gen:=0 } (andThen (fun s'=>DN t H s'/\oS t=false) (iP H (ai t))):=by
 have hc:=Oi t H (by have:=hb.kl;omega)
 have hn:=GY t.names H (by have:=hb.nl;omega) (fun s hs=>by have:=hb.nb s hs;omega)
 unfold oS at hf ⊢
 unfold DN
 rw[an] at hc ⊢
 generalize ai t=pr at hf ⊢
 generalize (bF t.kind t.n t.kids.length).1=c1 at hc hf ⊢
 generalize (bF t.kind t.n t.kids.length).2=c2 at hc hf ⊢
 generalize t.names.all isWord=aw at hn hf ⊢
 have mV:=hb.kl
 have qk:=hb.nl
 unfold re
 simp only[aY.pre]
 unfold mb at hf ⊢
 by_cases a1:c1=-2
 ·have e:=hf (by simp[a1])
  simp(disch:=omega)only[aP,aa,simprocAttr,hc,a1,e,iP]
 by_cases a2:0<=c1
 ·by_cases a3:(t.kids.length:Int)=c1
  ·by_cases a4:(t.names.length:Int)=c2
   ·cases aw with
    | false =>
     have e:=hf (by simp)
     simp(disch:=omega)only[aP,aa,simprocAttr,hc,bB,aW,a3,a4,hn,e,iP]
    | true =>
     simp(disch:=omega)only[aP,aa,simprocAttr,hc,bB,aW,a3,a4,hn,iP]
     exact⟨⟨_,rfl,by simp(disch:=omega)only[aN,aa,simprocAttr]⟩,by simp[a1,a3,a4]⟩
   ·have e:=hf (by simp[a4])
    simp(disch:=omega)only[aP,aa,simprocAttr,hc,bB,aW,a3,a4,e,iP]
  ·have e:=hf (by simp[a2,a3])
   simp(disch:=omega)only[aP,aa,simprocAttr,hc,bB,aW,a3,e,iP]
 ·by_cases a4:(t.names.length:Int)=c2
  ·cases aw with
   | false =>
    have e:=hf (by simp)
    simp(disch:=omega)only[aP,aa,simprocAttr,hc,bB,aW,a2,a4,hn,e,iP]
   | true =>
    simp(disch:=omega)only[aP,aa,simprocAttr,hc,bB,aW,a2,a4,hn,iP]
    exact⟨⟨_,rfl,by simp(disch:=omega)only[aN,aa,simprocAttr]⟩,by simp[a1,a2,a4]⟩
  ·have e:=hf (by simp[a4])
   simp(disch:=omega)only[aP,aa,simprocAttr,hc,bB,aW,a2,a4,e,iP]
theorem agv{t:Tm}{h:Nat}(hb:u9 h t){H:ah}(hf:pI t=true->ai t=false)(s:AS)(hs:DN t H s) :
  W A ((re.body.post 2).pre 1) s (andThen (fun s'=>DN t H s'/\pI t=false) (iP H (ai t))):=by
 obtain⟨T,rfl,e1⟩:=hs
 unfold pI at hf ⊢
 unfold DN
 generalize ai t=pr at hf ⊢
 have hq:=RY t.name H (by have:=hb.a;omega)
 have hw:=oA t.name H (by have:=hb.a;omega)
 generalize cD t.name=q at hq hf ⊢
 generalize isWord t.name=w at hw hf ⊢
 unfold re
 simp only[aY.pre,aY.post]
 by_cases ty:t.kind=3\/t.kind=7\/t.kind=8\/t.kind=9\/t.kind=10
 ·have et:iJ t.kind=true:=decide_eq_true ty
  rw[et] at hf ⊢
  rcases ty with ty|ty|ty|ty|ty
  all_goals
   cases q with
   | false =>
    have e:=hf rfl
    simp(disch:=omega)only[aP,aa,simprocAttr,e1,ty,hq,e,iP]
   | true =>
    simp(disch:=omega)only[aP,aa,simprocAttr,e1,ty,hq,iP]
    exact⟨_,rfl,by first|(simp(disch:=omega)only[aN,aa,simprocAttr,e1];done)|(simp(disch:=omega)only[aN,aa,simprocAttr,e1,ty];done)|(simp(disch:=omega)only[aN,aa,simprocAttr,e1,k2];done)|(simp(disch:=omega)only[aN,aa,simprocAttr,e1,k0];done)|(simp(disch:=omega)only[aN,aa,simprocAttr,e1,k1];done)|(simp(disch:=omega)only[aN,aa,simprocAttr,e1,kk];done)⟩
 ·have et:iJ t.kind=false:=ao1 ty
  rw[et] at hf ⊢
  by_cases k2:t.kind=2
  ·rw[decide_eq_true k2] at hf ⊢
   cases w with
   | false =>
    have e:=hf rfl
    simp(disch:=omega)only[aP,aa,simprocAttr,e1,k2,hw,e,iP]
   | true =>
    simp(disch:=omega)only[aP,aa,simprocAttr,e1,k2,hw,iP]
    exact⟨_,rfl,by first|(simp(disch:=omega)only[aN,aa,simprocAttr,e1];done)|(simp(disch:=omega)only[aN,aa,simprocAttr,e1,ty];done)|(simp(disch:=omega)only[aN,aa,simprocAttr,e1,k2];done)|(simp(disch:=omega)only[aN,aa,simprocAttr,e1,k0];done)|(simp(disch:=omega)only[aN,aa,simprocAttr,e1,k1];done)|(simp(disch:=omega)only[aN,aa,simprocAttr,e1,kk];done)⟩
  ·rw[ao1 k2] at hf ⊢
   by_cases na:t.name=[]
   ·have en:(t.name==[])=true:=by rw[na];rfl
    simp(disch:=omega)only[aP,aa,simprocAttr,e1,k2,en,bne,iP]
    exact⟨⟨_,rfl,by first|(simp(disch:=omega)only[aN,aa,simprocAttr,e1];done)|(simp(disch:=omega)only[aN,aa,simprocAttr,e1,ty];done)|(simp(disch:=omega)only[aN,aa,simprocAttr,e1,k2];done)|(simp(disch:=omega)only[aN,aa,simprocAttr,e1,k0];done)|(simp(disch:=omega)only[aN,aa,simprocAttr,e1,k1];done)|(simp(disch:=omega)only[aN,aa,simprocAttr,e1,kk];done)⟩,by simp[na]⟩
   ·have en:(t.name==[])=false:=by simpa using na
    have e:=hf (by simp[na])
    simp(disch:=omega)only[aP,aa,simprocAttr,e1,k2,en,bne,e,iP]
theorem agw{t:Tm}{h:Nat}(hb:u9 h t){H:ah}(hf:pJ t=true->ai t=false)(s:AS)(hs:DN t H s) :
  W A (((re.body.post 2).post 1).pre 1) s (andThen (fun s'=>DN t H s'/\pJ t=false) (iP H (ai t))):=by
 obtain⟨T,rfl,e1⟩:=hs
 unfold pJ at hf ⊢
 unfold DN
 generalize ai t=pr at hf ⊢
 have hw:=oA t.field H (by have:=hb.f;omega)
 generalize isWord t.field=w at hw hf ⊢
 unfold re
 simp only[aY.pre,aY.post]
 by_cases ty:t.kind=8\/t.kind=9
 ·rw[decide_eq_true ty] at hf ⊢
  rcases ty with ty|ty
  all_goals
   cases w with
   | false =>
    have e:=hf rfl
    simp(disch:=omega)only[aP,aa,simprocAttr,e1,ty,hw,e,iP]
   | true =>
    simp(disch:=omega)only[aP,aa,simprocAttr,e1,ty,hw,iP]
    exact⟨_,rfl,by first|(simp(disch:=omega)only[aN,aa,simprocAttr,e1];done)|(simp(disch:=omega)only[aN,aa,simprocAttr,e1,ty];done)|(simp(disch:=omega)only[aN,aa,simprocAttr,e1,k2];done)|(simp(disch:=omega)only[aN,aa,simprocAttr,e1,k0];done)|(simp(disch:=omega)only[aN,aa,simprocAttr,e1,k1];done)|(simp(disch:=omega)only[aN,aa,simprocAttr,e1,kk];done)⟩
 ·rw[ao1 ty] at hf ⊢
  by_cases na:t.field=[]
  ·have en:(t.field==[])=true:=by rw[na];rfl
   simp(disch:=omega)only[aP,aa,simprocAttr,e1,en,bne,iP]
   exact⟨⟨_,rfl,by first|(simp(disch:=omega)only[aN,aa,simprocAttr,e1];done)|(simp(disch:=omega)only[aN,aa,simprocAttr,e1,ty];done)|(simp(disch:=omega)only[aN,aa,simprocAttr,e1,k2];done)|(simp(disch:=omega)only[aN,aa,simprocAttr,e1,k0];done)|(simp(disch:=omega)only[aN,aa,simprocAttr,e1,k1];done)|(simp(disch:=omega)only[aN,aa,simprocAttr,e1,kk];done)⟩,by simp[na]⟩
  ·have en:(t.field==[])=false:=by simpa using na
   have e:=hf (by simp[na])
   simp(disch:=omega)only[aP,aa,simprocAttr,e1,en,bne,e,iP]
theorem agx{t:Tm}{h:Nat}(hb:u9 h t){H:ah}(hf:oT t=true->ai t=false)(s:AS)(hs:DN t H s) :
  W A ((((re.body.post 2).post 1).post 1).pre 0) s (andThen (fun s'=>DN t H s'/\oT t=false) (iP H (ai t))):=by
 obtain⟨T,rfl,e1⟩:=hs
 unfold oT at hf ⊢
 unfold DN
 generalize ai t=pr at hf ⊢
 have hw:aD A 68 [.agg [.str t.wn,.slice (az t.wk) false]] H=some (.bool (bc (.mk t.wn t.wk)),none):=by
  have:=vT 3 (.mk t.wn t.wk) H hb.w
  rwa [gz] at this
 have hwk:t.wk.length<=1:=hb.w.2.1
 generalize bc (.mk t.wn t.wk)=w at hw hf ⊢
 unfold re
 simp only[aY.pre,aY.post]
 by_cases ty:t.kind=11
 ·rw[decide_eq_true ty] at hf ⊢
  cases w with
  | false =>
   have e:=hf rfl
   simp(disch:=omega)only[aP,aa,simprocAttr,e1,ty,hw,e,iP]
  | true =>
   simp(disch:=omega)only[aP,aa,simprocAttr,e1,ty,hw,iP]
   exact⟨_,rfl,by first|(simp(disch:=omega)only[aN,aa,simprocAttr,e1];done)|(simp(disch:=omega)only[aN,aa,simprocAttr,e1,ty];done)|(simp(disch:=omega)only[aN,aa,simprocAttr,e1,k2];done)|(simp(disch:=omega)only[aN,aa,simprocAttr,e1,k0];done)|(simp(disch:=omega)only[aN,aa,simprocAttr,e1,k1];done)|(simp(disch:=omega)only[aN,aa,simprocAttr,e1,kk];done)⟩
 ·rw[ao1 ty] at hf ⊢
  by_cases na:t.wn=[]
  ·have en:(t.wn==[])=true:=by rw[na];rfl
   by_cases nk:0<t.wk.length
   ·have e:=hf (by simp[nk])
    simp(disch:=omega)only[aP,aa,simprocAttr,e1,ty,en,bne,dj,e,iP]
   ·simp(disch:=omega)only[aP,aa,simprocAttr,e1,ty,en,bne,dj,iP]
    exact⟨⟨_,rfl,by first|(simp(disch:=omega)only[aN,aa,simprocAttr,e1];done)|(simp(disch:=omega)only[aN,aa,simprocAttr,e1,ty];done)|(simp(disch:=omega)only[aN,aa,simprocAttr,e1,k2];done)|(simp(disch:=omega)only[aN,aa,simprocAttr,e1,k0];done)|(simp(disch:=omega)only[aN,aa,simprocAttr,e1,k1];done)|(simp(disch:=omega)only[aN,aa,simprocAttr,e1,kk];done)⟩,by simp[na,nk]⟩
  ·have en:(t.wn==[])=false:=by simpa using na
   have e:=hf (by simp[na])
   simp(disch:=omega)only[aP,aa,simprocAttr,e1,ty,en,bne,e,iP]
theorem agy{t:Tm}{h:Nat}(hb:u9 h t){H:ah}(hf:oU t=true->ai t=false)(s:AS)(hs:DN t H s) :
  W A (((((re.body.post 2).post 1).post 1).post 0).pre 0) s (andThen (fun s'=>DN t H s'/\oU t=false) (iP H (ai t))):=by
 obtain⟨T,rfl,e1⟩:=hs
 unfold oU at hf ⊢
 unfold DN
 generalize ai t=pr at hf ⊢
 have hn:=hb.n
 unfold re
 simp only[aY.pre,aY.post]
 by_cases k0:t.kind=0
 ·rw[decide_eq_true k0] at hf ⊢
  by_cases a1:t.n < -1099511627776
  ·have e:=hf (by simp[a1])
   simp(disch:=omega)only[aP,aa,simprocAttr,e1,k0,e,iP]
  by_cases a2:1099511627776<t.n
  ·have e:=hf (by simp[a2])
   simp(disch:=omega)only[aP,aa,simprocAttr,e1,k0,e,iP]
  ·simp(disch:=omega)only[aP,aa,simprocAttr,e1,k0,iP]
   exact⟨⟨_,rfl,by first|(simp(disch:=omega)only[aN,aa,simprocAttr,e1];done)|(simp(disch:=omega)only[aN,aa,simprocAttr,e1,ty];done)|(simp(disch:=omega)only[aN,aa,simprocAttr,e1,k2];done)|(simp(disch:=omega)only[aN,aa,simprocAttr,e1,k0];done)|(simp(disch:=omega)only[aN,aa,simprocAttr,e1,k1];done)|(simp(disch:=omega)only[aN,aa,simprocAttr,e1,kk];done)⟩,by simp;omega⟩
 rw[ao1 k0] at hf ⊢
 by_cases k1:t.kind=1
 ·rw[decide_eq_true k1] at hf ⊢
  by_cases a0:t.n=0
  ·simp(disch:=omega)only[aP,aa,simprocAttr,e1,k1,iP]
   exact⟨⟨_,rfl,by first|(simp(disch:=omega)only[aN,aa,simprocAttr,e1];done)|(simp(disch:=omega)only[aN,aa,simprocAttr,e1,ty];done)|(simp(disch:=omega)only[aN,aa,simprocAttr,e1,k2];done)|(simp(disch:=omega)only[aN,aa,simprocAttr,e1,k0];done)|(simp(disch:=omega)only[aN,aa,simprocAttr,e1,k1];done)|(simp(disch:=omega)only[aN,aa,simprocAttr,e1,kk];done)⟩,by simp[a0]⟩
  by_cases a1:t.n=1
  ·simp(disch:=omega)only[aP,aa,simprocAttr,e1,k1,iP]
   exact⟨⟨_,rfl,by first|(simp(disch:=omega)only[aN,aa,simprocAttr,e1];done)|(simp(disch:=omega)only[aN,aa,simprocAttr,e1,ty];done)|(simp(disch:=omega)only[aN,aa,simprocAttr,e1,k2];done)|(simp(disch:=omega)only[aN,aa,simprocAttr,e1,k0];done)|(simp(disch:=omega)only[aN,aa,simprocAttr,e1,k1];done)|(simp(disch:=omega)only[aN,aa,simprocAttr,e1,kk];done)⟩,by simp[a1]⟩
  ·have e:=hf (by simp[a0,a1])
   simp(disch:=omega)only[aP,aa,simprocAttr,e1,k1,e,iP]
 ·rw[ao1 k1] at hf ⊢
  simp(disch:=omega)only[aP,aa,simprocAttr,e1,k0,k1,iP]
  exact⟨_,rfl,by first|(simp(disch:=omega)only[aN,aa,simprocAttr,e1];done)|(simp(disch:=omega)only[aN,aa,simprocAttr,e1,ty];done)|(simp(disch:=omega)only[aN,aa,simprocAttr,e1,k2];done)|(simp(disch:=omega)only[aN,aa,simprocAttr,e1,k0];done)|(simp(disch:=omega)only[aN,aa,simprocAttr,e1,k1];done)|(simp(disch:=omega)only[aN,aa,simprocAttr,e1,kk];done)⟩
theorem agz{t:Tm}{h:Nat}(hb:u9 h t){H:ah}(hf:pK t=true->ai t=false)(s:AS)(hs:DN t H s) :
  W A ((((((re.body.post 2).post 1).post 1).post 0).post 0).pre 0) s (andThen (fun s'=>DN t H s'/\pK t=false) (iP H (ai t))):=by
 obtain⟨T,rfl,e1⟩:=hs
 unfold pK at hf ⊢
 unfold DN
 generalize ai t=pr at hf ⊢
 unfold re
 simp only[aY.pre,aY.post]
 by_cases kk:t.kind=0\/t.kind=1\/t.kind=4
 ·rcases kk with kk|kk|kk
  all_goals
   simp(disch:=omega)only[aP,aa,simprocAttr,e1,kk,iP]
   exact⟨⟨_,rfl,by first|(simp(disch:=omega)only[aN,aa,simprocAttr,e1];done)|(simp(disch:=omega)only[aN,aa,simprocAttr,e1,ty];done)|(simp(disch:=omega)only[aN,aa,simprocAttr,e1,k2];done)|(simp(disch:=omega)only[aN,aa,simprocAttr,e1,k0];done)|(simp(disch:=omega)only[aN,aa,simprocAttr,e1,k1];done)|(simp(disch:=omega)only[aN,aa,simprocAttr,e1,kk];done)⟩,by simp⟩
 ·by_cases a0:t.n=0
  ·simp(disch:=omega)only[aP,aa,simprocAttr,e1,iP]
   exact⟨⟨_,rfl,by first|(simp(disch:=omega)only[aN,aa,simprocAttr,e1];done)|(simp(disch:=omega)only[aN,aa,simprocAttr,e1,ty];done)|(simp(disch:=omega)only[aN,aa,simprocAttr,e1,k2];done)|(simp(disch:=omega)only[aN,aa,simprocAttr,e1,k0];done)|(simp(disch:=omega)only[aN,aa,simprocAttr,e1,k1];done)|(simp(disch:=omega)only[aN,aa,simprocAttr,e1,kk];done)⟩,by simp[a0]⟩
  ·have e:=hf (by simp[a0];omega)
   simp(disch:=omega)only[aP,aa,simprocAttr,e1,e,iP]
theorem lQ{t:Tm}(h:mr t=false):ai t=false:=by rw[fe,h,aoq]
theorem Bw:∀ (h:Nat) (t:Tm) (H:ah),Lp h t->aD A 70 [.agg (cE t)] H=some (.bool (ai t),none)
 | 0,t,H,hb=>by cases hb
 | h+1,t,H,hb=>by
  have ih:=Bw h
  have hF:=hb.out
  refine aB (fn:=re) rfl rfl rfl ?_
  refine fH 2 _ (agu hF fun hx=>lQ (by unfold mr;rw[hx];rfl)) ?_
  rintro s1 ⟨An,b1⟩
  refine fH 1 _ (agv hF (fun hx=>lQ (by unfold mr;rw[hx];simp)) s1 An) ?_
  rintro s2 ⟨Te,b2⟩
  refine fH 1 _ (agw hF (fun hx=>lQ (by unfold mr;rw[hx];simp)) s2 Te) ?_
  rintro s3 ⟨hs3,b3⟩
  refine fH 0 _ (agx hF (fun hx=>lQ (by unfold mr;rw[hx];simp)) s3 hs3) ?_
  rintro s4 ⟨hs4,b4⟩
  refine fH 0 _ (agy hF (fun hx=>lQ (by unfold mr;rw[hx];simp)) s4 hs4) ?_
  rintro s5 ⟨hs5,b5⟩
  refine fH 0 _ (agz hF (fun hx=>lQ (by unfold mr;rw[hx];simp)) s5 hs5) ?_
  rintro s6 ⟨⟨T,rfl,e1⟩,b6⟩
  have ho:mr t=true:=by unfold mr;rw[b1,b2,b3,b4,b5,b6];rfl
  have hp:ai t=t.kids.all ai:=by rw[fe,ho,aou,dp]
  rw[hp]
  have mV:=hF.kl
  unfold re
  simp only[aY.post]
  simp(disch:=omega)only[aP,aa,simprocAttr]
  refine bM t.kids.length 0 (fun i s=>∃ T,s=⟨T,H,H.length,1⟩/\T 1=.lbox 0 [.int .i64 t.kind,.int .i64 t.n,.str t.name,.str t.field,.str t.wn,.slice (az t.wk) false,.slice (au t.kids) false,.slice (strs t.names) false]/\T 7=.int .i64 i/\t.kids.all ai=(t.kids.drop i).all ai)
   (fun s=>∃ T,s=⟨T,H,H.length,1⟩/\t.kids.all ai=true) (fun s=>∃ T,s=⟨T,H,H.length,1⟩/\T 2=.bool false/\t.kids.all ai=false) ?_ ?_ ?_ 0 _ (ao9 _) ?_
  ·rintro i st hi ⟨T,rfl,e1,e7,hc⟩
   by_cases bf:i<t.kids.length
   ·have hx:=an' bf
    have hd:=aoQ bf
    have hm:=aoW bf
    generalize t.kids[i]=u at hx hd hm
    have hu:=ih u H (hF.kb u hm)
    have fE:=sM hx
    rw[an] at hu fE
    rw[hd,ao6] at hc
    cases Jn:ai u with
    | false =>
     rw[Jn] at hu hc
     simp(disch:=omega)only[aP,aa,simprocAttr,e1,e7,bB,fE,hu]
     exact⟨_,rfl,by simp(disch:=omega)only[aN,aa,simprocAttr],by rw[hc];rfl⟩
    | true =>
     rw[Jn] at hu hc
     simp(disch:=omega)only[aP,aa,simprocAttr,e1,e7,bB,fE,hu]
     exact⟨bf,_,rfl,by simp(disch:=omega)only[aN,aa,simprocAttr,e1],by simp(disch:=omega)only[aN,aa,simprocAttr],by rw[hc,aou]⟩
   ·have e:t.kids.drop i=[]:=aqg (by omega)
    rw[e,apd] at hc
    simp(disch:=omega)only[aP,aa,simprocAttr,e1,e7,bB]
    exact⟨_,rfl,hc⟩
  ·rintro st ⟨T,rfl,hc⟩
   simp(disch:=omega)only[aP,aa,simprocAttr,hc]
  ·rintro st ⟨T,rfl,h2,hc⟩
   simp(disch:=omega)only[aP,aa,simprocAttr,h2,hc]
  ·exact⟨_,rfl,by simp(disch:=omega)only[aN,aa,simprocAttr,e1],by simp(disch:=omega)only[aN,aa,simprocAttr],by simp⟩
theorem kH(a l:List bq)(x y:bq)(H:ah)(ha:a.length<=1000000)(hl:l.length<=1000000)(o o' : Bool) :
  aD A 72 [.slice (strs a) false,.str x,.slice (strs l) false,.str y] H=some (.slice (strs (a++[x]++l++[y])) true,none):=by
 have h1:aC false 1 16 (.slice [] true) (.slice (strs a) false)=some (.slice (strs a) true):=cb (l:=[]) (by simp;omega)
 have h2:aC false 1 16 (.slice (strs a) true) (.slice [[.str x]] true)=some (.slice (strs (a++[x])) true):=fj (by omega)
 have h3:aC false 1 16 (.slice (strs (a++[x])) true) (.slice (strs l) false)=some (.slice (strs (a++[x]++l)) true):=cb (by simp;omega)
 have h4:aC false 1 16 (.slice (strs (a++[x]++l)) true) (.slice [[.str y]] true)=some (.slice (strs (a++[x]++l++[y])) true):=fj (by simp;omega)
 generalize a++[x]++l++[y]=l3 at h4 ⊢
 generalize a++[x]++l=l2 at h3 h4
 generalize a++[x]=l1 at h2 h3
 refine aB (fn:=Q6) rfl rfl rfl ?_
 unfold Q6
 simp(disch:=omega)only[aP,aa,simprocAttr,h1,h2,h3,h4]
def mF(k:Nat):bq:=fU (k+1) k []
theorem ug:∀ (f g n:Nat) (acc:bq),n<f->n<g->fU f n acc=fU g n acc
 | 0,_,n,acc,h,_=>by omega
 | f+1,0,n,acc,_,h=>by omega
 | f+1,g+1,n,acc,h,h2=>by
  unfold fU
  cases hn:Nat.blt n 10 with
  | true=>rfl
  | false =>
   have:¬ n<10:=fun h=>by
    have:Nat.blt n 10=true:=by simpa [aoO] using h
    rw[hn] at this;cases this
   simp only[an8]
   exact ug f g (n / 10) _ (by omega) (by omega)
theorem x6(k:Nat)(H:ah)(hk:k<=2199023255552):aD A 39 [.int .i64 k] H=some (.str (mF k),none):=by
 refine aB (fn:=QV) rfl rfl rfl ?_
 unfold QV
 simp(disch:=omega)only[aP,aa,simprocAttr]
 refine Tp 0 (fun m s=>∃ T acc,s=⟨T,H,H.length,0⟩/\m<=2199023255552/\T 0=.int .i64 m/\T 3=.str acc/\acc.length+m<=k/\mF k=fU (m+1) m acc)
  (fun s=>∃ T acc m,s=⟨T,H,H.length,0⟩/\m<10/\T 0=.int .i64 (m:Nat)/\T 3=.str acc/\acc.length+m<=k/\mF k=UInt8.ofNat (48+m) :: acc) (fun _=>False) ?_ ?_ (fun _ h=>h.elim) k _ ?_
 ·rintro m s ⟨T,acc,rfl,hm,e0,e3,hl,hc⟩
  by_cases h9:9<m
  ·have hb:Nat.blt m 10=false:=by cases h:Nat.blt m 10 with|false=>rfl|true=>simp[aoO] at h;omega
   have e:fU (m+1) m acc=fU (m / 10+1) (m / 10) (UInt8.ofNat (48+m % 10) :: acc):=by
    rw[fU,hb,an8]
    exact ug _ _ _ _ (by omega) (by omega)
   rw[e] at hc
   simp(disch:=omega)only[aP,aa,simprocAttr,e0,e3,gp,qa,S7,kD,mc,ao6,apd,bytesOf]
   have em:(48+(m:Int) % 10).toNat=48+m % 10:=by omega
   have ed:(m:Int) / 10=((m / 10:Nat):Int):=by omega
   exact⟨m / 10,by omega,_,UInt8.ofNat (48+m % 10) :: acc,rfl,by omega,by simp(disch:=omega)only[aN,aa,simprocAttr,ed],by simp(disch:=omega)only[aN,aa,simprocAttr,em],by simp only[an5];omega,hc⟩
  ·have hb:Nat.blt m 10=true:=by simp[aoO];omega
   have e:fU (m+1) m acc=UInt8.ofNat (48+m) :: acc:=by rw[fU,hb,cond_true]
   rw[e] at hc
   simp(disch:=omega)only[aP,aa,simprocAttr,e0,e3]
   exact⟨_,acc,m,rfl,by omega,by simp(disch:=omega)only[aN,aa,simprocAttr,e0],by simp(disch:=omega)only[aN,aa,simprocAttr,e3],hl,hc⟩
 ·rintro s ⟨T,acc,m,rfl,hm,e0,e3,hl,hc⟩
  simp(disch:=omega)only[aP,aa,simprocAttr,e0,e3,S7,kD,mc,ao6,apd,bytesOf]
  rw[hc,show (48+(m:Int)).toNat=48+m by omega]
 ·exact⟨_,[],rfl,hk,by simp(disch:=omega)only[aN,aa,simprocAttr],by simp(disch:=omega)only[aN,aa,simprocAttr],by simp,rfl⟩
def oc(p:List bq × Int)(least:Int):List bq:=if p.2<least then [[40]]++p.1++[[41]] else p.1
def aO:List (List bq)->List bq
 | []=>[]
 | [a]=>a
 | a :: b :: r=>a++[[44]]++aO (b :: r)
theorem jK(x:List bq):∀ l:List (List bq),aO (l++[x])=if l=[] then x else aO l++[[44]]++x
 | []=>by simp[aO]
 | [a]=>by simp[aO]
 | a :: b :: r=>by
  have:=jK x (b :: r)
  simp only[apu,aO] at this ⊢
  rw[this]
  simp
def fz(k n:Int)(a f:bq)(w:Wd)(ns:List bq)(tl:List (List bq × Int)):List bq :=
 if k=0 then (if n<0 then [[45],mF (-n).toNat] else [mF n.toNat])
 else if k=1 then [if n=0 then [102,97,108,115,101] else [116,114,117,101]]
 else if k=2 then [a]
 else if k=3 then cA a++[[40]]++aO (tl.map (·.1))++[[41]]
 else if k=4 then (match tl with
  | [x]=>[(dF n).1]++oc x 7
  | [x,y]=>oc x (if (dF n).2=3 then 4 else (dF n).2)++[(dF n).1]++oc y ((dF n).2+1)
  | _=>[])
 else if k=5 then (match tl with|[x,y,z]=>[[105,102]]++x.1++[[116,104,101,110]]++y.1++[[101,108,115,101]]++z.1|_=>[])
 else if k=6 then (match tl,ns with|[x,y],[s]=>[[108,101,116],s,[61]]++x.1++[[105,110]]++y.1|_,_=>[])
 else if k=7 then cA a++[[123]]++aO (List.zipWith (fun s (x:List bq × Int)=>[s,[61]]++x.1) ns tl)++[[125]]
 else if k=8 then (match tl with|[x]=>cA a++[[58],f]++[[91]]++x.1++[[93]]|_=>[])
 else if k=9 then (match tl with|[x]=>cA a++[[58],f]++[[40]]++x.1++[[41]]|_=>[])
 else if k=10 then (match tl,ns with
  | [x,y],[p,q]=>[[109,97,116,99,104]]++cA a++[[40]]++x.1++[[41]]++[[123]]++([p,q,[45,62]]++y.1)++[[125]]
  | [x,y,z],[p,q,r,u]=>[[109,97,116,99,104]]++cA a++[[40]]++x.1++[[41]]++[[123]]++([p,q,[45,62]]++y.1++[[44]]++[r,u,[45,62]]++z.1)++[[125]]
  | _,_=>[])
 else if k=11 then [fL]++[[40]]++dh w++[[41]]++[[91]]++aO (tl.map (·.1))++[[93]]
 else if k=12 then (match tl,ns with|[x,y,z],[s,u]=>[[102,111,108,100],s,[44],u,[61]]++y.1++[[111,118,101,114]]++x.1++[[100,111]]++z.1|_,_=>[])
 else []
mutual
def ay:Tm->List bq
 | .mk k n a f wn wk ks ns=>fz k n a f (.mk wn wk) ns (zE ks)
def zE:List Tm->List (List bq × Int)
 | []=>[]
 | t :: r=>(ay t,dL t) :: zE r
end
theorem zF:∀ l:List Tm,zE l=l.map fun t=>(ay t,dL t)
 | []=>by simp[zE]
 | t :: r=>by simp[zE,zF r]
theorem cu(t:Tm):ay t=fz t.kind t.n t.name t.field (.mk t.wn t.wk) t.names (t.kids.map fun t=>(ay t,dL t)):=by
 cases t;rw[ay,zF,Tm.kind,Tm.n,Tm.name,Tm.field,Tm.wn,Tm.wk,Tm.names,Tm.kids]
structure qv (t:Tm):Prop where
 d:∀ H,aD A 40 [.agg (cE t)] H=some (.slice (strs (ay t)) true,none)
 len:(ay t).length<=100000
theorem Rr{t:Tm}(h:qv t)(least:Int)(H:ah):aD A 75 [.agg (cE t),.int .i64 least] H=some (.slice (strs (oc (ay t,dL t) least)) true,none):=by
 have h1:=h.d H
 have h2:=V4 t H
 have hl:=h.len
 rw[an] at h1 h2 ⊢
 have a1:aC false 1 16 (.slice [[.str [40]]] true) (.slice (strs (ay t)) true)=some (.slice (strs ([[40]]++ay t)) true):=cb (l:=[[40]]) (by simp;omega)
 have a2:aC false 1 16 (.slice (strs ([[40]]++ay t)) true) (.slice [[.str [41]]] true)=some (.slice (strs ([[40]]++ay t++[[41]])) true):=fj (by simp;omega)
 unfold oc
 generalize [[40]]++ay t++[[41]]=l2 at a2 ⊢
 generalize [[40]]++ay t=l1 at a1 a2
 refine aB (fn:=Q9) rfl rfl rfl ?_
 unfold Q9
 by_cases hc:dL t<least
 ·rw[if_pos hc]
  simp(disch:=omega)only[aP,aa,simprocAttr,h1,h2,a1,a2]
 ·rw[if_neg hc]
  simp(disch:=omega)only[aP,aa,simprocAttr,h1,h2]
theorem il:∀ (l:List (List bq)) (n:Nat),(∀ x∈l,x.length<=n)->(aO l).length<=l.length*(n+1)
 | [],_,_=>by simp[aO]
 | [a],n,h=>by have:=h a (by simp);simp only[aO,an5,an6];omega
 | a :: b :: r,n,h=>by
  have h1:=h a (by simp)
  have h2:=il (b :: r) n (fun x hx=>h x (by simp only[aoN] at hx ⊢;exact .inr hx))
  simp only[aO,List.length_append,an5,an6] at h2 ⊢
  rw[aoT (r.length+1) 1 (n+1)]
  omega
theorem GS{l:List Tm}(hl:l.length<=10)(h:∀ t∈l,qv t)(H:ah):aD A 73 [.slice (au l) false] H=some (.slice (strs (aO (l.map ay))) false,none):=by
 refine aB (fn:=Q7) rfl rfl rfl ?_
 unfold Q7
 simp(disch:=omega)only[aP,aa,simprocAttr]
 refine bM l.length 0 (fun i s=>∃ T,s=⟨T,H,H.length,0⟩/\T 0=.slice (au l) false/\T 3=.slice (strs (aO ((l.take i).map ay))) true/\T 4=.int .i64 i)
  (fun s=>∃ T,s=⟨T,H,H.length,0⟩/\T 3=.slice (strs (aO (l.map ay))) true) (fun _=>False) ?_ ?_ (fun _ h=>h.elim) 0 _ (ao9 _) ?_
 ·rintro i s hi ⟨T,rfl,e0,e3,e4⟩
  by_cases bf:i<l.length
  ·have hx:=an' bf
   have hm:=aoW bf
   have j6:l.take (i+1)=l.take i++[l[i]]:=by rw[ap4,hx];rfl
   generalize l[i]=u at hx hm j6
   have hu:=(h u hm).d H
   have hul:=(h u hm).len
   have fE:=sM hx
   rw[an] at hu fE
   have Jg:(aO ((l.take i).map ay)).length<=10*100001:=by
    have h1:=il ((l.take i).map ay) 100000 (fun x hx=>by
     obtain⟨t,ht,rfl⟩:=aoy.1 hx
     exact (h t (apx ht)).len)
    have h2:((l.take i).map ay).length<=10:=by simp;omega
    exact aoS h1 (aot _ h2)
   have jZ:(l.take (i+1)).map ay=(l.take i).map ay++[ay u]:=by rw[j6];simp
   have hs:=jK (ay u) ((l.take i).map ay)
   rw[<- jZ] at hs
   by_cases h0:i=0
   ·subst h0
    simp only[aoV,aol,apB] at hs e3
    have a1:aC false 1 16 (.slice (strs (aO [])) true) (.slice (strs (ay u)) true)=some (.slice (strs (ay u)) true):=cb (l:=[]) (by simp;omega)
    simp(disch:=omega)only[aP,aa,simprocAttr,e0,e3,e4,bB,fE,hu,a1]
    exact⟨bf,_,rfl,by simp(disch:=omega)only[aN,aa,simprocAttr,e0],by rw[hs];simp(disch:=omega)only[aN,aa,simprocAttr],by simp(disch:=omega)only[aN,aa,simprocAttr]⟩
   ·have dn:¬ ((l.take i).map ay=[]):=fun e=>by
     have:=apS List.length e
     rw[aoA,List.length_take,an6] at this
     omega
    rw[if_neg dn] at hs
    generalize aO ((l.take i).map ay)=acc at e3 Jg hs
    have a1:aC false 1 16 (.slice (strs acc) true) (.slice [[.str [44]]] true)=some (.slice (strs (acc++[[44]])) true):=fj (by omega)
    have a2:aC false 1 16 (.slice (strs (acc++[[44]])) true) (.slice (strs (ay u)) true)=some (.slice (strs (acc++[[44]]++ay u)) true):=cb (by simp;omega)
    generalize acc++[[44]]++ay u=l2 at a2 hs
    generalize acc++[[44]]=l1 at a1 a2
    simp(disch:=omega)only[aP,aa,simprocAttr,e0,e3,e4,bB,fE,hu,a1,a2]
    exact⟨bf,_,rfl,by simp(disch:=omega)only[aN,aa,simprocAttr,e0],by rw[hs];simp(disch:=omega)only[aN,aa,simprocAttr],by simp(disch:=omega)only[aN,aa,simprocAttr]⟩
  ·rw[aoJ (by omega)] at e3
   simp(disch:=omega)only[aP,aa,simprocAttr,e0,e3,e4,bB]
   exact⟨_,rfl,by simp(disch:=omega)only[aN,aa,simprocAttr,e3]⟩
 ·rintro s ⟨T,rfl,e3⟩
  simp(disch:=omega)only[aP,aa,simprocAttr,e3]
 ·exact⟨_,rfl,by simp(disch:=omega)only[aN,aa,simprocAttr],by simp(disch:=omega)only[aN,aa,simprocAttr,aoV,aol,aO,strs],by simp(disch:=omega)only[aN,aa,simprocAttr]⟩
section
structure zV (t:Tm):Prop where
 b1:oS t=false
 b2:pI t=false
 b3:pJ t=false
 b4:oT t=false
 b5:oU t=false
 b6:pK t=false
 kids:∀ u∈t.kids,ai u=true
theorem xy{t:Tm}(h:ai t=true):zV t:=by
 rw[fe,aod,dp] at h
 obtain⟨h1,h2⟩:=h
 simp only[mr,ao7,apa] at h1
 obtain⟨⟨⟨⟨⟨a1,a2⟩,a3⟩,a4⟩,a5⟩,a6⟩:=h1
 exact⟨a1,a2,a3,a4,a5,a6,fun u hu=>aof.1 h2 u hu⟩
theorem fO{t:Tm}(h:zV t){c1 c2:Int}(hc:bF t.kind t.n t.kids.length=(c1,c2)):c1≠-2/\(0<=c1->(t.kids.length:Int)=c1)/\(t.names.length:Int)=c2:=by
 have h1:=h.b1
 unfold oS at h1
 rw[hc] at h1
 simp only[mb,apa,aoY,not_and,Decidable.not_not] at h1
 exact⟨h1.1.1.1,h1.1.1.2,h1.1.2⟩
theorem zd{t:Tm}(h:zV t):0<=t.kind/\t.kind<=12:=by
 rcases tv t.kind with e|e|e|e|e|e|e|e|e|e|e|e|e|e
 all_goals first|omega|skip
 have hc:bF t.kind t.n t.kids.length=(-2,0):=by
  unfold bF
  repeat rw[if_neg (by omega)]
 exact absurd rfl (fO h hc).1
theorem GP{α:Type}{l:List α}(h:l.length=1):∃ a,l=[a]:=by
 match l,h with
 | [a],_=>exact⟨a,rfl⟩
theorem GQ{α:Type}{l:List α}(h:l.length=2):∃ a b,l=[a,b]:=by
 match l,h with
 | [a,b],_=>exact⟨a,b,rfl⟩
theorem Rx{α:Type}{l:List α}(h:l.length=3):∃ a b c,l=[a,b,c]:=by
 match l,h with
 | [a,b,c],_=>exact⟨a,b,c,rfl⟩
section
variable {t:Tm}{h:Nat}(hF:u9 h t)(hO:zV t)(hK:∀ u∈t.kids,qv u)(H:ah)
include hF hO hK
theorem tk0(hk:t.kind=0):aD A 40 [.agg (cE t)] H=some (.slice (strs (ay t)) true,none):=by
 have _:=hF
 have _:=hK
 have hn:=hO.b5
 unfold oU at hn
 rw[decide_eq_true hk] at hn
 simp only[cond_true,aoY,not_or,Int.not_lt] at hn
 rw[cu,an]
 refine aB (fn:=ku) rfl rfl rfl ?_
 unfold ku
 by_cases h0:t.n<0
 ·obtain⟨m,hm⟩:∃ m:Nat, -t.n=m:=⟨(-t.n).toNat,by omega⟩
  have hm0:0-t.n=m:=by omega
  have hd:=x6 m H (by omega)
  have e:fz t.kind t.n t.name t.field (.mk t.wn t.wk) t.names (t.kids.map fun t=>(ay t,dL t))=[[45],mF m]:=by
   unfold fz;rw[if_pos hk,if_pos h0,hm];rfl
  rw[e]
  simp(disch:=omega)only[aP,aa,simprocAttr,hk,hm0,hd,strs,aoh,aol]
 ·obtain⟨m,hm⟩:∃ m:Nat,t.n=m:=⟨t.n.toNat,by omega⟩
  have hd:=x6 m H (by omega)
  have e:fz t.kind t.n t.name t.field (.mk t.wn t.wk) t.names (t.kids.map fun t=>(ay t,dL t))=[mF m]:=by
   unfold fz;rw[if_pos hk,if_neg h0,hm];rfl
  rw[e]
  simp(disch:=omega)only[aP,aa,simprocAttr,hk,hm,hd,strs,aoh,aol]
theorem tk2(hk:t.kind=2):aD A 40 [.agg (cE t)] H=some (.slice (strs (ay t)) true,none):=by
 have _:=hF
 have _:=hO
 have _:=hK
 rw[cu,an]
 refine aB (fn:=ku) rfl rfl rfl ?_
 unfold ku
 have e:fz t.kind t.n t.name t.field (.mk t.wn t.wk) t.names (t.kids.map fun t=>(ay t,dL t))=[t.name]:=by
  rw[hk];rfl
 rw[e]
 simp(disch:=omega)only[aP,aa,simprocAttr,hk,strs,aoh,aol]
theorem tk3(hk:t.kind=3):aD A 40 [.agg (cE t)] H=some (.slice (strs (ay t)) true,none):=by
 have _:=hO
 have hq:=rY t.name H (by have:=hF.a;omega)
 have hl:=GS (l:=t.kids) (by have:=hF.kl;omega) hK H
 have hb:=kH (cA t.name) (aO (t.kids.map ay)) [40] [41] H (by have:=jV t.name;omega) (by
  have h1:=il (t.kids.map ay) 100000 (fun x hx=>by obtain⟨u,hu,rfl⟩:=aoy.1 hx;exact (hK u hu).len)
  rw[aoA] at h1
  have:=hF.kl
  have h2:t.kids.length*(100000+1)<=3*100001:=aot _ this
  omega) true false
 rw[cu,an]
 have e:fz t.kind t.n t.name t.field (.mk t.wn t.wk) t.names (t.kids.map fun t=>(ay t,dL t))=cA t.name++[[40]]++aO (t.kids.map ay)++[[41]]:=by
  rw[hk]
  show cA t.name++[[40]]++aO ((t.kids.map fun t=>(ay t,dL t)).map (·.1))++[[41]]=_
  rw[apE]
  rfl
 rw[e]
 generalize cA t.name++[[40]]++aO (t.kids.map ay)++[[41]]=out at hb ⊢
 refine aB (fn:=ku) rfl rfl rfl ?_
 unfold ku
 simp(disch:=omega)only[aP,aa,simprocAttr,hk,hq,hl,hb]
theorem tk1(hk:t.kind=1):aD A 40 [.agg (cE t)] H=some (.slice (strs (ay t)) true,none):=by
 have _:=hF
 have _:=hK
 have hn:=hO.b5
 unfold oU at hn
 rw[ao1 (show ¬ t.kind=0 by omega),decide_eq_true hk] at hn
 simp only[cond_true,an8,aoY,not_and,Decidable.not_not] at hn
 rw[cu,an]
 refine aB (fn:=ku) rfl rfl rfl ?_
 unfold ku
 by_cases h0:t.n=0
 ·have e:fz t.kind t.n t.name t.field (.mk t.wn t.wk) t.names (t.kids.map fun t=>(ay t,dL t))=[[102,97,108,115,101]]:=by
   rw[hk,h0];rfl
  rw[e]
  simp(disch:=omega)only[aP,aa,simprocAttr,hk,h0,strs,aoh,aol]
  first|done|rfl
 ·have h1:=hn h0
  have e:fz t.kind t.n t.name t.field (.mk t.wn t.wk) t.names (t.kids.map fun t=>(ay t,dL t))=[[116,114,117,101]]:=by
   rw[hk,h1];rfl
  rw[e]
  simp(disch:=omega)only[aP,aa,simprocAttr,hk,h1,strs,aoh,aol]
  first|done|rfl
theorem tk5(hk:t.kind=5):aD A 40 [.agg (cE t)] H=some (.slice (strs (ay t)) true,none):=by
 have _:=hF
 have hc:=fO hO (c1:=3) (c2:=0) (by rw[hk];rfl)
 have hl:=hc.2.1 (by omega)
 obtain⟨x,y,z,fV⟩:=Rx (show t.kids.length=3 by omega)
 have hx:=hK x (by rw[fV];simp)
 have hy:=hK y (by rw[fV];simp)
 have hz:=hK z (by rw[fV];simp)
 have dx:=hx.d H
 have dy:=hy.d H
 have dz:=hz.d H
 have lx:=hx.len
 have ly:=hy.len
 have lz:=hz.len
 have kt:au t.kids=[[.int .i64 x.kind,.int .i64 x.n,.str x.name,.str x.field,.str x.wn,.slice (az x.wk) false,.slice (au x.kids) false,.slice (strs x.names) false],
   [.int .i64 y.kind,.int .i64 y.n,.str y.name,.str y.field,.str y.wn,.slice (az y.wk) false,.slice (au y.kids) false,.slice (strs y.names) false],
   [.int .i64 z.kind,.int .i64 z.n,.str z.name,.str z.field,.str z.wn,.slice (az z.wk) false,.slice (au z.kids) false,.slice (strs z.names) false]]:=by
  rw[fV,au,au,au,au,an,an,an]
 rw[an] at dx dy dz
 have a1:aC false 1 16 (.slice [[.str [105,102]]] true) (.slice (strs (ay x)) true)=some (.slice (strs ([[105,102]]++ay x)) true):=cb (l:=[[105,102]]) (by simp;omega)
 have a2:aC false 1 16 (.slice (strs ([[105,102]]++ay x)) true) (.slice [[.str [116,104,101,110]]] true)=some (.slice (strs ([[105,102]]++ay x++[[116,104,101,110]])) true):=fj (by simp;omega)
 have a3:aC false 1 16 (.slice (strs ([[105,102]]++ay x++[[116,104,101,110]])) true) (.slice (strs (ay y)) true)=some (.slice (strs ([[105,102]]++ay x++[[116,104,101,110]]++ay y)) true):=cb (by simp;omega)
 have a4:aC false 1 16 (.slice (strs ([[105,102]]++ay x++[[116,104,101,110]]++ay y)) true) (.slice [[.str [101,108,115,101]]] true)=some (.slice (strs ([[105,102]]++ay x++[[116,104,101,110]]++ay y++[[101,108,115,101]])) true):=fj (by simp;omega)
 have a5:aC false 1 16 (.slice (strs ([[105,102]]++ay x++[[116,104,101,110]]++ay y++[[101,108,115,101]])) true) (.slice (strs (ay z)) true)=some (.slice (strs ([[105,102]]++ay x++[[116,104,101,110]]++ay y++[[101,108,115,101]]++ay z)) true):=cb (by simp;omega)
 have e:ay t=[[105,102]]++ay x++[[116,104,101,110]]++ay y++[[101,108,115,101]]++ay z:=by
  rw[cu,hk,fV];rfl
 rw[e,an]
 generalize [[105,102]]++ay x++[[116,104,101,110]]++ay y++[[101,108,115,101]]++ay z=l5 at a5 ⊢
 generalize [[105,102]]++ay x++[[116,104,101,110]]++ay y++[[101,108,115,101]]=l4 at a4 a5
 generalize [[105,102]]++ay x++[[116,104,101,110]]++ay y=l3 at a3 a4
 generalize [[105,102]]++ay x++[[116,104,101,110]]=l2 at a2 a3
 generalize [[105,102]]++ay x=l1 at a1 a2
 refine aB (fn:=ku) rfl rfl rfl ?_
 unfold ku
 rw[kt]
 simp(disch:=omega)only[aP,aa,simprocAttr,hk,dx,dy,dz,a1,a2,a3,a4,a5]
end
end
end Go.Proofs.YtbdnnjjcdcacnaaGreatDoor
