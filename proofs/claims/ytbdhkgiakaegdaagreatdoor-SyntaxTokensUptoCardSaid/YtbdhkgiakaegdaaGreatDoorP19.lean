/-
  A part of the proof of SyntaxTokens: T1, T2, T3, T4, T5, T6, T7, T9, T8, T10, T11, T12, T13, T14, T15, T16, T17, T18, T19.
-/
import Derived.Test.YtbdhkgiakaegdaaGreatDoorP18
set_option linter.unusedSimpArgs false
set_option linter.unusedVariables false
set_option linter.defProp false
set_option maxHeartbeats 1000000
set_option maxRecDepth 100000
namespace Go.Proofs.YtbdhkgiakaegdaaGreatDoor
open Go Go.Abs Go.Proofs
abbrev cd:=List UInt8
def j8(n k:Int):Int:=(if n<0 then -(n+1) else n).tmod k
def Yu(l:List Int)(i k:Int):Int:=if i<0\/(l.length:Int)<=i then 0 else j8 (l.getD i.toNat 0) k
def jl(c:UInt8):Bool:=decide ((97:Int)<=c.toNat)&&decide ((c.toNat:Int)<=122) || decide ((65:Int)<=c.toNat)&&decide ((c.toNat:Int)<=90)
def isDigit(c:UInt8):Bool:=decide ((48:Int)<=c.toNat)&&decide ((c.toNat:Int)<=57)
def kindOf(c:UInt8):Int:=if jl c then 1 else if isDigit c then 2 else 0
def AT{α:Type}[BEq α](x:α):List α->Nat->Int
 | [],_=>-1
 | a :: l,i=>if a==x then i else AT x l (i+1)
theorem sD{α:Type}[BEq α][LawfulBEq α](x:α):∀ (l:List α) (i:Nat),decide (0<=AT x l i)=l.contains x
 | [],i=>by simp[AT]
 | a :: l,i=>by
  unfold AT
  by_cases h:a=x
  ·subst h;simp
  ·have h' : (a==x)=false:=by simpa using h
   have h2:(x==a)=false:=by simpa using fun e=>h e.symm
   rw[h',apP,h2,aog]
   exact sD x l (i+1)
theorem oM(n k:Int)(H:ai)(hn:D1 n)(hk:0<k):aE A 10 [.int .i64 n,.int .i64 k] H=some (.int .i64 (j8 n k),none):=by
 obtain⟨h1,h2⟩:=hn
 have qj:k≠0:=by omega
 refine aD (fn:=P3) rfl rfl rfl ?_
 unfold P3
 simp(disch:=omega)only[iX,aa,simprocAttr]
 refine kN ?_ ?_<;>intro h
 ·simp(disch:=omega)only[iX,aa,simprocAttr,qj,j8,if_pos h]
  simp only[show 0-(n+1)=-(n+1) by omega]
 ·simp(disch:=omega)only[iX,aa,simprocAttr,qj,j8,if_neg h]
theorem ahj(l:List Int)(i k:Int)(H:ai)(hl:∀ n∈l,D1 n)(hk:0<k):aE A 41 [.slice (ints l) false,.int .i64 i,.int .i64 k] H=some (.int .i64 (Yu l i k),none):=by
 refine aD (fn:=QS) rfl rfl rfl ?_
 unfold QS
 by_cases h0:i<0
 ·simp(disch:=omega)only[iX,aa,simprocAttr,h0,Yu,true_or,apu]
 by_cases h1:(l.length:Int)<=i
 ·simp(disch:=omega)only[iX,aa,simprocAttr,h0,h1,nB,aqE,Yu,or_true,apu]
 ·have hi:i.toNat<l.length:=by omega
  have hg:l[i.toNat]?=some (l.getD i.toNat 0):=by rw[aoO,an3 hi];rfl
  have hr:D1 (l.getD i.toNat 0):=hl _ (by rw[aoO,an3 hi];exact aoX hi)
  simp(disch:=omega)only[iX,aa,simprocAttr,h0,h1,nB,aqE,Yu,false_or,aqd,bO (show 0<=i by omega),ints_at hg,oM _ _ H hr hk]
theorem Uz(l:List cd)(w:cd)(H:ai)(hl:l.length<=9223372036854775806):aE A 98 [.slice (strs l) false,.str w] H=some (.int .i64 (AT w l 0),none):=by
 refine aD (fn:=Rq) rfl rfl rfl ?_
 unfold Rq
 simp(disch:=omega)only[iX,aa,simprocAttr]
 refine xG l.length (fun i=>Hd (fun T=>T 0=.slice (strs l) false/\T 1=.str w/\T 7=.int .i64 l.length/\T 8=.int .i64 i/\AT w l 0=AT w (l.drop i) i) H H.length 0) ?_ 0 _ (aoW _) ?_
 ·rintro i s hi hs
  obtain⟨T,rfl,h0,h1,h7,h8,hc⟩:=hs.out
  simp(disch:=omega)only[iX,aa,simprocAttr,h0,h7,h8]
  refine kN ?_ ?_<;>intro h
  ·have mn:i<l.length:=by omega
   simp(disch:=omega)only[iX,aa,simprocAttr,h0,h1,h8,lp (an3 mn)]
   refine kO ?_ ?_<;>intro hb
   ·simp(disch:=omega)only[iX,aa,simprocAttr,hc,aoF mn,AT,show (l[i]==w)=true by rw[aoZ] at hb ⊢;exact hb.symm]
   ·simp(disch:=omega)only[iX,aa,simprocAttr,h0,h1,h7,h8]
    exact⟨mn,by rw[hc,aoF mn,AT,show (l[i]==w)=false by rw[aqP] at hb ⊢;exact hb.symm];rfl⟩
  ·have:i=l.length:=by omega
   subst this
   simp(disch:=omega)only[iX,aa,simprocAttr,hc,apW,AT]
 ·simp(disch:=omega)only[iX,aa,simprocAttr,ape,aoG,cg]
theorem IW(l:List cd)(w:cd)(H:ai)(hl:l.length<=9223372036854775806):aE A 80 [.slice (strs l) false,.str w] H=some (.bool (l.contains w),none):=by
 refine aD (fn:=Re) rfl rfl rfl ?_
 unfold Re
 simp(disch:=omega)only[iX,aa,simprocAttr,Uz l w H hl,aqE,sD]
theorem o8(c:UInt8)(H:ai):aE A 78 [.int .u8 c.toNat] H=some (.bool (jl c),none):=by
 refine aD (fn:=Rc) rfl rfl rfl ?_
 unfold Rc jl
 by_cases h1:(97:Int)<=c.toNat<;>by_cases h2:(c.toNat:Int)<=122<;>by_cases h3:(65:Int)<=c.toNat<;>by_cases h4:(c.toNat:Int)<=90 <;>
  simp(disch:=omega)only[iX,aa,simprocAttr,aqE,h1,h2,h3,h4]
theorem uo(c:UInt8)(H:ai):aE A 170 [.int .u8 c.toNat] H=some (.bool (isDigit c),none):=by
 refine aD (fn:=GW) rfl rfl rfl ?_
 unfold GW isDigit
 by_cases h1:(48:Int)<=c.toNat<;>by_cases h2:(c.toNat:Int)<=57 <;>
  simp(disch:=omega)only[iX,aa,simprocAttr,aqE,h1,h2]
theorem FX(c:UInt8)(H:ai):aE A 169 [.int .u8 c.toNat] H=some (.bool (jl c || isDigit c),none):=by
 refine aD (fn:=GV) rfl rfl rfl ?_
 unfold GV
 cases h:jl c<;>simp(disch:=omega)only[iX,aa,simprocAttr,o8,uo,h]
theorem tH(c:UInt8)(H:ai):aE A 65 [.int .u8 c.toNat] H=some (.int .i64 (kindOf c),none):=by
 refine aD (fn:=Q7) rfl rfl rfl ?_
 unfold Q7 kindOf jl isDigit
 by_cases h1:(97:Int)<=c.toNat<;>by_cases h2:(c.toNat:Int)<=122<;>by_cases h3:(65:Int)<=c.toNat<;>by_cases h4:(c.toNat:Int)<=90<;>by_cases h5:(48:Int)<=c.toNat<;>by_cases h6:(c.toNat:Int)<=57 <;>
  simp(disch:=omega)only[iX,aa,simprocAttr,aqE,h1,h2,h3,h4,h5,h6,apu,aqd,apo]
theorem sE:∀ (p s:cd),p.isPrefixOf s=(decide (p.length<=s.length)&&(s.take p.length==p))
 | [],s=>by simp
 | a :: p,[]=>by simp
 | a :: p,b :: s=>by
  have:=sE p s
  simp only[List.isPrefixOf,an0,apj,aqD,this,Nat.succ_le_succ_iff]
  by_cases h:a=b
  ·subst h;simp
  ·have h' : (a==b)=false:=by simpa using h
   have h2:(b==a)=false:=by simpa using fun e=>h e.symm
   simp[h',h2]
theorem uJ(s p:cd)(H:ai):aE A 112 [.str s,.str p] H=some (.bool (p.isPrefixOf s),none):=by
 refine aD (fn:=GQ) rfl rfl rfl ?_
 unfold GQ
 rw[sE]
 by_cases h:(p.length:Int)<=s.length
 ·have hh:p.length<=s.length:=by omega
  simp(disch:=omega)only[iX,aa,simprocAttr,h,ZL hh,hh]
 ·simp(disch:=omega)only[iX,aa,simprocAttr,h,show ¬ p.length<=s.length by omega]
theorem wS(s p:cd)(H:ai):aE A 105 [.str s,.str p] H=some (.bool (p.isPrefixOf s),none):=by
 refine aD (fn:=GN) rfl rfl rfl ?_
 unfold GN
 simp(disch:=omega)only[iX,aa,simprocAttr,uJ]
def lQ:cd:=[40,41,123,125,91,93,44,58,46,61,43,45,42,47,37,60]
def lL(s:cd):Bool:=s==[61,61] || s==[45,62] || (decide (s.length=1)&&lQ.contains (s.getD 0 0))
theorem ac9(a b:UInt8):(((a.toNat:Int))==(b.toNat:Int))=(a==b):=by
 by_cases h:a=b
 ·subst h;simp
 ·have h' : a.toNat≠b.toNat:=fun e=>h (UInt8.toNat_inj.1 e)
  have h2:(a==b)=false:=by simpa using h
  rw[h2]
  simp;omega
theorem KF(s:cd)(H:ai):aE A 94 [.str s] H=some (.bool (lL s),none):=by
 refine aD (fn:=Rp) rfl rfl rfl ?_
 unfold Rp lL
 cases e1:(s==[61,61]) with
 | true=>simp(disch:=omega)only[iX,aa,simprocAttr,e1]
 | false =>
 cases e2:(s==[45,62]) with
 | true=>simp(disch:=omega)only[iX,aa,simprocAttr,e1,e2]
 | false =>
 simp(disch:=omega)only[iX,aa,simprocAttr,e1,e2]
 refine kO ?_ ?_<;>intro hl
 ·have Ak:s.length≠1:=fun e=>by rw[e] at hl;simp at hl
  simp(disch:=omega)only[iX,aa,simprocAttr,Ak]
 have Ak:s.length=1:=by
  have:(s.length:Int)=1:=by simpa using hl
  omega
 match s,Ak with
 | [b],_ =>
 simp(disch:=omega)only[iX,aa,simprocAttr]
 refine xG 16 (fun i=>Hd (fun T=>T 0=.str [b]/\T 3=.str lQ/\T 4=.int .i64 i/\lQ.contains b=(lQ.drop i).contains b) H H.length 0) ?_ 0 _ (aoW _) ?_
 ·rintro i st hi lA
  obtain⟨T,rfl,h0,h3,h4,hc⟩:=lA.out
  simp(disch:=omega)only[iX,aa,simprocAttr,h0,h3,h4,show lQ.length=16 from rfl]
  refine kN ?_ ?_<;>intro h
  ·have mn:i<lQ.length:=by simp only[show lQ.length=16 from rfl];omega
   simp(disch:=omega)only[iX,aa,simprocAttr,h0,h3,h4,an3 mn,ac9]
   refine kO ?_ ?_<;>intro hb
   ·have gO:lQ[i]=b:=by simpa using hb
    simp(disch:=omega)only[iX,aa,simprocAttr,hc,aoF mn,apP,gO,List.getD_cons_zero]
   ·have gO:(b==lQ[i])=false:=by
     have:lQ[i]≠b:=by simpa using hb
     simpa using fun e=>this e.symm
    simp(disch:=omega)only[iX,aa,simprocAttr,h0,h3,h4]
    exact⟨by omega,by rw[hc,aoF mn,apP,gO,aog]⟩
  ·have:i=16:=by omega
   subst this
   rw[show (lQ.drop 16).contains b=false from rfl] at hc
   simp(disch:=omega)only[iX,aa,simprocAttr,List.getD_cons_zero,hc]
 ·simp(disch:=omega)only[iX,aa,simprocAttr]
  exact rfl
def fi(k:Int):cd->Nat
 | []=>0
 | c :: r=>if kindOf c=2\/kindOf c=1/\k=1 then 1+fi k r else 0
theorem Ae(k:Int):∀ s:cd,fi k s<=s.length
 | []=>an4 _
 | c :: r=>by
  have:=Ae k r
  simp only[fi,an0]
  split<;>omega
def nU:cd->Nat
 | []=>0
 | b :: r=>if 0<kindOf b then (if 16<1+fi (kindOf b) r then 0 else 1+fi (kindOf b) r)
  else if 1<=r.length/\lL ((b :: r).take 2)=true then 2 else if lL [b]=true then 1 else 0
theorem Dh(c:UInt8):kindOf c=0\/kindOf c=1\/kindOf c=2:=by
 unfold kindOf
 split
 ·exact .inr (.inl rfl)
 ·split
  ·exact .inr (.inr rfl)
  ·exact .inl rfl
theorem aee(s:cd)(at' : Nat)(H:ai)(gq:at' < s.length)(hs:s.length<=4611686018427387904) :
  aE A 67 [.str s,.int .i64 at'] H=some (.int .i64 (if nU (s.drop at')=0 then -1 else ((at' + nU (s.drop at'):Nat):Int)),none):=by
 refine aD (fn:=Q9) rfl rfl rfl ?_
 unfold Q9
 have hd:=aoF gq
 generalize hb:s[at']=b at hd
 have lT:s[at']?=some b:=by rw[an3 gq,hb]
 simp(disch:=omega)only[iX,aa,simprocAttr,lT,tH]
 refine kN ?_ ?_<;>intro hk
 ·have Ur:nU (s.drop at')=if 16<1+fi (kindOf b) (s.drop (at' + 1)) then 0 else 1+fi (kindOf b) (s.drop (at' + 1)):=by
   rw[hd];simp only[nU,if_pos hk]
  simp(disch:=omega)only[iX,aa,simprocAttr]
  refine cK s.length 0 (fun i=>Hd (fun T=>T 0=.str s/\T 1=.int .i64 at'/\T 5=.int .i64 (kindOf b)/\T 6=.int .i64 i/\at' + 1+fi (kindOf b) (s.drop (at' + 1))=i+fi (kindOf b) (s.drop i)) H H.length 0)
   (Hd (fun T=>T 1=.int .i64 at'/\T 6=.int .i64 ((at' + 1+fi (kindOf b) (s.drop (at' + 1)):Nat):Int)) H H.length 0) (fun _=>False) ?_ ?_ (fun _ h=>h.elim) (at' + 1) _ (by omega) ?_
  ·rintro i st hi lA
   obtain⟨T,rfl,h0,h1,h5,h6,hc⟩:=lA.out
   by_cases h:(i:Int)<s.length
   ·have mn:i<s.length:=by omega
    rw[aoF mn] at hc
    simp only[fi] at hc
    have AM:s[i]?=some s[i]:=an3 mn
    generalize s[i]=c at hc AM
    by_cases k2:kindOf c=2
    ·rw[if_pos (.inl k2)] at hc
     simp(disch:=omega)only[iX,aa,simprocAttr,h0,h1,h5,h6,h,AM,tH,k2]
     omega
    by_cases k1:kindOf c=1
    ·by_cases kb:kindOf b=1
     ·rw[if_pos (.inr ⟨k1,kb⟩)] at hc
      rw[kb] at h5 hc ⊢
      simp(disch:=omega)only[iX,aa,simprocAttr,h0,h1,h5,h6,h,AM,tH,k1,kb,Int.reduceBEq]
      omega
     ·rw[if_neg (by simp[k1,kb])] at hc
      simp(disch:=omega)only[iX,aa,simprocAttr,h0,h1,h5,h6,h,AM,tH,k1,Int.reduceBEq,show (kindOf b==1)=false by simpa using kb]
      omega
    ·have k0:kindOf c=0:=by rcases Dh c with h|h|h<;>simp_all
     rw[if_neg (by simp[k0])] at hc
     simp(disch:=omega)only[iX,aa,simprocAttr,h0,h1,h5,h6,h,AM,tH,k0,Int.reduceBEq]
     omega
   ·have:i=s.length:=by omega
    subst this
    rw[apW] at hc
    simp only[fi] at hc
    simp(disch:=omega)only[iX,aa,simprocAttr,h0,h1,h6,h]
    omega
  ·intro st lA
   obtain⟨T,rfl,h1,h6⟩:=lA.out
   have hle:=Ae (kindOf b) (s.drop (at' + 1))
   rw[aqt] at hle
   rw[Ur]
   generalize fi (kindOf b) (s.drop (at' + 1))=w at h6 hle
   simp(disch:=omega)only[iX,aa,simprocAttr,h1,h6]
   refine kN ?_ ?_<;>intro h16
   ·simp(disch:=omega)only[iX,aa,simprocAttr,if_pos (show 16<1+w by omega)]
   ·simp(disch:=omega)only[iX,aa,simprocAttr,if_neg (show ¬ 16<1+w by omega),h6,if_neg (show ¬ 1+w=0 by omega)]
    omega
  ·simp(disch:=omega)only[iX,aa,simprocAttr]
 ·have Ur:nU (s.drop at')=if 1<=(s.drop (at' + 1)).length/\lL ((b :: s.drop (at' + 1)).take 2)=true then 2 else if lL [b]=true then 1 else 0:=by
   rw[hd];simp only[nU,if_neg hk]
  have e1:List.drop at' (List.take (at' + 1) s)=[b]:=by
   rw[List.drop_take,hd];simp
  have e2:List.drop at' (List.take (at' + 2) s)=(b :: s.drop (at' + 1)).take 2:=by
   rw[List.drop_take,hd];simp
  generalize (b :: s.drop (at' + 1)).take 2=two at e2 Ur
  have e3:(s.drop (at' + 1)).length=s.length-(at' + 1):=aqt ..
  rw[Ur,e3]
  by_cases h2:(at' : Int)+1<s.length
  ·cases Ti:lL two with
   | true =>
    simp(disch:=omega)only[iX,aa,simprocAttr,h2,e2,KF,Ti,if_pos (show 1<=s.length-(at' + 1)/\True from ⟨by omega,trivial⟩)]
    rw[if_pos (show 1<=s.length-(at' + 1) by omega)]
    rw[if_neg (by omega)];rfl
   | false =>
    cases AQ:lL [b] <;>
    simp(disch:=omega)only[iX,aa,simprocAttr,h2,e2,e1,KF,Ti,AQ,apo,aqv,aqd,apu]<;>rfl
  ·have hn:¬ 1<=s.length-(at' + 1):=by omega
   cases AQ:lL [b] <;>
   simp(disch:=omega)only[iX,aa,simprocAttr,h2,e1,KF,AQ,hn,false_and,apo,aqd,apu]<;>rfl
theorem J3(H:ai):aE A 66 [] H=some (.slice (strs fC) true,none):=by
 refine aD (fn:=Q8) rfl rfl rfl ?_
 unfold Q8
 simp only[Zs,H5,Sd,HU,Zr,H4,BY]
 refine Zl (.slice (strs fC) true) (by kernel_rfl) rfl ?_
 simp(disch:=omega)only[iX,aa,simprocAttr]
def isWord(s:cd):Bool:=match s with
 | []=>false
 | b :: _=>decide (kindOf b=1)&&!fC.contains s&&decide (nU s=s.length)
theorem ox(s:cd)(H:ai)(hs:s.length<=4611686018427387904):aE A 34 [.str s] H=some (.bool (isWord s),none):=by
 refine aD (fn:=QP) rfl rfl rfl ?_
 unfold QP
 cases rO:s with
 | nil=>simp(disch:=omega)only[iX,aa,simprocAttr,isWord]
 | cons b r =>
 rw[<- rO]
 have hl:((s.length:Int)==0)=false:=by rw[rO];simp;omega
 have hb:s[0]?=some b:=by rw[rO];rfl
 by_cases hk:kindOf b=1
 ·simp(disch:=omega)only[iX,aa,simprocAttr,hl,hb,tH,hk,bne_self_eq_false,J3]
  have h27:fC.length=27:=rfl
  refine cK 27 0 (fun i=>Hd (fun T=>T 0=.str s/\T 3=.slice (strs fC) true/\T 4=.int .i64 i/\fC.contains s=(fC.drop i).contains s) H H.length 0)
   (Hd (fun T=>T 0=.str s/\fC.contains s=false) H H.length 0) (Hd (fun T=>T 2=.bool false/\fC.contains s=true) H H.length 0) ?_ ?_ ?_ 0 _ (by omega) ?_
  ·rintro i st hi lA
   obtain⟨T,rfl,h0,h3,h4,hc⟩:=lA.out
   simp(disch:=omega)only[iX,aa,simprocAttr,h0,h3,h4,cg,h27]
   refine kN ?_ ?_<;>intro h
   ·have mn:i<fC.length:=by rw[h27];omega
    simp(disch:=omega)only[iX,aa,simprocAttr,h0,h3,h4,lp (an3 mn)]
    refine kO ?_ ?_<;>intro hb
    ·simp(disch:=omega)only[iX,aa,simprocAttr,hc,aoF mn,apP,show (s==fC[i])=true by rw[aoZ] at hb ⊢;exact hb.symm]
    ·simp(disch:=omega)only[iX,aa,simprocAttr,h0,h3,h4]
     exact⟨by omega,by rw[hc,aoF mn,apP,show (s==fC[i])=false by rw[aqP] at hb ⊢;exact hb.symm,aog]⟩
   ·have:i=27:=by omega
    subst this
    rw[show fC.drop 27=[] from rfl] at hc
    simp(disch:=omega)only[iX,aa,simprocAttr,h0,hc,List.contains_nil]
  ·intro st lA
   obtain⟨T,rfl,h0,hc⟩:=lA.out
   have e1:=aee s 0 H (by rw[rO];simp) hs
   rw[ape] at e1
   rw[aoG] at e1
   simp(disch:=omega)only[iX,aa,simprocAttr,h0,e1]
   have hw:isWord s=decide (nU s=s.length):=by rw[rO] at hc ⊢;simp only[isWord,hk,hc,apB,aoa,aon]
   rw[hw]
   have ff:s.length≠0:=by rw[rO];simp
   by_cases Ud:nU s=0
   ·rw[if_pos Ud,Ud];exact KS (by omega)
   ·rw[if_neg Ud];exact KS (by omega)
  ·intro st lA
   obtain⟨T,rfl,h2,hc⟩:=lA.out
   have hw:isWord s=false:=by rw[rO] at hc ⊢;simp only[isWord,hc,aoe,Bool.and_false,aoj]
   simp(disch:=omega)only[iX,aa,simprocAttr,h2,hw]
  ·simp(disch:=omega)only[iX,aa,simprocAttr,ape,aoG]
 ·have hw:isWord s=false:=by rw[rO];simp only[isWord,hk,an5,aoj]
  simp(disch:=omega)only[iX,aa,simprocAttr,hl,hb,tH,show (kindOf b != 1)=true by simpa using hk,hw]
theorem jW{n k:Int}(hk:0<k):0<=j8 n k/\j8 n k<k:=by
 unfold j8
 have h0:(0:Int)<=(if n<0 then -(n+1) else n):=by split<;>omega
 rw[Int.tmod_eq_emod_of_nonneg h0]
 exact⟨Int.emod_nonneg _ (by omega),Int.emod_lt_of_pos _ hk⟩
theorem A8{l:List Int}{i k:Int}(hk:0<k):0<=Yu l i k/\Yu l i k<k:=by
 unfold Yu
 split
 ·exact⟨Int.le_refl _,hk⟩
 ·exact jW hk
inductive Wd where
 | mk (name:cd) (kids:List Wd)
inductive Tm where
 | mk (kind n:Int) (name field wn:cd) (wk:List Wd) (kids:List Tm) (names:List cd)
def Wd.name:Wd->cd|.mk n _=>n
def Wd.kids:Wd->List Wd|.mk _ k=>k
def Tm.kind:Tm->Int|.mk k _ _ _ _ _ _ _=>k
def Tm.n:Tm->Int|.mk _ n _ _ _ _ _ _=>n
def Tm.name:Tm->cd|.mk _ _ a _ _ _ _ _=>a
def Tm.field:Tm->cd|.mk _ _ _ f _ _ _ _=>f
def Tm.wn:Tm->cd|.mk _ _ _ _ w _ _ _=>w
def Tm.wk:Tm->List Wd|.mk _ _ _ _ _ w _ _=>w
def Tm.kids:Tm->List Tm|.mk _ _ _ _ _ _ k _=>k
def Tm.names:Tm->List cd|.mk _ _ _ _ _ _ _ n=>n
mutual
def hN:Wd->List AV
 | .mk n ks=>[.str n,.slice (ax ks) false]
def ax:List Wd->List (List AV)
 | []=>[]
 | w :: r=>hN w :: ax r
end
mutual
def cV:Tm->List AV
 | .mk k n a f wn wk ks ns=>[.int .i64 k,.int .i64 n,.str a,.str f,.str wn,.slice (ax wk) false,.slice (ar ks) false,.slice (strs ns) false]
def ar:List Tm->List (List AV)
 | []=>[]
 | t :: r=>cV t :: ar r
end
theorem iQ(w:Wd):hN w=[.str w.name,.slice (ax w.kids) false]:=by cases w;simp only[hN,Wd.name,Wd.kids]
theorem al(t:Tm):cV t=[.int .i64 t.kind,.int .i64 t.n,.str t.name,.str t.field,.str t.wn,.slice (ax t.wk) false,.slice (ar t.kids) false,.slice (strs t.names) false]:=by
 cases t;simp only[cV,Tm.kind,Tm.n,Tm.name,Tm.field,Tm.wn,Tm.wk,Tm.kids,Tm.names]
theorem mT:∀ l:List Wd,ax l=l.map hN
 | []=>by simp[ax]
 | t :: r=>by simp[ax,mT r]
theorem iD:∀ l:List Tm,ar l=l.map cV
 | []=>by simp[ar]
 | t :: r=>by simp[ar,iD r]
theorem dG{l:List Wd} : (ax l).length=l.length:=by rw[mT];simp
theorem bK{l:List Tm} : (ar l).length=l.length:=by rw[iD];simp
theorem Zq{l:List Wd}{i:Nat}{e:Wd}(h:l[i]?=some e):(ax l)[i]?=some (hN e):=by rw[mT];simp[h]
theorem sL{l:List Tm}{i:Nat}{e:Tm}(h:l[i]?=some e):(ar l)[i]?=some (cV e):=by rw[iD];simp[h]
def wD:Nat->Wd->Prop
 | 0,w=>w.name.length<=1100000/\w.kids=[]
 | h+1,w=>w.name.length<=1100000/\w.kids.length<=1/\∀ k∈w.kids,wD h k
inductive LW:Nat->Tm->Prop where
 | mk (h:Nat) (k n:Int) (a f wn:cd) (wk:List Wd) (ks:List Tm) (ns:List cd) (h1:-2199023255552<=n/\n<=2199023255552) (hk:-100<=k/\k<=100) (h2:a.length<=1100000/\f.length<=1100000)
   (h3:wD 3 (.mk wn wk)) (h4:ks.length<=3) (h5:∀ t∈ks,LW h t) (h6:ns.length<=8/\∀ s∈ns,s.length<=1100000):LW (h+1) (.mk k n a f wn wk ks ns)
inductive oH (m:Nat):Nat->Tm->Prop where
 | mk (h:Nat) (k n:Int) (a f wn:cd) (wk:List Wd) (ks:List Tm) (ns:List cd) (h1:-2199023255552<=n/\n<=2199023255552) (hk:-100<=k/\k<=100) (h2:a.length<=1100000/\f.length<=1100000)
   (h3:wD 3 (.mk wn wk)) (h4:ks.length<=3) (h5:∀ t∈ks,oH m h t) (h6:ns.length<=m/\∀ s∈ns,s.length<=1100000):oH m (h+1) (.mk k n a f wn wk ks ns)
structure An (m h:Nat) (t:Tm):Prop where
 n:-2199023255552<=t.n/\t.n<=2199023255552
 k:-100<=t.kind/\t.kind<=100
 a:t.name.length<=1100000
 f:t.field.length<=1100000
 w:wD 3 (.mk t.wn t.wk)
 kl:t.kids.length<=3
 kb:∀ u∈t.kids,oH m h u
 nl:t.names.length<=m
 nb:∀ s∈t.names,s.length<=1100000
theorem oH.out{m h:Nat}{t:Tm}(hb:oH m (h+1) t):An m h t:=by
 cases hb with
 | mk h k n a f wn wk ks ns h1 hk h2 h3 h4 h5 h6=>exact⟨h1,hk,h2.1,h2.2,h3,h4,h5,h6.1,h6.2⟩
theorem An.mk'{m h:Nat}{t:Tm}(f:An m h t):oH m (h+1) t:=by
 obtain⟨k,n,a,fd,wn,wk,ks,ns⟩:=t
 exact .mk h k n a fd wn wk ks ns f.n f.k ⟨f.a,f.f⟩ f.w f.kl f.kb ⟨f.nl,f.nb⟩
theorem oH.le{m:Nat}(hm:m<=8):∀ (h h' : Nat) (t:Tm),h<=h'->oH m h t->LW h' t
 | 0,_,t,_,hb=>by cases hb
 | h+1,0,t,hh,_=>by omega
 | h+1,h' + 1,t,hh,hb=>by
  cases hb with
  | mk h k n a f wn wk ks ns h1 hk h2 h3 h4 h5 h6=>exact .mk h' k n a f wn wk ks ns h1 hk h2 h3 h4 (fun u hu=>oH.le hm h h' u (by omega) (h5 u hu)) ⟨by omega,h6.2⟩
theorem oH.up{m m' : Nat}(hm:m<=m'):∀ (h h' : Nat) (t:Tm),h<=h'->oH m h t->oH m' h' t
 | 0,_,t,_,hb=>by cases hb
 | h+1,0,t,hh,_=>by omega
 | h+1,h' + 1,t,hh,hb=>by
  cases hb with
  | mk h k n a f wn wk ks ns h1 hk h2 h3 h4 h5 h6=>exact .mk h' k n a f wn wk ks ns h1 hk h2 h3 h4 (fun u hu=>oH.up hm h h' u (by omega) (h5 u hu)) ⟨by omega,h6.2⟩
theorem bP{f:FuncId}{fn:aP}(ho:A.ov f=none)(hf:A.fns f=some fn){args:List AV}{H:ai}{r:AV × Option gS}(hn:Nat.beq args.length fn.np=true)(hm:fn.muts.elem 777777=true)
  (h:W A fn.body { T:=gY args,H,lo:=H.length,gen:=0 } (yA H.length fn.results fun x=>(mE x.1,x.2)=r)):aE A f args H=some r:=by
 obtain⟨r',h1,h2⟩:=mR (P:=fun x=>x=r) ho hf hn hm h
 rw[h1,h2]
theorem cP{cs:List AV} : mE (.agg cs)=.agg (cs.map n2):=rfl
theorem abW{cs:List AV} : mE (.tuple cs)=.tuple (cs.map n3):=rfl
theorem abT{k:IntKind}{n:Int} : mE (.int k n)=.int k n:=rfl
theorem Kk{l:cd} : mE (.str l)=.str l:=rfl
theorem abU{e:List (List AV)} : mE (.slice e false)=.slice (e.map fun r=>r.map n1) false:=rfl
theorem abV{e:List (List AV)} : mE (.slice e true)=.slice e true:=rfl
theorem abP{cs:List AV} : n3 (.agg cs)=.agg (cs.map n2):=rfl
theorem abQ{k:IntKind}{n:Int} : n3 (.int k n)=.int k n:=rfl
theorem dh{k:IntKind}{n:Int} : n2 (.int k n)=.int k n:=rfl
theorem cL{l:cd} : n2 (.str l)=.str l:=rfl
theorem cO:n2 .af=.slice [] false:=rfl
theorem cH{e:List (List AV)} : n2 (.slice e false)=.slice (e.map fun r=>r.map n1) false:=rfl
theorem di{e:List (List AV)} : n2 (.slice e true)=.slice e true:=rfl
theorem dn{k:IntKind}{n:Int} : n1 (.int k n)=.int k n:=rfl
theorem df{l:cd} : n1 (.str l)=.str l:=rfl
theorem fB{e:List (List AV)}{o:Bool} : n1 (.slice e o)=.slice e o:=rfl
theorem aiV{w:Wd} : (hN w).map n1=hN w:=by rw[iQ];rfl
theorem aiU{t:Tm} : (cV t).map n1=cV t:=by rw[al];rfl
theorem ik{l:List Wd} : ((ax l).map fun r=>r.map n1)=ax l:=by
 rw[mT,apH]
 exact aoA fun w _=>aiV
theorem iv{l:List Tm} : ((ar l).map fun r=>r.map n1)=ar l:=by
 rw[iD,apH]
 exact aoA fun w _=>aiU
theorem ig{l:List cd} : ((strs l).map fun r=>r.map n1)=strs l:=by
 rw[strs,apH]
 exact aoA fun w _=>rfl
structure Cc where
 mm:Nat
 l:List Int
def TJ(c:Cc)(p:Int):List AV:=[.slice (ints c.l) false,.int .i64 p]
def da(c:Cc)(p:Int)(H:ai):ai:=H.set c.mm (.box 65 (TJ c p))
structure CH (c:Cc) (p:Int) (H:ai):Prop where
 h0:H[c.mm]?=some (.box 65 (TJ c p))
 hl:∀ n∈c.l,D1 n
 len:H.length=c.mm+1
theorem CH.lt{c:Cc}{p:Int}{H:ai}(h:CH c p H):c.mm<H.length:=(an2.1 h.h0).1
theorem CH.set{c:Cc}{p p' : Int}{H:ai}(h:CH c p H):CH c p' (da c p' H):=⟨by unfold da;rw[List.getElem?_set_self h.lt],h.hl,by unfold da;rw[List.length_set];exact h.len⟩
theorem bo{c:Cc}{p p' : Int}{H:ai} : da c p (da c p' H)=da c p H:=by unfold da;rw[List.set_set]
theorem bg{c:Cc}{p:Int}{H:ai} : (da c p H).length=H.length:=by unfold da;rw[List.length_set]
theorem bE{c:Cc}{p:Int}{H:ai} : (da c p H).take H.length=da c p H:=aoJ (apy bg)
theorem B2{H:ai}{i:Nat}{o:cJ} : (H.set i o).take H.length=H.set i o:=aoJ (apy List.length_set)
theorem SC{H:ai}{i:Nat}{o:cJ} : (H.set i o).length=H.length:=List.length_set
theorem CH.open{c:Cc}{p:Int}{H:ai}(h:CH c p H)(cs:List AV):rm H.length c.mm (H.set c.mm (.box 65 cs))=true:=by
 have h1:((H.set c.mm (.box 65 cs)).take H.length).drop c.mm=[.box 65 cs]:=by
  rw[B2]
  refine aql fun j=>?_
  rw[aoS,ao8]
  cases j with
  | zero=>simp[h.lt]
  | succ j =>
   rw[if_neg (by omega),apq (by have:=h.len;omega)]
   simp
 unfold rm
 rw[h1]
 cases Nat.beq c.mm H.length<;>rfl
theorem CH.iO{c:Cc}{p p' : Int}{H:ai}(h:CH c p H):rm H.length c.mm (da c p' H)=true:=h.open _
theorem kR{c:Cc}{p:Int}{H:ai}(h:CH c p H)(n:Int)(hn:0<n):∃ x p',0<=x/\x<n/\aE A 16 [.ref c.mm 0,.int .i64 n] H=some (.int .i64 x,some ⟨da c p' H,c.mm⟩):=by
 refine⟨Yu c.l (IntKind.i64.wrap (IntKind.i64.wrap (p+1)-1)) n,IntKind.i64.wrap (p+1),(A8 hn).1,(A8 hn).2,?_⟩
 refine bP (fn:=QG) rfl rfl rfl rfl ?_
 unfold QG
 have h0:=h.h0
 have bA:=h.lt
 have gq:=fun i H=>ahj c.l i n H h.hl hn
 have dN:=h.open
 have lA:∀ x:cJ,(H.set c.mm x)[c.mm]?=some x:=fun x=>List.getElem?_set_self bA
 rw[TJ] at h0
 simp(disch:=omega)only[aV,aa,simprocAttr,h0,lA,dN,aN,List.set_set,SC,B2,gq,da,TJ,abT]
def Kg:List cd:=[[97],[98],[102],[80,111,105,110,116],[83,104,97,112,101],[120,49],[99,111,114,101],[117]]
theorem lt8{x:Int}(h0:0<=x)(h1:x<8):x=0\/x=1\/x=2\/x=3\/x=4\/x=5\/x=6\/x=7:=by omega
theorem mr{c:Cc}{p:Int}{H:ai}(h:CH c p H):∃ s p',s∈Kg/\aE A 15 [.ref c.mm 0] H=some (.str s,some ⟨da c p' H,c.mm⟩):=by
 obtain⟨x,p',h0,h1,fM⟩:=kR h 8 (by omega)
 have bA:=h.lt
 have dN:=h.iO (p':=p')
 refine⟨(Kg[x.toNat]?).getD [],p',?_,?_⟩
 ·rcases lt8 h0 h1 with rfl|rfl|rfl|rfl|rfl|rfl|rfl|rfl<;>decide
 ·refine bP (fn:=QF) rfl rfl rfl rfl ?_
  unfold QF
  rcases lt8 h0 h1 with rfl|rfl|rfl|rfl|rfl|rfl|rfl|rfl
  all_goals
   simp(disch:=omega)only[aV,aa,simprocAttr,fM,dN,aN,bg,bE,Kk]
   rfl
theorem iG:∀ s∈Kg,s.length<=5:=by decide
theorem tK{c:Cc}{p:Int}{H:ai}(h:CH c p H):∃ s p',s.length<=1100000/\aE A 42 [.ref c.mm 0] H=some (.str s,some ⟨da c p' H,c.mm⟩):=by
 obtain⟨x,p1,h0,h1,fM⟩:=kR h 4 (by omega)
 obtain⟨s,p2,hs,oh⟩:=mr (h.set (p':=p1))
 rw[bo] at oh
 have tV:=iG s hs
 have dN:=h.iO (p':=p2)
 have bA:=h.lt
 by_cases hx:x=1
 ·subst hx
  refine⟨[107,46]++s,p2,by simp;omega,bP (fn:=JV) rfl rfl rfl rfl ?_⟩
  unfold JV
  simp(disch:=omega)only[aV,aa,simprocAttr,fM,oh,dN,aN,bg,bE,Kk]
 ·refine⟨s,p2,by omega,bP (fn:=JV) rfl rfl rfl rfl ?_⟩
  unfold JV
  simp(disch:=omega)only[aV,aa,simprocAttr,fM,oh,dN,aN,bg,bE,Kk]
theorem mN{d:Nat}{s:cd}(h:s.length<=1100000):wD d (.mk s []):=by
 cases d with
 | zero=>exact⟨h,rfl⟩
 | succ d=>exact⟨h,by simp[Wd.kids],by simp[Wd.kids]⟩
theorem Yc{d:Nat}{w:Wd}(h:wD d w):wD (d+1) (.mk [76,105,115,116] [w]):=⟨by simp[Wd.name],by simp[Wd.kids],by simp[Wd.kids];exact h⟩
theorem G1{c:Cc} : ∀ (d:Nat) (p:Int) (H:ai),d<=100->CH c p H->∃ w p',wD d w/\aE A 19 [.ref c.mm 0,.int .i64 d] H=some (.agg (hN w),some ⟨da c p' H,c.mm⟩):=by
 intro d
 induction d with
 | zero =>
  intro p H hd h
  obtain⟨x,p1,h0,h1,fM⟩:=kR h 5 (by omega)
  obtain⟨s,p2,hs,qV⟩:=tK (h.set (p':=p1))
  rw[bo] at qV
  have dN:=h.iO (p':=p1)
  have aa5:=h.iO (p':=p2)
  have bA:=h.lt
  by_cases uR:x=1
  ·refine⟨.mk [66,111,111,108] [],p1,mN (by decide),bP (fn:=rb) rfl rfl rfl rfl ?_⟩
   unfold rb
   simp(disch:=omega)only[aV,aa,simprocAttr,fM,dN,aN,bg,bE,cP,aoc,aof,cL,cO,hN,ax]
  by_cases hx2:x=2
  ·refine⟨.mk s [],p2,mN hs,bP (fn:=rb) rfl rfl rfl rfl ?_⟩
   unfold rb
   simp(disch:=omega)only[aV,aa,simprocAttr,fM,qV,aa5,aN,bg,bE,cP,aoc,aof,cL,cO,hN,ax]
  by_cases hx3:x=3
  all_goals
   refine⟨.mk [73,110,116] [],p1,mN (by decide),bP (fn:=rb) rfl rfl rfl rfl ?_⟩
   unfold rb
   simp(disch:=omega)only[aV,aa,simprocAttr,fM,dN,aN,bg,bE,cP,aoc,aof,cL,cO,hN,ax]
 | succ d ih =>
  intro p H hd h
  obtain⟨x,p1,h0,h1,fM⟩:=kR h 5 (by omega)
  obtain⟨s,p2,hs,qV⟩:=tK (h.set (p':=p1))
  rw[bo] at qV
  obtain⟨w,p3,hw,YQ⟩:=ih p1 (da c p1 H) (by omega) h.set
  rw[bo,iQ] at YQ
  have dN:=h.iO (p':=p1)
  have aa5:=h.iO (p':=p2)
  have ail:=h.iO (p':=p3)
  have bA:=h.lt
  have wU:(d:Int)+1-1=d:=by omega
  by_cases uR:x=1
  ·refine⟨.mk [66,111,111,108] [],p1,mN (by decide),bP (fn:=rb) rfl rfl rfl rfl ?_⟩
   unfold rb
   simp(disch:=omega)only[aV,aa,simprocAttr,fM,dN,aN,bg,bE,cP,aoc,aof,cL,cO,hN,ax]
  by_cases hx2:x=2
  ·refine⟨.mk s [],p2,mN hs,bP (fn:=rb) rfl rfl rfl rfl ?_⟩
   unfold rb
   simp(disch:=omega)only[aV,aa,simprocAttr,fM,qV,aa5,aN,bg,bE,cP,aoc,aof,cL,cO,hN,ax]
  by_cases hx3:x=3
  ·refine⟨.mk [76,105,115,116] [w],p3,Yc hw,bP (fn:=rb) rfl rfl rfl rfl ?_⟩
   unfold rb
   simp(disch:=omega)only[aV,aa,simprocAttr,fM,wU,YQ,ail,aN,bg,bE,cP,aoc,aof,cL,cO,cH,di,df,fB,hN,ax,iQ]
  ·refine⟨.mk [73,110,116] [],p1,mN (by decide),bP (fn:=rb) rfl rfl rfl rfl ?_⟩
   unfold rb
   simp(disch:=omega)only[aV,aa,simprocAttr,fM,dN,aN,bg,bE,cP,aoc,aof,cL,cO,hN,ax]
theorem xf{t:Tm} : (cV t).length=8:=by rw[al];rfl
theorem ajb{t:Tm} : RO (cV t)=true:=by
 rw[al];simp only[Sf,Se,Zg,Zi,Zh,ao9]
theorem SN{l:List Tm} : wC 8 (ar l):=by
 rw[iD]
 exact⟨fun r hr=>by simp only[aoD] at hr;obtain⟨n,_,rfl⟩:=hr;exact xf,wa fun r hr=>by simp only[aoD] at hr;obtain⟨n,_,rfl⟩:=hr;exact ajb⟩
theorem Ox{l m:List Tm}{o:Bool}(h:l.length+m.length<=100000000):aF false 8 136 (.slice (ar l) true) (.slice (ar m) o)=some (.slice (ar (l++m)) true):=by
 rw[vy SN SN (by rw[bK,bK];omega) (by rw[bK,bK];omega)];simp[iD]
theorem Ow{l:List Tm}{t:Tm}{o:Bool}(h:l.length<=10000000):aF false 8 136 (.slice (ar l) true) (.slice [[.int .i64 t.kind,.int .i64 t.n,.str t.name,.str t.field,.str t.wn,.slice (ax t.wk) false,.slice (ar t.kids) false,.slice (strs t.names) false]] o)=some (.slice (ar (l++[t])) true):=by
 have:=Ox (l:=l) (m:=[t]) (o:=o) (by simp;omega)
 rw[show ar [t]=[cV t] by simp[ar],al] at this
 exact this
theorem LR:ar []=[]:=by simp[ar]
def x7(c:Cc)(d:Nat):Prop:=∀ (p:Int) (H:ai),CH c p H->∃ t p',oH 4 (d+1) t/\aE A 20 [.ref c.mm 0,.int .i64 d] H=some (.agg (cV t),some ⟨da c p' H,c.mm⟩)
theorem DS{c:Cc}{d:Nat}(hS:x7 c d)(gU:Int)(h0:0<=gU/\gU<=1000)(p:Int)(H:ai)(h:CH c p H) :
  ∃ l p',(l.length:Int)<=gU/\(∀ t∈l,oH 4 (d+1) t)/\aE A 43 [.ref c.mm 0,.int .i64 d,.int .i64 gU] H=some (.slice (ar l) false,some ⟨da c p' H,c.mm⟩):=by
 have key:∃ r,aE A 43 [.ref c.mm 0,.int .i64 d,.int .i64 gU] H=some r/\∃ l p',(l.length:Int)<=gU/\(∀ t∈l,oH 4 (d+1) t)/\r=(.slice (ar l) false,some ⟨da c p' H,c.mm⟩):=by
  obtain⟨x,p1,ze,uR,fM⟩:=kR h (gU+1) (by omega)
  have bA:=h.lt
  refine mR (fn:=QT) rfl rfl rfl rfl ?_
  unfold QT
  simp(disch:=omega)only[aV,aa,simprocAttr,fM]
  refine cK x.toNat 0 (fun i s=>∃ T p1 acc,s=⟨T,da c p1 H,c.mm,0⟩/\T 0=.ref c.mm 0/\T 1=.int .i64 d/\T 7=.slice (ar acc) true/\T 8=.int .i64 x/\T 9=.int .i64 i/\acc.length=i/\∀ t∈acc,oH 4 (d+1) t)
   (fun s=>∃ T p1 acc,s=⟨T,da c p1 H,c.mm,0⟩/\T 7=.slice (ar acc) true/\(acc.length:Int)<=gU/\∀ t∈acc,oH 4 (d+1) t) (fun _=>False) ?_ ?_ (fun _ h=>h.elim) 0 _ (by omega) ?_
  ·rintro i s hi ⟨T,p1,acc,rfl,e0,e1,e7,e8,e9,hl,hb⟩
   by_cases hc:(i:Int)<x
   ·obtain⟨t,p2,ht,wT⟩:=hS p1 (da c p1 H) h.set
    rw[bo,al] at wT
    simp(disch:=omega)only[aY,aa,simprocAttr,e0,e1,e7,e8,e9,wT,Ow]
    exact⟨by omega,_,p2,acc++[t],rfl,by simp(disch:=omega)only[aV,aa,simprocAttr,e0,e1,e7,e8,e9],by simp(disch:=omega)only[aV,aa,simprocAttr,e0,e1,e7,e8,e9],by simp(disch:=omega)only[aV,aa,simprocAttr],by simp(disch:=omega)only[aV,aa,simprocAttr,e8],by simp(disch:=omega)only[aV,aa,simprocAttr],by simp[hl],fun u hu=>by
     rcases an9.1 hu with hu|hu
     ·exact hb u hu
     ·rw[aom.1 hu];exact ht⟩
   ·simp(disch:=omega)only[aY,aa,simprocAttr,e0,e1,e7,e8,e9]
    exact⟨_,p1,acc,rfl,e7,by omega,hb⟩
  ·rintro s ⟨T,p1,acc,rfl,e7,hl,hb⟩
   have dN:=h.iO (p':=p1)
   simp(disch:=omega)only[aV,aa,simprocAttr,e7,dN,bg,bE,abU,iv]
   exact⟨acc,p1,hl,hb,rfl,rfl⟩
  ·exact⟨_,p1,[],rfl,by simp(disch:=omega)only[aV,aa,simprocAttr,LR];simp⟩
 obtain⟨r,h1,l,p',h2,h3,rfl⟩:=key
 exact⟨l,p',h2,h3,h1⟩
theorem j7{h:Nat} : wD h (.mk [] []):=mN (by decide)
theorem p9{a b:Int}(h:0<=a):a.tdiv b=a / b:=Int.tdiv_eq_ediv_of_nonneg h
theorem gQ{a b:Int}(h:0<=a):a.tmod b=a % b:=Int.tmod_eq_emod_of_nonneg h
theorem ji{h:Nat}{k n:Int}{a:cd}(h1:-2199023255552<=n/\n<=2199023255552)(hk:0<=k/\k<=100)(h2:a.length<=1100000):oH 4 (h+1) (.mk k n a [] [] [] [] []) :=
 .mk h k n a [] [] [] [] [] h1 (by omega) ⟨h2,by decide⟩ j7 (by decide) (by simp) ⟨by decide,by simp⟩
theorem lt4{x:Int}(h0:0<=x)(h1:x<4):x=0\/x=1\/x=2\/x=3:=by omega
theorem lt2{x:Int}(h0:0<=x)(h1:x<2):x=0\/x=1:=by omega
theorem agu{c:Cc} : x7 c 0:=by
 intro p H h
 obtain⟨x,p1,ze,uR,fM⟩:=kR h 24 (by omega)
 have hm:0<=x % 5/\x % 5<5:=by omega
 have bA:=h.lt
 by_cases c0:x % 5=0
 ·obtain⟨y,p2,y0,y1,iR⟩:=kR (h.set (p':=p1)) 30 (by omega)
  rw[bo] at iR
  have dN:=h.iO (p':=p2)
  refine⟨.mk 0 (y-9) [] [] [] [] [] [],p2,ji (by omega) (by omega) (by decide),bP (fn:=fj) rfl rfl rfl rfl ?_⟩
  unfold fj
  simp(disch:=omega)only[aY,aa,simprocAttr,fM,iR,dN,c0,gQ,aN,bg,bE,cP,aoc,aof,dh,cL,cO,cH,di,dn,df,fB,iv,ik,ig,al,ar,ax,strs,Tm.kind,Tm.n,Tm.name,Tm.field,Tm.wn,Tm.wk,Tm.kids,Tm.names]
 by_cases c1:x % 5=1
 ·obtain⟨y,p2,y0,y1,iR⟩:=kR (h.set (p':=p1)) 4 (by omega)
  rw[bo] at iR
  have dN:=h.iO (p':=p2)
  rcases lt4 y0 y1 with rfl|rfl|rfl|rfl
  ·refine⟨.mk 0 0 [] [] [] [] [] [],p2,ji (by omega) (by omega) (by decide),bP (fn:=fj) rfl rfl rfl rfl ?_⟩
   unfold fj
   simp(disch:=omega)only[aY,aa,simprocAttr,fM,iR,dN,c1,gQ,aN,bg,bE,cP,aoc,aof,dh,cL,cO,cH,di,dn,df,fB,iv,ik,ig,al,ar,ax,strs,Tm.kind,Tm.n,Tm.name,Tm.field,Tm.wn,Tm.wk,Tm.kids,Tm.names]
  ·refine⟨.mk 0 1099511627776 [] [] [] [] [] [],p2,ji (by omega) (by omega) (by decide),bP (fn:=fj) rfl rfl rfl rfl ?_⟩
   unfold fj
   simp(disch:=omega)only[aY,aa,simprocAttr,fM,iR,dN,c1,gQ,aN,bg,bE,cP,aoc,aof,dh,cL,cO,cH,di,dn,df,fB,iv,ik,ig,al,ar,ax,strs,Tm.kind,Tm.n,Tm.name,Tm.field,Tm.wn,Tm.wk,Tm.kids,Tm.names]
  ·refine⟨.mk 0 (-1099511627776) [] [] [] [] [] [],p2,ji (by omega) (by omega) (by decide),bP (fn:=fj) rfl rfl rfl rfl ?_⟩
   unfold fj
   simp(disch:=omega)only[aY,aa,simprocAttr,fM,iR,dN,c1,gQ,aN,bg,bE,cP,aoc,aof,dh,cL,cO,cH,di,dn,df,fB,iv,ik,ig,al,ar,ax,strs,Tm.kind,Tm.n,Tm.name,Tm.field,Tm.wn,Tm.wk,Tm.kids,Tm.names]
  ·refine⟨.mk 0 10 [] [] [] [] [] [],p2,ji (by omega) (by omega) (by decide),bP (fn:=fj) rfl rfl rfl rfl ?_⟩
   unfold fj
   simp(disch:=omega)only[aY,aa,simprocAttr,fM,iR,dN,c1,gQ,aN,bg,bE,cP,aoc,aof,dh,cL,cO,cH,di,dn,df,fB,iv,ik,ig,al,ar,ax,strs,Tm.kind,Tm.n,Tm.name,Tm.field,Tm.wn,Tm.wk,Tm.kids,Tm.names]
 by_cases c2:x % 5=2
 ·obtain⟨y,p2,y0,y1,iR⟩:=kR (h.set (p':=p1)) 2 (by omega)
  rw[bo] at iR
  have dN:=h.iO (p':=p2)
  refine⟨.mk 1 y [] [] [] [] [] [],p2,ji (by omega) (by omega) (by decide),bP (fn:=fj) rfl rfl rfl rfl ?_⟩
  unfold fj
  simp(disch:=omega)only[aY,aa,simprocAttr,fM,iR,dN,c2,gQ,aN,bg,bE,cP,aoc,aof,dh,cL,cO,cH,di,dn,df,fB,iv,ik,ig,al,ar,ax,strs,Tm.kind,Tm.n,Tm.name,Tm.field,Tm.wn,Tm.wk,Tm.kids,Tm.names]
 obtain⟨s,p2,sh,iR⟩:=mr (h.set (p':=p1))
 have sl:=iG _ sh
 rw[bo] at iR
 have dN:=h.iO (p':=p2)
 refine⟨.mk 2 0 s [] [] [] [] [],p2,ji (by omega) (by omega) (by omega),bP (fn:=fj) rfl rfl rfl rfl ?_⟩
 unfold fj
 simp(disch:=omega)only[aY,aa,simprocAttr,fM,iR,dN,gQ,aN,bg,bE,cP,aoc,aof,dh,cL,cO,cH,di,dn,df,fB,iv,ik,ig,al,ar,ax,strs,Tm.kind,Tm.n,Tm.name,Tm.field,Tm.wn,Tm.wk,Tm.kids,Tm.names]
theorem RF{P:Tm->Prop}{a:Tm}(h:P a):∀ t∈[a],P t:=fun t ht=>by rw[aom.1 ht];exact h
theorem v8{P:Tm->Prop}{a b:Tm}(h:P a)(h2:P b):∀ t∈[a,b],P t:=fun t ht=>by
 rcases aoH.1 ht with rfl|ht
 ·exact h
 ·exact RF h2 t ht
theorem afw{P:Tm->Prop}{a b d:Tm}(h:P a)(h2:P b)(h3:P d):∀ t∈[a,b,d],P t:=fun t ht=>by
 rcases aoH.1 ht with rfl|ht
 ·exact h
 ·exact v8 h2 h3 t ht
theorem mc:(0:Nat)<=4/\∀ s∈([]:List cd),s.length<=1100000:=⟨by decide,by simp⟩
theorem kj{h:Nat}{k n:Int}{a f wn:cd}{wk:List Wd}{ks:List Tm}{ns:List cd}(h5:∀ t∈ks,oH 4 h t)(h4:ks.length<=3)(h1:-2199023255552<=n/\n<=2199023255552)(hk:0<=k/\k<=100)(h2:a.length<=1100000/\f.length<=1100000)
  (h3:wD 3 (.mk wn wk)) (h6:ns.length<=4/\∀ s∈ns,s.length<=1100000):oH 4 (h+1) (.mk k n a f wn wk ks ns):=.mk h k n a f wn wk ks ns h1 (by omega) h2 h3 h4 h5 h6
theorem S8{d d' : Nat} : ∀ {w:Wd},d<=d'->wD d w->wD d' w:=by
 induction d generalizing d' with
 | zero =>
  intro w _ h
  cases d' with
  | zero=>exact h
  | succ d'=>exact⟨h.1,by rw[h.2];simp,by rw[h.2];simp⟩
 | succ d ih =>
  intro w hd h
  cases d' with
  | zero=>omega
  | succ d'=>exact⟨h.1,h.2.1,fun k hk=>ih (by omega) (h.2.2 k hk)⟩
theorem agv{c:Cc}{d:Nat}(ih:x7 c d){p p1:Int}{H:ai}(h:CH c p H)(fM:aE A 16 [.ref c.mm 0,.int .i64 24] H=some (.int .i64 9,some ⟨da c p1 H,c.mm⟩))(hd:d<=100) :
  ∃ t p',oH 4 (d+1+1) t/\aE A 20 [.ref c.mm 0,.int .i64 ((d+1:Nat):Int)] H=some (.agg (cV t),some ⟨da c p' H,c.mm⟩):=by
 have key:∃ r,aE A 20 [.ref c.mm 0,.int .i64 ((d+1:Nat):Int)] H=some r/\∃ t p',oH 4 (d+1+1) t/\r=(.agg (cV t),some ⟨da c p' H,c.mm⟩):=by
  have bA:=h.lt
  have wU:(d:Int)+1-1=d:=by omega
  obtain⟨l,p2,ln,lh,iR⟩:=DS ih 2 (by omega) p1 (da c p1 H) h.set
  rw[bo] at iR
  refine mR (fn:=fj) rfl rfl rfl rfl ?_
  unfold fj
  simp(disch:=omega)only[aY,aa,simprocAttr,fM,iR,wU]
  refine cK l.length 1 (fun i s=>∃ T p3 acc,s=⟨T,da c p3 H,c.mm,1⟩/\T 0=.ref c.mm 0/\T 4=.lbox 0 [.int .i64 0,.int .i64 0,.str [],.str [],.str [],.af,.af,.af]/\T 6=.slice (ar l) false/\T 7=.slice (strs acc) true/\T 8=.int .i64 i/\acc.length=i/\∀ s∈acc,s.length<=1100000)
   (fun s=>∃ T p3 acc,s=⟨T,da c p3 H,c.mm,1⟩/\T 0=.ref c.mm 0/\T 4=.lbox 0 [.int .i64 0,.int .i64 0,.str [],.str [],.str [],.af,.af,.af]/\T 6=.slice (ar l) false/\T 7=.slice (strs acc) true/\acc.length<=l.length/\∀ s∈acc,s.length<=1100000) (fun _=>False) ?_ ?_ (fun _ h=>h.elim) 0 _ (by omega) ?_
  ·rintro i s hi ⟨T,p3,acc,rfl,e0,e4,e6,e7,e8,hl,hb⟩
   by_cases hc:i<l.length
   ·obtain⟨s,p4,hs,oh⟩:=mr (h.set (p':=p3))
    rw[bo] at oh
    have tV:=iG s hs
    have AK:aF false 1 16 (.slice (strs acc) true) (.slice [[.str s]] true)=some (.slice (strs (acc++[s])) true):=fV (by omega)
    simp(disch:=omega)only[aY,aa,simprocAttr,e0,e6,e7,e8,bK,oh,AK]
    refine⟨by omega,_,p4,acc++[s],rfl,by simp(disch:=omega)only[aV,aa,simprocAttr,e0],by simp(disch:=omega)only[aV,aa,simprocAttr,e4],by simp(disch:=omega)only[aV,aa,simprocAttr,e6],by simp(disch:=omega)only[aV,aa,simprocAttr],by simp(disch:=omega)only[aV,aa,simprocAttr],by simp[hl],fun u hu=>?_⟩
    rcases an9.1 hu with hu|hu
    ·exact hb u hu
    ·rw[aom.1 hu];omega
   ·simp(disch:=omega)only[aY,aa,simprocAttr,e0,e6,e7,e8,bK]
    exact⟨_,p3,acc,rfl,e0,e4,e6,e7,by omega,hb⟩
  ·rintro s ⟨T,p3,acc,rfl,e0,e4,e6,e7,hl,hb⟩
   obtain⟨s,p4,hs,qV⟩:=tK (h.set (p':=p3))
   rw[bo] at qV
   have dN:=h.iO (p':=p4)
   simp(disch:=omega)only[aY,aa,simprocAttr,e0,e4,e6,e7,qV,dN,aN,bg,bE,cP,aoc,aof,dh,cL,cO,cH,di,dn,df,fB,iv,ik,ig]
   exact⟨.mk 7 0 s [] [] [] l acc,p4,kj lh (by omega) (by omega) (by omega) ⟨hs,by decide⟩ j7 ⟨by omega,hb⟩,by simp only[cV,ax];exact⟨trivial,trivial⟩⟩
  ·exact⟨_,p2,[],rfl,by simp(disch:=omega)only[aV,aa,simprocAttr,strs];simp⟩
 obtain⟨r,h1,t,p',h2,rfl⟩:=key
 exact⟨t,p',h2,h1⟩
theorem ZD{t u:Tm}{l:List Tm}{o:Bool}(h:l.length<=1000):aF false 8 136 (.slice [[.int .i64 t.kind,.int .i64 t.n,.str t.name,.str t.field,.str t.wn,.slice (ax t.wk) false,.slice (ar t.kids) false,.slice (strs t.names) false],[.int .i64 u.kind,.int .i64 u.n,.str u.name,.str u.field,.str u.wn,.slice (ax u.wk) false,.slice (ar u.kids) false,.slice (strs u.names) false]] true) (.slice (ar l) o)=some (.slice (ar ([t,u]++l)) true):=by
 have:=Ox (l:=[t,u]) (m:=l) (o:=o) (by simp;omega)
 rw[show ar [t,u]=[cV t,cV u] by simp[ar],al t,al u] at this
 exact this
theorem Ix{l:List cd}{a b:cd}{o:Bool}(h:l.length<=1000):aF false 1 16 (.slice (strs l) true) (.slice [[.str a],[.str b]] o)=some (.slice (strs (l++[a,b])) true):=cD (m:=[a,b]) (by simp;omega)
theorem ac3{c:Cc}{d:Nat}(ih:x7 c d){p p1:Int}{H:ai}(h:CH c p H)(fM:aE A 16 [.ref c.mm 0,.int .i64 24] H=some (.int .i64 12,some ⟨da c p1 H,c.mm⟩))(hd:d<=100) :
  ∃ t p',oH 4 (d+1+1) t/\aE A 20 [.ref c.mm 0,.int .i64 ((d+1:Nat):Int)] H=some (.agg (cV t),some ⟨da c p' H,c.mm⟩):=by
 have key:∃ r,aE A 20 [.ref c.mm 0,.int .i64 ((d+1:Nat):Int)] H=some r/\∃ t p',oH 4 (d+1+1) t/\r=(.agg (cV t),some ⟨da c p' H,c.mm⟩):=by
  have bA:=h.lt
  have wU:(d:Int)+1-1=d:=by omega
  obtain⟨t,p2,th,iR⟩:=ih p1 (da c p1 H) h.set
  rw[bo,al] at iR
  obtain⟨u,p3,uh,pP⟩:=ih p2 (da c p2 H) h.set
  rw[bo,al] at pP
  obtain⟨l,p4,ln,lh,uL⟩:=DS ih 1 (by omega) p3 (da c p3 H) h.set
  rw[bo] at uL
  have AK:=ZD (t:=t) (u:=u) (l:=l) (o:=false) (by omega)
  have GF:∀ s∈[t,u]++l,oH 4 (d+1) s:=fun s hs=>by
   rcases an9.1 hs with hs|hs
   ·exact v8 (P:=oH 4 (d+1)) th uh s hs
   ·exact lh s hs
  obtain⟨k,hk⟩:∃ k,k=[t,u]++l:=⟨_,rfl⟩
  have og:2<=k.length/\k.length<=3:=by rw[hk];simp;omega
  rw[<- hk] at AK GF
  refine mR (fn:=fj) rfl rfl rfl rfl ?_
  unfold fj
  simp(disch:=omega)only[aY,aa,simprocAttr,fM,iR,pP,uL,wU,AK]
  refine cK (k.length-1) 3 (fun i s=>∃ T p3 acc,s=⟨T,da c p3 H,c.mm,1⟩/\T 0=.ref c.mm 0/\T 4=.lbox 0 [.int .i64 0,.int .i64 0,.str [],.str [],.str [],.af,.af,.af]/\T 9=.slice (ar k) true/\T 10=.slice (strs acc) true/\T 11=.int .i64 (i+1)/\acc.length=2*i/\∀ s∈acc,s.length<=1100000)
   (fun s=>∃ T p3 acc,s=⟨T,da c p3 H,c.mm,1⟩/\T 0=.ref c.mm 0/\T 4=.lbox 0 [.int .i64 0,.int .i64 0,.str [],.str [],.str [],.af,.af,.af]/\T 9=.slice (ar k) true/\T 10=.slice (strs acc) true/\acc.length<=4/\∀ s∈acc,s.length<=1100000) (fun _=>False) ?_ ?_ (fun _ h=>h.elim) 0 _ (by omega) ?_
  ·rintro i s hi ⟨T,p3,acc,rfl,e0,e4,e9,ZT,ZU,hl,hb⟩
   by_cases hc:i+1<k.length
   ·obtain⟨a,p4,ha,oh⟩:=mr (h.set (p':=p3))
    rw[bo] at oh
    have GF:=iG a ha
    obtain⟨b,p5,lT,PO⟩:=mr (h.set (p':=p4))
    rw[bo] at PO
    have hbl:=iG b lT
    have aex:aF false 1 16 (.slice (strs acc) true) (.slice [[.str a],[.str b]] true)=some (.slice (strs (acc++[a,b])) true):=Ix (by omega)
    simp(disch:=omega)only[aY,aa,simprocAttr,e0,e9,ZT,ZU,bK,oh,PO,aex]
    refine⟨by omega,_,p5,acc++[a,b],rfl,by simp(disch:=omega)only[aV,aa,simprocAttr,e0],by simp(disch:=omega)only[aV,aa,simprocAttr,e4],by simp(disch:=omega)only[aV,aa,simprocAttr,e9],by simp(disch:=omega)only[aV,aa,simprocAttr],by simp(disch:=omega)only[aV,aa,simprocAttr],by simp[hl];omega,fun u hu=>?_⟩
    rcases an9.1 hu with hu|hu
    ·exact hb u hu
    ·rcases aoH.1 hu with rfl|hu
     ·omega
     ·rw[aom.1 hu];omega
   ·simp(disch:=omega)only[aY,aa,simprocAttr,e0,e9,ZT,ZU,bK]
    exact⟨_,p3,acc,rfl,e0,e4,e9,ZT,by omega,hb⟩
  ·rintro s ⟨T,p3,acc,rfl,e0,e4,e9,ZT,hl,hb⟩
   obtain⟨s,p4,hs,qV⟩:=tK (h.set (p':=p3))
   rw[bo] at qV
   have dN:=h.iO (p':=p4)
   simp(disch:=omega)only[aY,aa,simprocAttr,e0,e4,e9,ZT,qV,dN,aN,bg,bE,cP,aoc,aof,dh,cL,cO,cH,di,dn,df,fB,iv,ik,ig]
   exact⟨.mk 10 0 s [] [] [] k acc,p4,kj GF (by omega) (by omega) (by omega) ⟨hs,by decide⟩ j7 ⟨by omega,hb⟩,by simp only[cV,ax];exact⟨trivial,trivial⟩⟩
  ·exact⟨_,p4,[],rfl,by simp(disch:=omega)only[aV,aa,simprocAttr,strs];simp⟩
 obtain⟨r,h1,t,p',h2,rfl⟩:=key
 exact⟨t,p',h2,h1⟩
theorem agw{c:Cc}{d:Nat}(hd:d<=100)(ih:x7 c d):x7 c (d+1):=by
 intro p H h
 obtain⟨x,p1,ze,uR,fM⟩:=kR h 24 (by omega)
 have bA:=h.lt
 have wU:(d:Int)+1-1=d:=by omega
 by_cases c0:x=0
 ·obtain⟨y,p2,y0,y1,iR⟩:=kR (h.set (p':=p1)) 30 (by omega)
  rw[bo] at iR
  have dN:=h.iO (p':=p2)
  refine⟨.mk 0 (y-9) [] [] [] [] [] [],p2,ji (by omega) (by omega) (by decide),bP (fn:=fj) rfl rfl rfl rfl ?_⟩
  unfold fj
  simp(disch:=omega)only[aY,aa,simprocAttr,fM,iR,dN,c0,aN,bg,bE,cP,aoc,aof,dh,cL,cO,cH,di,dn,df,fB,iv,ik,ig,al,ar,ax,strs,Tm.kind,Tm.n,Tm.name,Tm.field,Tm.wn,Tm.wk,Tm.kids,Tm.names]
 by_cases c1:x=1
 ·obtain⟨y,p2,y0,y1,iR⟩:=kR (h.set (p':=p1)) 4 (by omega)
  rw[bo] at iR
  have dN:=h.iO (p':=p2)
  rcases lt4 y0 y1 with rfl|rfl|rfl|rfl
  ·refine⟨.mk 0 0 [] [] [] [] [] [],p2,ji (by omega) (by omega) (by decide),bP (fn:=fj) rfl rfl rfl rfl ?_⟩
   unfold fj
   simp(disch:=omega)only[aY,aa,simprocAttr,fM,iR,dN,c1,aN,bg,bE,cP,aoc,aof,dh,cL,cO,cH,di,dn,df,fB,iv,ik,ig,al,ar,ax,strs,Tm.kind,Tm.n,Tm.name,Tm.field,Tm.wn,Tm.wk,Tm.kids,Tm.names]
  ·refine⟨.mk 0 1099511627776 [] [] [] [] [] [],p2,ji (by omega) (by omega) (by decide),bP (fn:=fj) rfl rfl rfl rfl ?_⟩
   unfold fj
   simp(disch:=omega)only[aY,aa,simprocAttr,fM,iR,dN,c1,aN,bg,bE,cP,aoc,aof,dh,cL,cO,cH,di,dn,df,fB,iv,ik,ig,al,ar,ax,strs,Tm.kind,Tm.n,Tm.name,Tm.field,Tm.wn,Tm.wk,Tm.kids,Tm.names]
  ·refine⟨.mk 0 (-1099511627776) [] [] [] [] [] [],p2,ji (by omega) (by omega) (by decide),bP (fn:=fj) rfl rfl rfl rfl ?_⟩
   unfold fj
   simp(disch:=omega)only[aY,aa,simprocAttr,fM,iR,dN,c1,aN,bg,bE,cP,aoc,aof,dh,cL,cO,cH,di,dn,df,fB,iv,ik,ig,al,ar,ax,strs,Tm.kind,Tm.n,Tm.name,Tm.field,Tm.wn,Tm.wk,Tm.kids,Tm.names]
  ·refine⟨.mk 0 10 [] [] [] [] [] [],p2,ji (by omega) (by omega) (by decide),bP (fn:=fj) rfl rfl rfl rfl ?_⟩
   unfold fj
   simp(disch:=omega)only[aY,aa,simprocAttr,fM,iR,dN,c1,aN,bg,bE,cP,aoc,aof,dh,cL,cO,cH,di,dn,df,fB,iv,ik,ig,al,ar,ax,strs,Tm.kind,Tm.n,Tm.name,Tm.field,Tm.wn,Tm.wk,Tm.kids,Tm.names]
 by_cases c2:x=2
 ·obtain⟨y,p2,y0,y1,iR⟩:=kR (h.set (p':=p1)) 2 (by omega)
  rw[bo] at iR
  have dN:=h.iO (p':=p2)
  refine⟨.mk 1 y [] [] [] [] [] [],p2,ji (by omega) (by omega) (by decide),bP (fn:=fj) rfl rfl rfl rfl ?_⟩
  unfold fj
  simp(disch:=omega)only[aY,aa,simprocAttr,fM,iR,dN,c2,aN,bg,bE,cP,aoc,aof,dh,cL,cO,cH,di,dn,df,fB,iv,ik,ig,al,ar,ax,strs,Tm.kind,Tm.n,Tm.name,Tm.field,Tm.wn,Tm.wk,Tm.kids,Tm.names]
 by_cases c5:x=5
 ·obtain⟨s,p2,sl,iR⟩:=tK (h.set (p':=p1))
  rw[bo] at iR
  obtain⟨l,p3,ln,lh,pP⟩:=DS ih 3 (by omega) p2 (da c p2 H) h.set
  rw[bo] at pP
  have dN:=h.iO (p':=p3)
  refine⟨.mk 3 0 s [] [] [] l [],p3,kj lh (by omega) (by omega) (by omega) ⟨sl,by decide⟩ j7 mc,bP (fn:=fj) rfl rfl rfl rfl ?_⟩
  unfold fj
  simp(disch:=omega)only[aY,aa,simprocAttr,fM,iR,pP,dN,c5,wU,aN,bg,bE,cP,aoc,aof,dh,cL,cO,cH,di,dn,df,fB,iv,ik,ig,al,ar,ax,strs,Tm.kind,Tm.n,Tm.name,Tm.field,Tm.wn,Tm.wk,Tm.kids,Tm.names]
 by_cases c6:x=6
 ·obtain⟨t,p2,th,iR⟩:=ih p1 (da c p1 H) h.set
  rw[bo,al] at iR
  obtain⟨u,p3,uh,pP⟩:=ih p2 (da c p2 H) h.set
  rw[bo,al] at pP
  obtain⟨v,p4,vh,uL⟩:=ih p3 (da c p3 H) h.set
  rw[bo,al] at uL
  have dN:=h.iO (p':=p4)
  refine⟨.mk 5 0 [] [] [] [] [t,u,v] [],p4,kj (afw th uh vh) (by simp) (by omega) (by omega) ⟨by decide,by decide⟩ j7 mc,bP (fn:=fj) rfl rfl rfl rfl ?_⟩
  unfold fj
  simp(disch:=omega)only[aY,aa,simprocAttr,fM,iR,pP,uL,dN,c6,wU,aN,bg,bE,cP,aoc,aof,dh,cL,cO,cH,di,dn,df,fB,iv,ik,ig,al,ar,ax,strs,Tm.kind,Tm.n,Tm.name,Tm.field,Tm.wn,Tm.wk,Tm.kids,Tm.names]
 by_cases c7:x=7
 ·obtain⟨s,p2,sh,iR⟩:=mr (h.set (p':=p1))
  have sl:=iG _ sh
  rw[bo] at iR
  obtain⟨t,p3,th,pP⟩:=ih p2 (da c p2 H) h.set
  rw[bo,al] at pP
  obtain⟨u,p4,uh,uL⟩:=ih p3 (da c p3 H) h.set
  rw[bo,al] at uL
  have dN:=h.iO (p':=p4)
  refine⟨.mk 6 0 [] [] [] [] [t,u] [s],p4,kj (v8 th uh) (by simp) (by omega) (by omega) ⟨by decide,by decide⟩ j7 ⟨by simp,by simp;omega⟩,bP (fn:=fj) rfl rfl rfl rfl ?_⟩
  unfold fj
  simp(disch:=omega)only[aY,aa,simprocAttr,fM,iR,pP,uL,dN,c7,wU,aN,bg,bE,cP,aoc,aof,dh,cL,cO,cH,di,dn,df,fB,iv,ik,ig,al,ar,ax,strs,Tm.kind,Tm.n,Tm.name,Tm.field,Tm.wn,Tm.wk,Tm.kids,Tm.names]
 by_cases c8:x=8
 ·obtain⟨s,p2,sh,iR⟩:=mr (h.set (p':=p1))
  have sl:=iG _ sh
  rw[bo] at iR
  obtain⟨r,p3,rh,pP⟩:=mr (h.set (p':=p2))
  have rl:=iG _ rh
  rw[bo] at pP
  obtain⟨t,p4,th,uL⟩:=ih p3 (da c p3 H) h.set
  rw[bo,al] at uL
  obtain⟨u,p5,uh,hc5⟩:=ih p4 (da c p4 H) h.set
  rw[bo,al] at hc5
  obtain⟨v,p6,vh,hc6⟩:=ih p5 (da c p5 H) h.set
  rw[bo,al] at hc6
  have dN:=h.iO (p':=p6)
  refine⟨.mk 12 0 [] [] [] [] [t,u,v] [s,r],p6,kj (afw th uh vh) (by simp) (by omega) (by omega) ⟨by decide,by decide⟩ j7 ⟨by simp,by simp;omega⟩,bP (fn:=fj) rfl rfl rfl rfl ?_⟩
  unfold fj
  simp(disch:=omega)only[aY,aa,simprocAttr,fM,iR,pP,uL,hc5,hc6,dN,c8,wU,aN,bg,bE,cP,aoc,aof,dh,cL,cO,cH,di,dn,df,fB,iv,ik,ig,al,ar,ax,strs,Tm.kind,Tm.n,Tm.name,Tm.field,Tm.wn,Tm.wk,Tm.kids,Tm.names]
 by_cases c10:x=10
 ·obtain⟨s,p2,sl,iR⟩:=tK (h.set (p':=p1))
  rw[bo] at iR
  obtain⟨r,p3,rh,pP⟩:=mr (h.set (p':=p2))
  have rl:=iG _ rh
  rw[bo] at pP
  obtain⟨t,p4,th,uL⟩:=ih p3 (da c p3 H) h.set
  rw[bo,al] at uL
  have dN:=h.iO (p':=p4)
  refine⟨.mk 8 0 s r [] [] [t] [],p4,kj (RF th) (by simp) (by omega) (by omega) ⟨sl,by omega⟩ j7 mc,bP (fn:=fj) rfl rfl rfl rfl ?_⟩
  unfold fj
  simp(disch:=omega)only[aY,aa,simprocAttr,fM,iR,pP,uL,dN,c10,wU,aN,bg,bE,cP,aoc,aof,dh,cL,cO,cH,di,dn,df,fB,iv,ik,ig,al,ar,ax,strs,Tm.kind,Tm.n,Tm.name,Tm.field,Tm.wn,Tm.wk,Tm.kids,Tm.names]
 by_cases c11:x=11
 ·obtain⟨s,p2,sl,iR⟩:=tK (h.set (p':=p1))
  rw[bo] at iR
  obtain⟨r,p3,rh,pP⟩:=mr (h.set (p':=p2))
  have rl:=iG _ rh
  rw[bo] at pP
  obtain⟨t,p4,th,uL⟩:=ih p3 (da c p3 H) h.set
  rw[bo,al] at uL
  have dN:=h.iO (p':=p4)
  refine⟨.mk 9 0 s r [] [] [t] [],p4,kj (RF th) (by simp) (by omega) (by omega) ⟨sl,by omega⟩ j7 mc,bP (fn:=fj) rfl rfl rfl rfl ?_⟩
  unfold fj
  simp(disch:=omega)only[aY,aa,simprocAttr,fM,iR,pP,uL,dN,c11,wU,aN,bg,bE,cP,aoc,aof,dh,cL,cO,cH,di,dn,df,fB,iv,ik,ig,al,ar,ax,strs,Tm.kind,Tm.n,Tm.name,Tm.field,Tm.wn,Tm.wk,Tm.kids,Tm.names]
 by_cases c13:x=13
 ·obtain⟨w,p2,wh,iR⟩:=G1 2 p1 (da c p1 H) (by omega) h.set
  rw[bo,iQ] at iR
  rw[show ((2:Nat):Int)=2 from rfl] at iR
  obtain⟨l,p3,ln,lh,pP⟩:=DS ih 3 (by omega) p2 (da c p2 H) h.set
  rw[bo] at pP
  have dN:=h.iO (p':=p3)
  refine⟨.mk 11 0 [] [] w.name w.kids l [],p3,kj lh (by omega) (by omega) (by omega) ⟨by decide,by decide⟩ (by cases w;exact S8 (by omega) wh) mc,bP (fn:=fj) rfl rfl rfl rfl ?_⟩
  unfold fj
  simp(disch:=omega)only[aY,aa,simprocAttr,fM,iR,pP,dN,c13,wU,aN,bg,bE,cP,aoc,aof,dh,cL,cO,cH,di,dn,df,fB,iv,ik,ig,al,ar,ax,strs,Tm.kind,Tm.n,Tm.name,Tm.field,Tm.wn,Tm.wk,Tm.kids,Tm.names]
 by_cases c14:x=14
 ·obtain⟨y,p2,y0,y1,iR⟩:=kR (h.set (p':=p1)) 2 (by omega)
  rw[bo] at iR
  obtain⟨t,p3,th,pP⟩:=ih p2 (da c p2 H) h.set
  rw[bo,al] at pP
  have dN:=h.iO (p':=p3)
  rcases lt2 y0 y1 with rfl|rfl
  ·refine⟨.mk 4 9 [] [] [] [] [t] [],p3,kj (RF th) (by simp) (by omega) (by omega) ⟨by decide,by decide⟩ j7 mc,bP (fn:=fj) rfl rfl rfl rfl ?_⟩
   unfold fj
   simp(disch:=omega)only[aY,aa,simprocAttr,fM,iR,pP,dN,c14,wU,aN,bg,bE,cP,aoc,aof,dh,cL,cO,cH,di,dn,df,fB,iv,ik,ig,al,ar,ax,strs,Tm.kind,Tm.n,Tm.name,Tm.field,Tm.wn,Tm.wk,Tm.kids,Tm.names]
   first|done|rfl
  ·refine⟨.mk 4 11 [] [] [] [] [t] [],p3,kj (RF th) (by simp) (by omega) (by omega) ⟨by decide,by decide⟩ j7 mc,bP (fn:=fj) rfl rfl rfl rfl ?_⟩
   unfold fj
   simp(disch:=omega)only[aY,aa,simprocAttr,fM,iR,pP,dN,c14,wU,aN,bg,bE,cP,aoc,aof,dh,cL,cO,cH,di,dn,df,fB,iv,ik,ig,al,ar,ax,strs,Tm.kind,Tm.n,Tm.name,Tm.field,Tm.wn,Tm.wk,Tm.kids,Tm.names]
   first|done|rfl
 by_cases c9:x=9
 ·subst c9;exact agv ih h fM hd
 by_cases c12:x=12
 ·subst c12;exact ac3 ih h fM hd
 by_cases c15:14<x
 ·obtain⟨y,p2,y0,y1,iR⟩:=kR (h.set (p':=p1)) 10 (by omega)
  rw[bo] at iR
  obtain⟨t,p3,th,pP⟩:=ih p2 (da c p2 H) h.set
  rw[bo,al] at pP
  obtain⟨u,p4,uh,uL⟩:=ih p3 (da c p3 H) h.set
  rw[bo,al] at uL
  have dN:=h.iO (p':=p4)
  have hy:y=0\/y=1\/y=2\/y=3\/y=4\/y=5\/y=6\/y=7\/y=8\/y=9:=by omega
  rcases hy with rfl|rfl|rfl|rfl|rfl|rfl|rfl|rfl|rfl|rfl
  ·refine⟨.mk 4 0 [] [] [] [] [t,u] [],p4,kj (v8 th uh) (by simp) (by omega) (by omega) ⟨by decide,by decide⟩ j7 mc,bP (fn:=fj) rfl rfl rfl rfl ?_⟩
   unfold fj
   simp(disch:=omega)only[aY,aa,simprocAttr,fM,iR,pP,uL,dN,wU,aN,bg,bE,cP,aoc,aof,dh,cL,cO,cH,di,dn,df,fB,iv,ik,ig,al,ar,ax,strs,Tm.kind,Tm.n,Tm.name,Tm.field,Tm.wn,Tm.wk,Tm.kids,Tm.names]
  ·refine⟨.mk 4 1 [] [] [] [] [t,u] [],p4,kj (v8 th uh) (by simp) (by omega) (by omega) ⟨by decide,by decide⟩ j7 mc,bP (fn:=fj) rfl rfl rfl rfl ?_⟩
   unfold fj
   simp(disch:=omega)only[aY,aa,simprocAttr,fM,iR,pP,uL,dN,wU,aN,bg,bE,cP,aoc,aof,dh,cL,cO,cH,di,dn,df,fB,iv,ik,ig,al,ar,ax,strs,Tm.kind,Tm.n,Tm.name,Tm.field,Tm.wn,Tm.wk,Tm.kids,Tm.names]
  ·refine⟨.mk 4 2 [] [] [] [] [t,u] [],p4,kj (v8 th uh) (by simp) (by omega) (by omega) ⟨by decide,by decide⟩ j7 mc,bP (fn:=fj) rfl rfl rfl rfl ?_⟩
   unfold fj
   simp(disch:=omega)only[aY,aa,simprocAttr,fM,iR,pP,uL,dN,wU,aN,bg,bE,cP,aoc,aof,dh,cL,cO,cH,di,dn,df,fB,iv,ik,ig,al,ar,ax,strs,Tm.kind,Tm.n,Tm.name,Tm.field,Tm.wn,Tm.wk,Tm.kids,Tm.names]
  ·refine⟨.mk 4 3 [] [] [] [] [t,u] [],p4,kj (v8 th uh) (by simp) (by omega) (by omega) ⟨by decide,by decide⟩ j7 mc,bP (fn:=fj) rfl rfl rfl rfl ?_⟩
   unfold fj
   simp(disch:=omega)only[aY,aa,simprocAttr,fM,iR,pP,uL,dN,wU,aN,bg,bE,cP,aoc,aof,dh,cL,cO,cH,di,dn,df,fB,iv,ik,ig,al,ar,ax,strs,Tm.kind,Tm.n,Tm.name,Tm.field,Tm.wn,Tm.wk,Tm.kids,Tm.names]
  ·refine⟨.mk 4 4 [] [] [] [] [t,u] [],p4,kj (v8 th uh) (by simp) (by omega) (by omega) ⟨by decide,by decide⟩ j7 mc,bP (fn:=fj) rfl rfl rfl rfl ?_⟩
   unfold fj
   simp(disch:=omega)only[aY,aa,simprocAttr,fM,iR,pP,uL,dN,wU,aN,bg,bE,cP,aoc,aof,dh,cL,cO,cH,di,dn,df,fB,iv,ik,ig,al,ar,ax,strs,Tm.kind,Tm.n,Tm.name,Tm.field,Tm.wn,Tm.wk,Tm.kids,Tm.names]
  ·refine⟨.mk 4 5 [] [] [] [] [t,u] [],p4,kj (v8 th uh) (by simp) (by omega) (by omega) ⟨by decide,by decide⟩ j7 mc,bP (fn:=fj) rfl rfl rfl rfl ?_⟩
   unfold fj
   simp(disch:=omega)only[aY,aa,simprocAttr,fM,iR,pP,uL,dN,wU,aN,bg,bE,cP,aoc,aof,dh,cL,cO,cH,di,dn,df,fB,iv,ik,ig,al,ar,ax,strs,Tm.kind,Tm.n,Tm.name,Tm.field,Tm.wn,Tm.wk,Tm.kids,Tm.names]
  ·refine⟨.mk 4 6 [] [] [] [] [t,u] [],p4,kj (v8 th uh) (by simp) (by omega) (by omega) ⟨by decide,by decide⟩ j7 mc,bP (fn:=fj) rfl rfl rfl rfl ?_⟩
   unfold fj
   simp(disch:=omega)only[aY,aa,simprocAttr,fM,iR,pP,uL,dN,wU,aN,bg,bE,cP,aoc,aof,dh,cL,cO,cH,di,dn,df,fB,iv,ik,ig,al,ar,ax,strs,Tm.kind,Tm.n,Tm.name,Tm.field,Tm.wn,Tm.wk,Tm.kids,Tm.names]
  ·refine⟨.mk 4 7 [] [] [] [] [t,u] [],p4,kj (v8 th uh) (by simp) (by omega) (by omega) ⟨by decide,by decide⟩ j7 mc,bP (fn:=fj) rfl rfl rfl rfl ?_⟩
   unfold fj
   simp(disch:=omega)only[aY,aa,simprocAttr,fM,iR,pP,uL,dN,wU,aN,bg,bE,cP,aoc,aof,dh,cL,cO,cH,di,dn,df,fB,iv,ik,ig,al,ar,ax,strs,Tm.kind,Tm.n,Tm.name,Tm.field,Tm.wn,Tm.wk,Tm.kids,Tm.names]
  ·refine⟨.mk 4 8 [] [] [] [] [t,u] [],p4,kj (v8 th uh) (by simp) (by omega) (by omega) ⟨by decide,by decide⟩ j7 mc,bP (fn:=fj) rfl rfl rfl rfl ?_⟩
   unfold fj
   simp(disch:=omega)only[aY,aa,simprocAttr,fM,iR,pP,uL,dN,wU,aN,bg,bE,cP,aoc,aof,dh,cL,cO,cH,di,dn,df,fB,iv,ik,ig,al,ar,ax,strs,Tm.kind,Tm.n,Tm.name,Tm.field,Tm.wn,Tm.wk,Tm.kids,Tm.names]
  ·refine⟨.mk 4 10 [] [] [] [] [t,u] [],p4,kj (v8 th uh) (by simp) (by omega) (by omega) ⟨by decide,by decide⟩ j7 mc,bP (fn:=fj) rfl rfl rfl rfl ?_⟩
   unfold fj
   simp(disch:=omega)only[aY,aa,simprocAttr,fM,iR,pP,uL,dN,wU,aN,bg,bE,cP,aoc,aof,dh,cL,cO,cH,di,dn,df,fB,iv,ik,ig,al,ar,ax,strs,Tm.kind,Tm.n,Tm.name,Tm.field,Tm.wn,Tm.wk,Tm.kids,Tm.names]
 have amk:x=3\/x=4:=by omega
 obtain⟨s,p2,sh,iR⟩:=mr (h.set (p':=p1))
 have sl:=iG _ sh
 rw[bo] at iR
 have dN:=h.iO (p':=p2)
 refine⟨.mk 2 0 s [] [] [] [] [],p2,ji (by omega) (by omega) (by omega),bP (fn:=fj) rfl rfl rfl rfl ?_⟩
 unfold fj
 simp(disch:=omega)only[aY,aa,simprocAttr,fM,iR,dN,wU,aN,bg,bE,cP,aoc,aof,dh,cL,cO,cH,di,dn,df,fB,iv,ik,ig,al,ar,ax,strs,Tm.kind,Tm.n,Tm.name,Tm.field,Tm.wn,Tm.wk,Tm.kids,Tm.names]
def br:cd->cd × cd × Bool
 | []=>([],[],false)
 | b :: r=>if b.toNat=46 then ([],r,true) else (b :: (br r).1,(br r).2.1,(br r).2.2)
theorem wP:∀ {s:cd},(br s).2.2=false->br s=(s,[],false)
 | [],_=>rfl
 | b :: r,h=>by
  unfold br at h ⊢
  split at h
  ·cases h
  ·rename_i hb
   rw[if_neg hb,wP h]
theorem Lf(s:cd)(H:ai)(hs:s.length<=10000000):aE A 92 [.str s] H=some (.tuple [.str (br s).1,.str (br s).2.1,.bool (br s).2.2],none):=by
 refine aD (fn:=Rn) rfl rfl rfl ?_
 unfold Rn
 simp(disch:=omega)only[aV,aa,simprocAttr]
 refine cK s.length 0 (fun i=>Hd (fun T=>T 0=.str s/\T 5=.int .i64 i/\br s=(s.take i++(br (s.drop i)).1,(br (s.drop i)).2.1,(br (s.drop i)).2.2)) H H.length 0)
  (Hd (fun T=>T 0=.str s/\br s=(s,[],false)) H H.length 0) (Hd (fun T=>T 2=.str (br s).1/\T 3=.str (br s).2.1/\T 4=.bool (br s).2.2) H H.length 0) ?_ ?_ ?_ 0 _ (aoW _) ?_
 ·rintro i st hi lA
  obtain⟨T,rfl,h0,h5,hc⟩:=lA.out
  by_cases h:i<s.length
  ·have hx:=an3 h
   have hd:=aoF h
   generalize s[i]=b at hx hd
   have hbl:b.toNat<256:=UInt8.toNat_lt b
   by_cases b46:b.toNat=46
   ·have e:br (s.drop i)=([],s.drop (i+1),true):=by rw[hd,br,if_pos b46]
    rw[e] at hc
    simp only[apl] at hc
    simp(disch:=omega)only[aV,aa,simprocAttr,h0,h5,hx,hc]
    rw[aps]
   ·have e:br (s.drop i)=(b :: (br (s.drop (i+1))).1,(br (s.drop (i+1))).2.1,(br (s.drop (i+1))).2.2):=by rw[hd,br,if_neg b46]
    rw[e] at hc
    have kU:s.take (i+1)=s.take i++[b]:=by rw[ap2,hx];rfl
    simp(disch:=omega)only[aV,aa,simprocAttr,h0,h5,hx]
    exact⟨h,by rw[hc,kU];simp⟩
  ·have e:s.drop i=[]:=aqo (by omega)
   rw[e,br,aoJ (by omega)] at hc
   simp only[apl] at hc
   simp(disch:=omega)only[aV,aa,simprocAttr,h0,h5]
   exact hc
 ·rintro st lA
  obtain⟨T,rfl,h0,hc⟩:=lA.out
  simp(disch:=omega)only[aV,aa,simprocAttr,h0,hc]
 ·rintro st lA
  obtain⟨T,rfl,h2,h3,h4⟩:=lA.out
  simp(disch:=omega)only[aV,aa,simprocAttr,h2,h3,h4]
 ·simp(disch:=omega)only[aV,aa,simprocAttr,aoQ,ape,ao0]
theorem pM:∀ s:cd,(br s).1.length<=s.length/\(br s).2.1.length<=s.length
 | []=>⟨an4 _,an4 _⟩
 | b :: r=>by
  have:=pM r
  unfold br
  split
  ·exact⟨by simp,by simp⟩
  ·exact⟨by simp only[an0];omega,by simp only[an0];omega⟩
def cT(s:cd):Bool:=isWord (br s).1&&(!(br s).2.2 || isWord (br s).2.1)
def cU(s:cd):List cd:=if (br s).2.2=true then [(br s).1,[46],(br s).2.1] else [(br s).1]
theorem R3(s:cd)(H:ai)(hs:s.length<=10000000):aE A 90 [.str s] H=some (.bool (cT s),none):=by
 have hf:=Lf s H hs
 obtain⟨l1,l2⟩:=pM s
 refine aD (fn:=Rl) rfl rfl rfl ?_
 unfold Rl
 have w1:=ox (br s).1 H (by omega)
 have w2:=ox (br s).2.1 H (by omega)
 unfold cT
 cases h1:isWord (br s).1<;>cases h2:(br s).2.2<;>rw[h1] at w1<;>rw[h2] at hf<;>simp(disch:=omega)only[aV,aa,simprocAttr,hf,w1,w2,aoj,aon,aoe,aoa,aog,aoz]
theorem rW(s:cd)(H:ai)(hs:s.length<=10000000):aE A 60 [.str s] H=some (.slice (strs (cU s)) true,none):=by
 have hf:=Lf s H hs
 refine aD (fn:=Q2) rfl rfl rfl ?_
 unfold Q2
 unfold cU
 cases h2:(br s).2.2<;>rw[h2] at hf<;>simp(disch:=omega)only[aV,aa,simprocAttr,hf,strs,aoc,aof,apu,reduceCtorEq,aqd,apo]
theorem Hl(l:List cd)(H:ai)(hl:l.length<=10000000)(hs:∀ s∈l,s.length<=10000000):aE A 35 [.slice (strs l) false] H=some (.bool (l.all isWord),none):=by
 refine aD (fn:=QQ) rfl rfl rfl ?_
 unfold QQ
 simp(disch:=omega)only[aV,aa,simprocAttr]
 refine cK l.length 0 (fun i=>Hd (fun T=>T 0=.slice (strs l) false/\T 3=.int .i64 i/\l.all isWord=(l.drop i).all isWord) H H.length 0)
  (Hd (fun T=>l.all isWord=true) H H.length 0) (Hd (fun T=>T 2=.bool false/\l.all isWord=false) H H.length 0) ?_ ?_ ?_ 0 _ (aoW _) ?_
 ·rintro i st hi lA
  obtain⟨T,rfl,h0,h3,hc⟩:=lA.out
  by_cases h:i<l.length
  ·have hx:=an3 h
   have hd:=aoF h
   have hm:=aoX h
   generalize l[i]=b at hx hd hm
   have hw:=ox b H (by have:=hs b hm;omega)
   rw[hd,aoV] at hc
   have gq:=lp hx
   cases hb:isWord b<;>rw[hb] at hw hc
   ·simp(disch:=omega)only[aV,aa,simprocAttr,h0,h3,cg,gq,hw]
    rw[hc];rfl
   ·simp(disch:=omega)only[aV,aa,simprocAttr,h0,h3,cg,gq,hw]
    exact⟨h,by rw[hc,aon]⟩
  ·have e:l.drop i=[]:=aqo (by omega)
   rw[e,ao5] at hc
   simp(disch:=omega)only[aV,aa,simprocAttr,h0,h3,cg]
   exact hc
 ·rintro st lA
  obtain⟨T,rfl,hc⟩:=lA.out
  simp(disch:=omega)only[aV,aa,simprocAttr,hc]
 ·rintro st lA
  obtain⟨T,rfl,h2,hc⟩:=lA.out
  simp(disch:=omega)only[aV,aa,simprocAttr,h2,hc]
 ·simp(disch:=omega)only[aV,aa,simprocAttr,ape]
abbrev gP:cd:=[76,105,115,116]
abbrev xD:cd:=[73,110,116]
abbrev qn:cd:=[66,111,111,108]
def bk:Wd->Bool
 | .mk n [k]=>if n=gP then bk k else false
 | .mk n []=>if n=gP then false else (n==xD || n==qn || cT n)
 | .mk n _=>false
def fe:Wd->List cd
 | .mk n [k]=>if n=gP then [gP,[40]]++fe k++[[41]] else (if n=xD\/n=qn then [n] else cU n)
 | .mk n _=>if n=xD\/n=qn then [n] else cU n
theorem wi:∀ (h:Nat) (w:Wd) (H:ai),wD h w->aE A 58 [.agg (hN w)] H=some (.bool (bk w),none):=by
 have leaf:∀ (n:cd) (H:ai),n.length<=1100000->aE A 58 [.agg (hN (.mk n []))] H=some (.bool (bk (.mk n [])),none):=by
  intro n H hn
  have hq:=R3 n H (by omega)
  refine aD (fn:=JZ) rfl rfl rfl ?_
  unfold JZ
  rw[hN,ax]
  by_cases h1:n=gP
  ·have e1:(n==[76,105,115,116])=true:=by simpa using h1
   simp(disch:=omega)only[aY,aa,simprocAttr,e1,bk,if_pos h1]
  have e1:(n==[76,105,115,116])=false:=by simpa using h1
  by_cases h2:n=xD
  ·have e2:(n==[73,110,116])=true:=by simpa using h2
   simp(disch:=omega)only[aY,aa,simprocAttr,e1,e2,bk,if_neg h1,aoz]
  have e2:(n==[73,110,116])=false:=by simpa using h2
  by_cases h3:n=qn
  ·have e3:(n==[66,111,111,108])=true:=by simpa using h3
   simp(disch:=omega)only[aY,aa,simprocAttr,e1,e2,e3,bk,if_neg h1,aoz,aog]
  have e3:(n==[66,111,111,108])=false:=by simpa using h3
  simp(disch:=omega)only[aY,aa,simprocAttr,e1,e2,e3,hq,bk,if_neg h1,aog]
 intro h
 induction h with
 | zero =>
  intro w H hw
  obtain⟨n,ks⟩:=w
  obtain⟨h1,h2⟩:=hw
  simp only[Wd.kids,Wd.name] at h1 h2
  subst h2
  exact leaf n H h1
 | succ h ih =>
  intro w H hw
  obtain⟨n,ks⟩:=w
  obtain⟨h1,h2,h3⟩:=hw
  simp only[Wd.kids,Wd.name] at h1 h2 h3
  match ks,h2,h3 with
  | [],_,_=>exact leaf n H h1
  | [k],_,h3 =>
   have hk:=ih k H (h3 k (by simp))
   rw[iQ] at hk
   refine aD (fn:=JZ) rfl rfl rfl ?_
   unfold JZ
   rw[hN,ax,ax,iQ]
   by_cases h1:n=gP
   ·have e1:(n==[76,105,115,116])=true:=by simpa using h1
    simp(disch:=omega)only[aY,aa,simprocAttr,e1,hk,bk,if_pos h1]
   ·have e1:(n==[76,105,115,116])=false:=by simpa using h1
    simp(disch:=omega)only[aY,aa,simprocAttr,e1,bk,if_neg h1]
theorem j6(s:cd):(cU s).length<=3:=by unfold cU;split<;>simp
theorem kS:∀ (h:Nat) (w:Wd),wD h w->(fe w).length<=3*h+3
 | 0,.mk n ks,hw=>by
  obtain⟨_,h2⟩:=hw
  simp only[Wd.kids] at h2
  subst h2
  unfold fe
  have:=j6 n
  split
  ·simp
  ·omega
 | h+1,.mk n [],_=>by
  unfold fe
  have:=j6 n
  split
  ·simp
  ·omega
 | h+1,.mk n [k],hw=>by
  have hk:=kS h k (hw.2.2 k (by simp[Wd.kids]))
  have:=j6 n
  unfold fe
  split
  ·simp only[aod,an0,an1];omega
  ·split
   ·simp
   ·omega
 | h+1,.mk n (a :: b :: r),hw=>by
  have:=hw.2.1
  simp[Wd.kids] at this
theorem D0:∀ (h:Nat) (w:Wd) (H:ai),h<=1000->wD h w->bk w=true->aE A 31 [.agg (hN w)] H=some (.slice (strs (fe w)) true,none):=by
 have leaf:∀ (n:cd) (H:ai),n.length<=1100000->bk (.mk n [])=true->aE A 31 [.agg (hN (.mk n []))] H=some (.slice (strs (fe (.mk n []))) true,none):=by
  intro n H hn hp
  have hq:=rW n H (by omega)
  have h1:n≠gP:=fun e=>by subst e;simp[bk] at hp
  have e1:(n==[76,105,115,116])=false:=by simpa using h1
  refine aD (fn:=JT) rfl rfl rfl ?_
  unfold JT
  rw[hN,ax]
  by_cases h2:n=xD
  ·have e2:(n==[73,110,116])=true:=by simpa using h2
   simp(disch:=omega)only[aY,aa,simprocAttr,e1,e2,fe,if_pos (Or.inl h2),strs,aoc,aof]
  have e2:(n==[73,110,116])=false:=by simpa using h2
  by_cases h3:n=qn
  ·have e3:(n==[66,111,111,108])=true:=by simpa using h3
   simp(disch:=omega)only[aY,aa,simprocAttr,e1,e2,e3,fe,if_pos (Or.inr h3),strs,aoc,aof]
  have e3:(n==[66,111,111,108])=false:=by simpa using h3
  simp(disch:=omega)only[aY,aa,simprocAttr,e1,e2,e3,hq,fe,if_neg (show ¬ (n=xD\/n=qn) from fun h=>h.elim h2 h3)]
 intro h
 induction h with
 | zero =>
  intro w H _ hw hp
  obtain⟨n,ks⟩:=w
  obtain⟨h1,h2⟩:=hw
  simp only[Wd.kids,Wd.name] at h1 h2
  subst h2
  exact leaf n H h1 hp
 | succ h ih =>
  intro w H hh hw hp
  obtain⟨n,ks⟩:=w
  obtain⟨h1,h2,h3⟩:=hw
  simp only[Wd.kids,Wd.name] at h1 h2 h3
  match ks,h2,h3,hp with
  | [],_,_,hp=>exact leaf n H h1 hp
  | [k],_,h3,hp =>
   have hl:n=gP:=by
    unfold bk at hp
    split at hp
    ·assumption
    ·cases hp
   have mI:bk k=true:=by
    unfold bk at hp
    rwa [if_pos hl] at hp
   have hk:=ih k H (by omega) (h3 k (by simp)) mI
   have hlen:=kS h k (h3 k (by simp))
   rw[iQ] at hk
   have a1:aF false 1 16 (.slice [[.str [76,105,115,116]],[.str [40]]] true) (.slice (strs (fe k)) true)=some (.slice (strs ([gP,[40]]++fe k)) true):=cD (l:=[gP,[40]]) (by simp;omega)
   have a2:aF false 1 16 (.slice (strs ([gP,[40]]++fe k)) true) (.slice [[.str [41]]] true)=some (.slice (strs ([gP,[40]]++fe k++[[41]])) true):=fV (by simp;omega)
   have hw:fe (.mk n [k])=[gP,[40]]++fe k++[[41]]:=by rw[fe,if_pos hl]
   generalize [gP,[40]]++fe k=l1 at a1 a2 hw
   have e1:(n==[76,105,115,116])=true:=by simpa using hl
   refine aD (fn:=JT) rfl rfl rfl ?_
   unfold JT
   rw[hN,ax,ax,iQ]
   simp(disch:=omega)only[aY,aa,simprocAttr,e1,hk,a1,a2,hw]
theorem SD{x:Int}(h0:¬ x<0)(h1:¬ 11<x):x=0\/x=1\/x=2\/x=3\/x=4\/x=5\/x=6\/x=7\/x=8\/x=9\/x=10\/x=11:=by omega
theorem DR(n:Int)(H:ai):aE A 63 [.int .i64 n] H=some (.tuple [.str (fh n).1,.int .i64 (fh n).2],none):=by
 refine aD (fn:=Q5) rfl rfl rfl ?_
 unfold Q5
 by_cases h0:n<0
 ·have e:fh n=([],0):=by unfold fh;rw[if_pos (Or.inl h0)]
  simp(disch:=omega)only[aY,aa,simprocAttr,h0,e]
 by_cases h1:11<n
 ·have e:fh n=([],0):=by unfold fh;rw[if_pos (Or.inr h1)]
  simp(disch:=omega)only[aY,aa,simprocAttr,h0,h1,e]
 rcases SD h0 h1 with rfl|rfl|rfl|rfl|rfl|rfl|rfl|rfl|rfl|rfl|rfl|rfl
 all_goals
  simp(disch:=omega)only[aY,aa,simprocAttr]
  rfl
def fl(t:Tm):Int:=if t.kind=5\/t.kind=6\/t.kind=12 then 0 else if t.kind=4 then (fh t.n).2 else 8
theorem V'(t:Tm)(H:ai):aE A 93 [.agg (cV t)] H=some (.int .i64 (fl t),none):=by
 have hs:=DR t.n H
 refine aD (fn:=Ro) rfl rfl rfl ?_
 unfold Ro
 rw[al]
 by_cases h5:t.kind=5
 ·simp(disch:=omega)only[aY,aa,simprocAttr,h5,fl,true_or,apu]
 by_cases h6:t.kind=6
 ·simp(disch:=omega)only[aY,aa,simprocAttr,h5,h6,fl,true_or,or_true,apu]
 by_cases h12:t.kind=12
 ·simp(disch:=omega)only[aY,aa,simprocAttr,h5,h6,h12,fl,true_or,or_true,apu]
 have hn:¬ (t.kind=5\/t.kind=6\/t.kind=12):=by omega
 by_cases h4:t.kind=4
 ·have e:fl t=(fh t.n).2:=by unfold fl;rw[if_neg hn,if_pos h4]
  simp(disch:=omega)only[aY,aa,simprocAttr,h4,hs,e]
 ·have e:fl t=8:=by unfold fl;rw[if_neg hn,if_neg h4]
  simp(disch:=omega)only[aY,aa,simprocAttr,h5,h6,h12,h4,e]
def bR(k n:Int)(len:Nat):Int × Int :=
 if k=0\/k=1\/k=2 then (0,0) else if k=3\/k=11 then (-1,0)
 else if k=4 then (if (fh n).1=[] then (-2,0) else if (fh n).2=7 then (1,0) else (2,0))
 else if k=5 then (3,0) else if k=6 then (2,1) else if k=7 then (-1,len) else if k=8\/k=9 then (1,0)
 else if k=10 then (if len<2 then (-2,0) else (-1,2*((len:Int)-1))) else if k=12 then (3,2) else (-2,0)
theorem tG(k:Int):k=0\/k=1\/k=2\/k=3\/k=4\/k=5\/k=6\/k=7\/k=8\/k=9\/k=10\/k=11\/k=12\/(k<0\/12<k):=by omega
theorem OM(t:Tm)(H:ai)(hl:t.kids.length<=1000):aE A 91 [.agg (cV t)] H=some (.tuple [.int .i64 (bR t.kind t.n t.kids.length).1,.int .i64 (bR t.kind t.n t.kids.length).2],none):=by
 have hs:=DR t.n H
 refine aD (fn:=Rm) rfl rfl rfl ?_
 unfold Rm
 rw[al]
 rcases tG t.kind with h|h|h|h|h|h|h|h|h|h|h|h|h|h
 ·rw[h];simp(disch:=omega)only[aY,aa,simprocAttr,bK];rfl
 ·rw[h];simp(disch:=omega)only[aY,aa,simprocAttr,bK];rfl
 ·rw[h];simp(disch:=omega)only[aY,aa,simprocAttr,bK];rfl
 ·rw[h];simp(disch:=omega)only[aY,aa,simprocAttr,bK];rfl
 ·rw[h]
  by_cases h1:(fh t.n).1=[]
  ·have e1:((fh t.n).1==[])=true:=by rw[h1];rfl
   have e:bR 4 t.n t.kids.length=(-2,0):=by simp[bR,h1]
   rw[e]
   simp(disch:=omega)only[aY,aa,simprocAttr,bK,hs,e1]
  ·have e1:((fh t.n).1==[])=false:=by simpa using h1
   by_cases h2:(fh t.n).2=7
   ·have e:bR 4 t.n t.kids.length=(1,0):=by simp[bR,h1,h2]
    rw[e]
    simp(disch:=omega)only[aY,aa,simprocAttr,bK,hs,e1,h2]
   ·have e:bR 4 t.n t.kids.length=(2,0):=by simp[bR,h1,h2]
    rw[e]
    simp(disch:=omega)only[aY,aa,simprocAttr,bK,hs,e1,h2]
 ·rw[h];simp(disch:=omega)only[aY,aa,simprocAttr,bK];rfl
 ·rw[h];simp(disch:=omega)only[aY,aa,simprocAttr,bK];rfl
 ·rw[h];simp(disch:=omega)only[aY,aa,simprocAttr,bK];rfl
 ·rw[h];simp(disch:=omega)only[aY,aa,simprocAttr,bK];rfl
 ·rw[h];simp(disch:=omega)only[aY,aa,simprocAttr,bK];rfl
 ·rw[h]
  by_cases h1:t.kids.length<2
  ·have e:bR 10 t.n t.kids.length=(-2,0):=by simp[bR,h1]
   rw[e]
   simp(disch:=omega)only[aY,aa,simprocAttr,bK]
  ·have e:bR 10 t.n t.kids.length=(-1,2*((t.kids.length:Int)-1)):=by simp[bR,h1]
   rw[e]
   simp(disch:=omega)only[aY,aa,simprocAttr,bK]
 ·rw[h];simp(disch:=omega)only[aY,aa,simprocAttr,bK];rfl
 ·rw[h];simp(disch:=omega)only[aY,aa,simprocAttr,bK];rfl
 ·have e:bR t.kind t.n t.kids.length=(-2,0):=by
   unfold bR
   repeat rw[if_neg (by omega)]
  rw[e]
  simp(disch:=omega)only[aY,aa,simprocAttr,bK]
theorem Ps{j:Nat}(h:j<8):∃ s:cd,s.length<=7 /\
  ([[.str []],[.str [32]],[.str [10]],[.str [32,32]],[.str [35,32,97,32,40,98,10]],[.str [32,35,10,32]],[.str [10,10]],[.str [35,255,35,32,49,10]]]:List (List AV))[j]?=some [.str s]:=by
 have hj:j=0\/j=1\/j=2\/j=3\/j=4\/j=5\/j=6\/j=7:=by omega
 rcases hj with rfl|rfl|rfl|rfl|rfl|rfl|rfl|rfl<;>exact⟨_,by decide,rfl⟩
theorem afx{x:Int}(h0:0<=x)(h1:x<8):∃ j:Nat,j<8/\x=j:=⟨x.toNat,by omega,by omega⟩
theorem YI(n k:Int)(H:ai)(hn:D1 n):∃ s:cd,s.length<=1100000/\aE A 18 [.int .i64 n,.int .i64 k] H=some (.str s,none):=by
 have hr:=jW (n:=n) (k:=1000000) (by omega)
 have ha:=oM n 1000000 H hn (by omega)
 generalize j8 n 1000000=x at hr ha
 obtain⟨i,hi,ei⟩:=afx (x:=x % 8) (by omega) (by omega)
 obtain⟨j,hj,ej⟩:=afx (x:=x / 8 % 8) (by omega) (by omega)
 obtain⟨s,hs,ats⟩:=Ps hi
 obtain⟨u,hu,atu⟩:=Ps hj
 have key:∃ r,aE A 18 [.int .i64 n,.int .i64 k] H=some r/\∃ s:cd,s.length<=1100000/\r=(.str s,none):=by
  refine yj (fn:=QK) rfl rfl rfl ?_
  unfold QK
  by_cases h3:x % 3=0
  ·obtain⟨v,hv⟩:∃ v,v=s++u:=⟨_,rfl⟩
   have hvl:v.length<=14:=by rw[hv];simp;omega
   cases hb:(v==[]) with
   | false =>
    rw[hv] at hb
    simp(disch:=omega)only[aY,aa,simprocAttr,ha,gQ,p9,ei,ej,ats,atu,h3,hb]
    exact⟨_,by rw[<- hv];omega,rfl⟩
   | true =>
    rw[hv] at hb
    by_cases hk:k=0
    ·simp(disch:=omega)only[aY,aa,simprocAttr,ha,gQ,p9,ei,ej,ats,atu,h3,hb,hk]
     exact⟨_,by rw[<- hv];omega,rfl⟩
    ·simp(disch:=omega)only[aY,aa,simprocAttr,ha,gQ,p9,ei,ej,ats,atu,h3,hb,hk]
     exact⟨[32],by decide,rfl⟩
  ·cases hb:(s==[]) with
   | false =>
    simp(disch:=omega)only[aY,aa,simprocAttr,ha,gQ,p9,ei,ej,ats,atu,h3,hb]
    exact⟨s,by omega,rfl⟩
   | true =>
    by_cases hk:k=0
    ·simp(disch:=omega)only[aY,aa,simprocAttr,ha,gQ,p9,ei,ej,ats,atu,h3,hb,hk]
     exact⟨s,by omega,rfl⟩
    ·simp(disch:=omega)only[aY,aa,simprocAttr,ha,gQ,p9,ei,ej,ats,atu,h3,hb,hk]
     exact⟨[32],by decide,rfl⟩
 obtain⟨r,h1,s,h2,rfl⟩:=key
 exact⟨s,h2,h1⟩
theorem Z4{j:Nat}(h:j<4):∃ s:cd,s.length<=1100000/\([[.str [10]],[.str [32,10]],[.str [35,32,120,10]],[.str [32,32,35,32,121,32,40,10]]]:List (List AV))[j]?=some [.str s]:=by
 have hj:j=0\/j=1\/j=2\/j=3:=by omega
 rcases hj with rfl|rfl|rfl|rfl<;>exact⟨_,by decide,rfl⟩
theorem BF{x:Int}(h0:0<=x)(h1:x<1000000):D1 x:=⟨by omega,by omega⟩
theorem RB{c:Cc}{p:Int}{H:ai}(h:CH c p H)(n:Nat)(hn:n<=100000)(b:cd)(hb:b.length<=1100000) :
  ∃ (out:List cd) (p' : Int),out.length<=n+2/\(∀ s∈out,s.length<=1100000)/\aE A 17 [.ref c.mm 0,.int .i64 n,.str b] H=some (.slice (strs out) true,some ⟨da c p' H,c.mm⟩):=by
 have key:∃ r,aE A 17 [.ref c.mm 0,.int .i64 n,.str b] H=some r/\∃ (out:List cd) (p' : Int),out.length<=n+2/\(∀ s∈out,s.length<=1100000)/\r=(.slice (strs out) true,some ⟨da c p' H,c.mm⟩):=by
  have bA:=h.lt
  refine mR (fn:=QI) rfl rfl rfl rfl ?_
  unfold QI
  simp(disch:=omega)only[aY,aa,simprocAttr]
  refine cK (n-1) 0 (fun i s=>∃ T G lo p3 acc,s=⟨T,G,lo,0⟩/\(G=H/\lo=H.length/\i=0\/G=da c p3 H/\lo=c.mm)/\T 0=.ref c.mm 0/\T 1=.int .i64 n/\T 7=.slice (strs acc) true/\T 8=.int .i64 (i+1)/\acc.length=i+1/\∀ s∈acc,s.length<=1100000)
   (fun s=>∃ T G lo p3 acc,s=⟨T,G,lo,0⟩/\(G=H/\lo=H.length\/G=da c p3 H/\lo=c.mm)/\T 0=.ref c.mm 0/\T 7=.slice (strs acc) true/\acc.length<=n+1/\∀ s∈acc,s.length<=1100000) (fun _=>False) ?_ ?_ (fun _ h=>h.elim) 0 _ (by omega) ?_
  ·rintro i s hi ⟨T,G,lo,p3,acc,rfl,hG,e0,e1,e7,e8,hl,hbd⟩
   by_cases hc:i+1<n
   ·have fM:∃ x p4,0<=x/\x<1000/\aE A 16 [.ref c.mm 0,.int .i64 1000] G=some (.int .i64 x,some ⟨da c p4 H,c.mm⟩):=by
     rcases hG with ⟨rfl,rfl,rfl⟩|⟨rfl,rfl⟩
     ·exact kR h 1000 (by omega)
     ·obtain⟨x,p4,x0,x1,hx⟩:=kR (h.set (p':=p3)) 1000 (by omega)
      rw[bo] at hx
      exact⟨x,p4,x0,x1,hx⟩
    obtain⟨x,p4,x0,x1,fM⟩:=fM
    obtain⟨g,hg,ahZ⟩:=YI x 1 (da c p4 H) (BF x0 (by omega))
    have AK:aF false 1 16 (.slice (strs acc) true) (.slice [[.str g]] true)=some (.slice (strs (acc++[g])) true):=fV (by omega)
    have wX:(bif decide (c.mm<lo) then c.mm else lo)=c.mm:=by
     rcases hG with ⟨_,rfl,_⟩|⟨_,rfl⟩
     ·rw[decide_eq_true bA];rfl
     ·simp
    simp(disch:=omega)only[aY,aa,simprocAttr,e0,e1,e7,e8,fM,ahZ,AK,wX]
    refine⟨by omega,_,_,_,p4,acc++[g],rfl,.inr ⟨rfl,rfl⟩,by simp(disch:=omega)only[aV,aa,simprocAttr,e0],by simp(disch:=omega)only[aV,aa,simprocAttr,e1],by simp(disch:=omega)only[aV,aa,simprocAttr],by simp(disch:=omega)only[aV,aa,simprocAttr],by simp[hl],fun u hu=>?_⟩
    rcases an9.1 hu with hu|hu
    ·exact hbd u hu
    ·rw[aom.1 hu];omega
   ·simp(disch:=omega)only[aY,aa,simprocAttr,e0,e1,e7,e8]
    refine⟨_,G,lo,p3,acc,rfl,?_,e0,e7,by omega,hbd⟩
    rcases hG with ⟨h1,h2,_⟩|h1
    ·exact .inl ⟨h1,h2⟩
    ·exact .inr h1
  ·rintro s ⟨T,G,lo,p3,acc,rfl,hG,e0,e7,hl,hbd⟩
   have fM:∃ x p4,0<=x/\x<4/\aE A 16 [.ref c.mm 0,.int .i64 4] G=some (.int .i64 x,some ⟨da c p4 H,c.mm⟩):=by
    rcases hG with ⟨rfl,rfl⟩|⟨rfl,rfl⟩
    ·exact kR h 4 (by omega)
    ·obtain⟨x,p4,x0,x1,hx⟩:=kR (h.set (p':=p3)) 4 (by omega)
     rw[bo] at hx
     exact⟨x,p4,x0,x1,hx⟩
   obtain⟨x,p4,x0,x1,fM⟩:=fM
   obtain⟨j,hj,rfl⟩:∃ j:Nat,j<4/\x=j:=⟨x.toNat,by omega,by omega⟩
   obtain⟨e,he,ate⟩:=Z4 hj
   have AK:aF false 1 16 (.slice (strs acc) true) (.slice [[.str e]] true)=some (.slice (strs (acc++[e])) true):=fV (by omega)
   have wX:(bif decide (c.mm<lo) then c.mm else lo)=c.mm:=by
    rcases hG with ⟨_,rfl⟩|⟨_,rfl⟩
    ·rw[decide_eq_true bA];rfl
    ·simp
   have dN:=h.iO (p':=p4)
   simp(disch:=omega)only[aY,aa,simprocAttr,e0,e7,fM,ate,AK,wX,dN,bg,bE,abV]
   refine⟨acc++[e],p4,by simp[hl],fun u hu=>?_,rfl,rfl⟩
   rcases an9.1 hu with hu|hu
   ·exact hbd u hu
   ·rw[aom.1 hu];exact he
  ·refine⟨_,H,H.length,0,[b],rfl,.inl ⟨rfl,rfl,rfl⟩,?_⟩
   simp(disch:=omega)only[aV,aa,simprocAttr,strs,aoc,aof]
   exact fun s hs=>by rw[aom.1 hs];exact hb
 obtain⟨r,h1,out,p',h2,h3,rfl⟩:=key
 exact⟨out,p',h2,h3,h1⟩
def iW(k:Int):Bool:=decide (k=3\/k=7\/k=8\/k=9\/k=10)
def lY(c1 c2 l m:Int)(w:Bool):Bool:=decide (c1=-2) || decide (0<=c1/\l≠c1) || decide (m≠c2) || !w
def oP(t:Tm):Bool:=lY (bR t.kind t.n t.kids.length).1 (bR t.kind t.n t.kids.length).2 t.kids.length t.names.length (t.names.all isWord)
def pD(t:Tm):Bool:=bif iW t.kind then !(cT t.name) else bif decide (t.kind=2) then !(isWord t.name) else decide (t.name≠[])
def pE(t:Tm):Bool:=bif decide (t.kind=8\/t.kind=9) then !(isWord t.field) else decide (t.field≠[])
def oQ(t:Tm):Bool:=bif decide (t.kind=11) then !(bk (.mk t.wn t.wk)) else (decide (t.wn≠[]) || decide (0<t.wk.length))
def oR(t:Tm):Bool:=bif decide (t.kind=0) then decide (t.n < -1099511627776\/1099511627776<t.n) else bif decide (t.kind=1) then decide (t.n≠0/\t.n≠1) else false
def pF(t:Tm):Bool:=decide (t.kind≠0/\t.kind≠1/\t.kind≠4/\t.n≠0)
def mu(t:Tm):Bool:=!(oP t || pD t || pE t || oQ t || oR t || pF t)
mutual
def ak:Tm->Bool
 | .mk k n a f wn wk ks ns=>mu (.mk k n a f wn wk ks ns)&&pj ks
def pj:List Tm->Bool
 | []=>true
 | t :: r=>ak t&&pj r
end
theorem fE(t:Tm):ak t=(mu t&&pj t.kids):=by cases t;rw[ak,Tm.kids]
theorem dJ:∀ l:List Tm,pj l=l.all ak
 | []=>by simp[pj]
 | t :: r=>by simp[pj,dJ r]
structure vl (h:Nat) (t:Tm):Prop where
 n:-2199023255552<=t.n/\t.n<=2199023255552
 k:-100<=t.kind/\t.kind<=100
 a:t.name.length<=1100000
 f:t.field.length<=1100000
 w:wD 3 (.mk t.wn t.wk)
 kl:t.kids.length<=3
 kb:∀ u∈t.kids,LW h u
 nl:t.names.length<=8
 nb:∀ s∈t.names,s.length<=1100000
theorem LW.out{h:Nat}{t:Tm}(hb:LW (h+1) t):vl h t:=by
 cases hb with
 | mk h k n a f wn wk ks ns h1 hk h2 h3 h4 h5 h6=>exact⟨h1,hk,h2.1,h2.2,h3,h4,h5,h6.1,h6.2⟩
def Fc(t:Tm)(H:ai)(s:AS):Prop:=∃ T,s=⟨T,H,H.length,1⟩/\T 1=.lbox 0 [.int .i64 t.kind,.int .i64 t.n,.str t.name,.str t.field,.str t.wn,.slice (ax t.wk) false,.slice (ar t.kids) false,.slice (strs t.names) false]
abbrev ja(H:ai)(b:Bool):cq->AS->Prop:=done H.length [.tmp 2] (.bool b,none)
theorem ago{t:Tm}{h:Nat}(hb:vl h t){H:ai}(hf:oP t=true->ak t=false) :
  W A (re.body.pre 2) { T:=gY [.agg (cV t)],H,lo:=H.length,gen:=0 } (andThen (fun s'=>Fc t H s'/\oP t=false) (ja H (ak t))):=by
 have hc:=OM t H (by have:=hb.kl;omega)
 have hn:=Hl t.names H (by have:=hb.nl;omega) (fun s hs=>by have:=hb.nb s hs;omega)
 unfold oP at hf ⊢
 unfold Fc
 rw[al] at hc ⊢
 generalize ak t=pr at hf ⊢
 generalize (bR t.kind t.n t.kids.length).1=c1 at hc hf ⊢
 generalize (bR t.kind t.n t.kids.length).2=c2 at hc hf ⊢
 generalize t.names.all isWord=aw at hn hf ⊢
 have og:=hb.kl
 have qk:=hb.nl
 unfold re
 simp only[bq.pre]
 unfold lY at hf ⊢
 by_cases a1:c1=-2
 ·have e:=hf (by simp[a1])
  simp(disch:=omega)only[aY,aa,simprocAttr,hc,a1,e,ja]
 by_cases a2:0<=c1
 ·by_cases a3:(t.kids.length:Int)=c1
  ·by_cases a4:(t.names.length:Int)=c2
   ·cases aw with
    | false =>
     have e:=hf (by simp)
     simp(disch:=omega)only[aY,aa,simprocAttr,hc,bK,cg,a3,a4,hn,e,ja]
    | true =>
     simp(disch:=omega)only[aY,aa,simprocAttr,hc,bK,cg,a3,a4,hn,ja]
     exact⟨⟨_,rfl,by simp(disch:=omega)only[aV,aa,simprocAttr]⟩,by simp[a1,a3,a4]⟩
   ·have e:=hf (by simp[a4])
    simp(disch:=omega)only[aY,aa,simprocAttr,hc,bK,cg,a3,a4,e,ja]
  ·have e:=hf (by simp[a2,a3])
   simp(disch:=omega)only[aY,aa,simprocAttr,hc,bK,cg,a3,e,ja]
 ·by_cases a4:(t.names.length:Int)=c2
  ·cases aw with
   | false =>
    have e:=hf (by simp)
    simp(disch:=omega)only[aY,aa,simprocAttr,hc,bK,cg,a2,a4,hn,e,ja]
   | true =>
    simp(disch:=omega)only[aY,aa,simprocAttr,hc,bK,cg,a2,a4,hn,ja]
    exact⟨⟨_,rfl,by simp(disch:=omega)only[aV,aa,simprocAttr]⟩,by simp[a1,a2,a4]⟩
  ·have e:=hf (by simp[a4])
   simp(disch:=omega)only[aY,aa,simprocAttr,hc,bK,cg,a2,a4,e,ja]
theorem agp{t:Tm}{h:Nat}(hb:vl h t){H:ai}(hf:pD t=true->ak t=false)(s:AS)(hs:Fc t H s) :
  W A ((re.body.post 2).pre 1) s (andThen (fun s'=>Fc t H s'/\pD t=false) (ja H (ak t))):=by
 obtain⟨T,rfl,e1⟩:=hs
 unfold pD at hf ⊢
 unfold Fc
 generalize ak t=pr at hf ⊢
 have hq:=R3 t.name H (by have:=hb.a;omega)
 have hw:=ox t.name H (by have:=hb.a;omega)
 generalize cT t.name=q at hq hf ⊢
 generalize isWord t.name=w at hw hf ⊢
 unfold re
 simp only[bq.pre,bq.post]
 by_cases ty:t.kind=3\/t.kind=7\/t.kind=8\/t.kind=9\/t.kind=10
 ·have et:iW t.kind=true:=decide_eq_true ty
  rw[et] at hf ⊢
  rcases ty with ty|ty|ty|ty|ty
  all_goals
   cases q with
   | false =>
    have e:=hf rfl
    simp(disch:=omega)only[aY,aa,simprocAttr,e1,ty,hq,e,ja]
   | true =>
    simp(disch:=omega)only[aY,aa,simprocAttr,e1,ty,hq,ja]
    exact⟨_,rfl,by first|(simp(disch:=omega)only[aV,aa,simprocAttr,e1];done)|(simp(disch:=omega)only[aV,aa,simprocAttr,e1,ty];done)|(simp(disch:=omega)only[aV,aa,simprocAttr,e1,k2];done)|(simp(disch:=omega)only[aV,aa,simprocAttr,e1,k0];done)|(simp(disch:=omega)only[aV,aa,simprocAttr,e1,k1];done)|(simp(disch:=omega)only[aV,aa,simprocAttr,e1,kk];done)⟩
 ·have et:iW t.kind=false:=aoP ty
  rw[et] at hf ⊢
  by_cases k2:t.kind=2
  ·rw[decide_eq_true k2] at hf ⊢
   cases w with
   | false =>
    have e:=hf rfl
    simp(disch:=omega)only[aY,aa,simprocAttr,e1,k2,hw,e,ja]
   | true =>
    simp(disch:=omega)only[aY,aa,simprocAttr,e1,k2,hw,ja]
    exact⟨_,rfl,by first|(simp(disch:=omega)only[aV,aa,simprocAttr,e1];done)|(simp(disch:=omega)only[aV,aa,simprocAttr,e1,ty];done)|(simp(disch:=omega)only[aV,aa,simprocAttr,e1,k2];done)|(simp(disch:=omega)only[aV,aa,simprocAttr,e1,k0];done)|(simp(disch:=omega)only[aV,aa,simprocAttr,e1,k1];done)|(simp(disch:=omega)only[aV,aa,simprocAttr,e1,kk];done)⟩
  ·rw[aoP k2] at hf ⊢
   by_cases na:t.name=[]
   ·have en:(t.name==[])=true:=by rw[na];rfl
    simp(disch:=omega)only[aY,aa,simprocAttr,e1,k2,en,bne,ja]
    exact⟨⟨_,rfl,by first|(simp(disch:=omega)only[aV,aa,simprocAttr,e1];done)|(simp(disch:=omega)only[aV,aa,simprocAttr,e1,ty];done)|(simp(disch:=omega)only[aV,aa,simprocAttr,e1,k2];done)|(simp(disch:=omega)only[aV,aa,simprocAttr,e1,k0];done)|(simp(disch:=omega)only[aV,aa,simprocAttr,e1,k1];done)|(simp(disch:=omega)only[aV,aa,simprocAttr,e1,kk];done)⟩,by simp[na]⟩
   ·have en:(t.name==[])=false:=by simpa using na
    have e:=hf (by simp[na])
    simp(disch:=omega)only[aY,aa,simprocAttr,e1,k2,en,bne,e,ja]
theorem agq{t:Tm}{h:Nat}(hb:vl h t){H:ai}(hf:pE t=true->ak t=false)(s:AS)(hs:Fc t H s) :
  W A (((re.body.post 2).post 1).pre 1) s (andThen (fun s'=>Fc t H s'/\pE t=false) (ja H (ak t))):=by
 obtain⟨T,rfl,e1⟩:=hs
 unfold pE at hf ⊢
 unfold Fc
 generalize ak t=pr at hf ⊢
 have hw:=ox t.field H (by have:=hb.f;omega)
 generalize isWord t.field=w at hw hf ⊢
 unfold re
 simp only[bq.pre,bq.post]
 by_cases ty:t.kind=8\/t.kind=9
 ·rw[decide_eq_true ty] at hf ⊢
  rcases ty with ty|ty
  all_goals
   cases w with
   | false =>
    have e:=hf rfl
    simp(disch:=omega)only[aY,aa,simprocAttr,e1,ty,hw,e,ja]
   | true =>
    simp(disch:=omega)only[aY,aa,simprocAttr,e1,ty,hw,ja]
    exact⟨_,rfl,by first|(simp(disch:=omega)only[aV,aa,simprocAttr,e1];done)|(simp(disch:=omega)only[aV,aa,simprocAttr,e1,ty];done)|(simp(disch:=omega)only[aV,aa,simprocAttr,e1,k2];done)|(simp(disch:=omega)only[aV,aa,simprocAttr,e1,k0];done)|(simp(disch:=omega)only[aV,aa,simprocAttr,e1,k1];done)|(simp(disch:=omega)only[aV,aa,simprocAttr,e1,kk];done)⟩
 ·rw[aoP ty] at hf ⊢
  by_cases na:t.field=[]
  ·have en:(t.field==[])=true:=by rw[na];rfl
   simp(disch:=omega)only[aY,aa,simprocAttr,e1,en,bne,ja]
   exact⟨⟨_,rfl,by first|(simp(disch:=omega)only[aV,aa,simprocAttr,e1];done)|(simp(disch:=omega)only[aV,aa,simprocAttr,e1,ty];done)|(simp(disch:=omega)only[aV,aa,simprocAttr,e1,k2];done)|(simp(disch:=omega)only[aV,aa,simprocAttr,e1,k0];done)|(simp(disch:=omega)only[aV,aa,simprocAttr,e1,k1];done)|(simp(disch:=omega)only[aV,aa,simprocAttr,e1,kk];done)⟩,by simp[na]⟩
  ·have en:(t.field==[])=false:=by simpa using na
   have e:=hf (by simp[na])
   simp(disch:=omega)only[aY,aa,simprocAttr,e1,en,bne,e,ja]
theorem agr{t:Tm}{h:Nat}(hb:vl h t){H:ai}(hf:oQ t=true->ak t=false)(s:AS)(hs:Fc t H s) :
  W A ((((re.body.post 2).post 1).post 1).pre 0) s (andThen (fun s'=>Fc t H s'/\oQ t=false) (ja H (ak t))):=by
 obtain⟨T,rfl,e1⟩:=hs
 unfold oQ at hf ⊢
 unfold Fc
 generalize ak t=pr at hf ⊢
 have hw:aE A 58 [.agg [.str t.wn,.slice (ax t.wk) false]] H=some (.bool (bk (.mk t.wn t.wk)),none):=by
  have:=wi 3 (.mk t.wn t.wk) H hb.w
  rwa [hN] at this
 have hwk:t.wk.length<=1:=hb.w.2.1
 generalize bk (.mk t.wn t.wk)=w at hw hf ⊢
 unfold re
 simp only[bq.pre,bq.post]
 by_cases ty:t.kind=11
 ·rw[decide_eq_true ty] at hf ⊢
  cases w with
  | false =>
   have e:=hf rfl
   simp(disch:=omega)only[aY,aa,simprocAttr,e1,ty,hw,e,ja]
  | true =>
   simp(disch:=omega)only[aY,aa,simprocAttr,e1,ty,hw,ja]
   exact⟨_,rfl,by first|(simp(disch:=omega)only[aV,aa,simprocAttr,e1];done)|(simp(disch:=omega)only[aV,aa,simprocAttr,e1,ty];done)|(simp(disch:=omega)only[aV,aa,simprocAttr,e1,k2];done)|(simp(disch:=omega)only[aV,aa,simprocAttr,e1,k0];done)|(simp(disch:=omega)only[aV,aa,simprocAttr,e1,k1];done)|(simp(disch:=omega)only[aV,aa,simprocAttr,e1,kk];done)⟩
 ·rw[aoP ty] at hf ⊢
  by_cases na:t.wn=[]
  ·have en:(t.wn==[])=true:=by rw[na];rfl
   by_cases nk:0<t.wk.length
   ·have e:=hf (by simp[nk])
    simp(disch:=omega)only[aY,aa,simprocAttr,e1,ty,en,bne,dG,e,ja]
   ·simp(disch:=omega)only[aY,aa,simprocAttr,e1,ty,en,bne,dG,ja]
    exact⟨⟨_,rfl,by first|(simp(disch:=omega)only[aV,aa,simprocAttr,e1];done)|(simp(disch:=omega)only[aV,aa,simprocAttr,e1,ty];done)|(simp(disch:=omega)only[aV,aa,simprocAttr,e1,k2];done)|(simp(disch:=omega)only[aV,aa,simprocAttr,e1,k0];done)|(simp(disch:=omega)only[aV,aa,simprocAttr,e1,k1];done)|(simp(disch:=omega)only[aV,aa,simprocAttr,e1,kk];done)⟩,by simp[na,nk]⟩
  ·have en:(t.wn==[])=false:=by simpa using na
   have e:=hf (by simp[na])
   simp(disch:=omega)only[aY,aa,simprocAttr,e1,ty,en,bne,e,ja]
theorem ags{t:Tm}{h:Nat}(hb:vl h t){H:ai}(hf:oR t=true->ak t=false)(s:AS)(hs:Fc t H s) :
  W A (((((re.body.post 2).post 1).post 1).post 0).pre 0) s (andThen (fun s'=>Fc t H s'/\oR t=false) (ja H (ak t))):=by
 obtain⟨T,rfl,e1⟩:=hs
 unfold oR at hf ⊢
 unfold Fc
 generalize ak t=pr at hf ⊢
 have hn:=hb.n
 unfold re
 simp only[bq.pre,bq.post]
 by_cases k0:t.kind=0
 ·rw[decide_eq_true k0] at hf ⊢
  by_cases a1:t.n < -1099511627776
  ·have e:=hf (by simp[a1])
   simp(disch:=omega)only[aY,aa,simprocAttr,e1,k0,e,ja]
  by_cases a2:1099511627776<t.n
  ·have e:=hf (by simp[a2])
   simp(disch:=omega)only[aY,aa,simprocAttr,e1,k0,e,ja]
  ·simp(disch:=omega)only[aY,aa,simprocAttr,e1,k0,ja]
   exact⟨⟨_,rfl,by first|(simp(disch:=omega)only[aV,aa,simprocAttr,e1];done)|(simp(disch:=omega)only[aV,aa,simprocAttr,e1,ty];done)|(simp(disch:=omega)only[aV,aa,simprocAttr,e1,k2];done)|(simp(disch:=omega)only[aV,aa,simprocAttr,e1,k0];done)|(simp(disch:=omega)only[aV,aa,simprocAttr,e1,k1];done)|(simp(disch:=omega)only[aV,aa,simprocAttr,e1,kk];done)⟩,by simp;omega⟩
 rw[aoP k0] at hf ⊢
 by_cases k1:t.kind=1
 ·rw[decide_eq_true k1] at hf ⊢
  by_cases a0:t.n=0
  ·simp(disch:=omega)only[aY,aa,simprocAttr,e1,k1,ja]
   exact⟨⟨_,rfl,by first|(simp(disch:=omega)only[aV,aa,simprocAttr,e1];done)|(simp(disch:=omega)only[aV,aa,simprocAttr,e1,ty];done)|(simp(disch:=omega)only[aV,aa,simprocAttr,e1,k2];done)|(simp(disch:=omega)only[aV,aa,simprocAttr,e1,k0];done)|(simp(disch:=omega)only[aV,aa,simprocAttr,e1,k1];done)|(simp(disch:=omega)only[aV,aa,simprocAttr,e1,kk];done)⟩,by simp[a0]⟩
  by_cases a1:t.n=1
  ·simp(disch:=omega)only[aY,aa,simprocAttr,e1,k1,ja]
   exact⟨⟨_,rfl,by first|(simp(disch:=omega)only[aV,aa,simprocAttr,e1];done)|(simp(disch:=omega)only[aV,aa,simprocAttr,e1,ty];done)|(simp(disch:=omega)only[aV,aa,simprocAttr,e1,k2];done)|(simp(disch:=omega)only[aV,aa,simprocAttr,e1,k0];done)|(simp(disch:=omega)only[aV,aa,simprocAttr,e1,k1];done)|(simp(disch:=omega)only[aV,aa,simprocAttr,e1,kk];done)⟩,by simp[a1]⟩
  ·have e:=hf (by simp[a0,a1])
   simp(disch:=omega)only[aY,aa,simprocAttr,e1,k1,e,ja]
 ·rw[aoP k1] at hf ⊢
  simp(disch:=omega)only[aY,aa,simprocAttr,e1,k0,k1,ja]
  exact⟨_,rfl,by first|(simp(disch:=omega)only[aV,aa,simprocAttr,e1];done)|(simp(disch:=omega)only[aV,aa,simprocAttr,e1,ty];done)|(simp(disch:=omega)only[aV,aa,simprocAttr,e1,k2];done)|(simp(disch:=omega)only[aV,aa,simprocAttr,e1,k0];done)|(simp(disch:=omega)only[aV,aa,simprocAttr,e1,k1];done)|(simp(disch:=omega)only[aV,aa,simprocAttr,e1,kk];done)⟩
theorem agt{t:Tm}{h:Nat}(hb:vl h t){H:ai}(hf:pF t=true->ak t=false)(s:AS)(hs:Fc t H s) :
  W A ((((((re.body.post 2).post 1).post 1).post 0).post 0).pre 0) s (andThen (fun s'=>Fc t H s'/\pF t=false) (ja H (ak t))):=by
 obtain⟨T,rfl,e1⟩:=hs
 unfold pF at hf ⊢
 unfold Fc
 generalize ak t=pr at hf ⊢
 unfold re
 simp only[bq.pre,bq.post]
 by_cases kk:t.kind=0\/t.kind=1\/t.kind=4
 ·rcases kk with kk|kk|kk
  all_goals
   simp(disch:=omega)only[aY,aa,simprocAttr,e1,kk,ja]
   exact⟨⟨_,rfl,by first|(simp(disch:=omega)only[aV,aa,simprocAttr,e1];done)|(simp(disch:=omega)only[aV,aa,simprocAttr,e1,ty];done)|(simp(disch:=omega)only[aV,aa,simprocAttr,e1,k2];done)|(simp(disch:=omega)only[aV,aa,simprocAttr,e1,k0];done)|(simp(disch:=omega)only[aV,aa,simprocAttr,e1,k1];done)|(simp(disch:=omega)only[aV,aa,simprocAttr,e1,kk];done)⟩,by simp⟩
 ·by_cases a0:t.n=0
  ·simp(disch:=omega)only[aY,aa,simprocAttr,e1,ja]
   exact⟨⟨_,rfl,by first|(simp(disch:=omega)only[aV,aa,simprocAttr,e1];done)|(simp(disch:=omega)only[aV,aa,simprocAttr,e1,ty];done)|(simp(disch:=omega)only[aV,aa,simprocAttr,e1,k2];done)|(simp(disch:=omega)only[aV,aa,simprocAttr,e1,k0];done)|(simp(disch:=omega)only[aV,aa,simprocAttr,e1,k1];done)|(simp(disch:=omega)only[aV,aa,simprocAttr,e1,kk];done)⟩,by simp[a0]⟩
  ·have e:=hf (by simp[a0];omega)
   simp(disch:=omega)only[aY,aa,simprocAttr,e1,e,ja]
theorem lN{t:Tm}(h:mu t=false):ak t=false:=by rw[fE,h,aoj]
theorem BX:∀ (h:Nat) (t:Tm) (H:ai),LW h t->aE A 59 [.agg (cV t)] H=some (.bool (ak t),none)
 | 0,t,H,hb=>by cases hb
 | h+1,t,H,hb=>by
  have ih:=BX h
  have hF:=hb.out
  refine aD (fn:=re) rfl rfl rfl ?_
  refine iz 2 _ (ago hF fun hx=>lN (by unfold mu;rw[hx];rfl)) ?_
  rintro s1 ⟨AQ,b1⟩
  refine iz 1 _ (agp hF (fun hx=>lN (by unfold mu;rw[hx];simp)) s1 AQ) ?_
  rintro s2 ⟨Ti,b2⟩
  refine iz 1 _ (agq hF (fun hx=>lN (by unfold mu;rw[hx];simp)) s2 Ti) ?_
  rintro s3 ⟨hs3,b3⟩
  refine iz 0 _ (agr hF (fun hx=>lN (by unfold mu;rw[hx];simp)) s3 hs3) ?_
  rintro s4 ⟨hs4,b4⟩
  refine iz 0 _ (ags hF (fun hx=>lN (by unfold mu;rw[hx];simp)) s4 hs4) ?_
  rintro s5 ⟨hs5,b5⟩
  refine iz 0 _ (agt hF (fun hx=>lN (by unfold mu;rw[hx];simp)) s5 hs5) ?_
  rintro s6 ⟨⟨T,rfl,e1⟩,b6⟩
  have ho:mu t=true:=by unfold mu;rw[b1,b2,b3,b4,b5,b6];rfl
  have hp:ak t=t.kids.all ak:=by rw[fE,ho,aon,dJ]
  rw[hp]
  have og:=hF.kl
  unfold re
  simp only[bq.post]
  simp(disch:=omega)only[aY,aa,simprocAttr]
  refine cK t.kids.length 0 (fun i s=>∃ T,s=⟨T,H,H.length,1⟩/\T 1=.lbox 0 [.int .i64 t.kind,.int .i64 t.n,.str t.name,.str t.field,.str t.wn,.slice (ax t.wk) false,.slice (ar t.kids) false,.slice (strs t.names) false]/\T 7=.int .i64 i/\t.kids.all ak=(t.kids.drop i).all ak)
   (fun s=>∃ T,s=⟨T,H,H.length,1⟩/\t.kids.all ak=true) (fun s=>∃ T,s=⟨T,H,H.length,1⟩/\T 2=.bool false/\t.kids.all ak=false) ?_ ?_ ?_ 0 _ (aoW _) ?_
  ·rintro i st hi ⟨T,rfl,e1,e7,hc⟩
   by_cases bA:i<t.kids.length
   ·have hx:=an3 bA
    have hd:=aoF bA
    have hm:=aoX bA
    generalize t.kids[i]=u at hx hd hm
    have hu:=ih u H (hF.kb u hm)
    have gq:=sL hx
    rw[al] at hu gq
    rw[hd,aoV] at hc
    cases JK:ak u with
    | false =>
     rw[JK] at hu hc
     simp(disch:=omega)only[aY,aa,simprocAttr,e1,e7,bK,gq,hu]
     exact⟨_,rfl,by simp(disch:=omega)only[aV,aa,simprocAttr],by rw[hc];rfl⟩
    | true =>
     rw[JK] at hu hc
     simp(disch:=omega)only[aY,aa,simprocAttr,e1,e7,bK,gq,hu]
     exact⟨bA,_,rfl,by simp(disch:=omega)only[aV,aa,simprocAttr,e1],by simp(disch:=omega)only[aV,aa,simprocAttr],by rw[hc,aon]⟩
   ·have e:t.kids.drop i=[]:=aqo (by omega)
    rw[e,ao5] at hc
    simp(disch:=omega)only[aY,aa,simprocAttr,e1,e7,bK]
    exact⟨_,rfl,hc⟩
  ·rintro st ⟨T,rfl,hc⟩
   simp(disch:=omega)only[aY,aa,simprocAttr,hc]
  ·rintro st ⟨T,rfl,h2,hc⟩
   simp(disch:=omega)only[aY,aa,simprocAttr,h2,hc]
  ·exact⟨_,rfl,by simp(disch:=omega)only[aV,aa,simprocAttr,e1],by simp(disch:=omega)only[aV,aa,simprocAttr],by simp⟩
theorem kK(a l:List cd)(x y:cd)(H:ai)(ha:a.length<=10000000)(hl:l.length<=10000000)(o o' : Bool) :
  aE A 61 [.slice (strs a) false,.str x,.slice (strs l) false,.str y] H=some (.slice (strs (a++[x]++l++[y])) true,none):=by
 have h1:aF false 1 16 (.slice [] true) (.slice (strs a) false)=some (.slice (strs a) true):=cD (l:=[]) (by simp;omega)
 have h2:aF false 1 16 (.slice (strs a) true) (.slice [[.str x]] true)=some (.slice (strs (a++[x])) true):=fV (by omega)
 have h3:aF false 1 16 (.slice (strs (a++[x])) true) (.slice (strs l) false)=some (.slice (strs (a++[x]++l)) true):=cD (by simp;omega)
 have h4:aF false 1 16 (.slice (strs (a++[x]++l)) true) (.slice [[.str y]] true)=some (.slice (strs (a++[x]++l++[y])) true):=fV (by simp;omega)
 generalize a++[x]++l++[y]=l3 at h4 ⊢
 generalize a++[x]++l=l2 at h3 h4
 generalize a++[x]=l1 at h2 h3
 refine aD (fn:=Q3) rfl rfl rfl ?_
 unfold Q3
 simp(disch:=omega)only[aY,aa,simprocAttr,h1,h2,h3,h4]
def mH(k:Nat):cd:=gE (k+1) k []
theorem uq:∀ (f g n:Nat) (acc:cd),n<f->n<g->gE f n acc=gE g n acc
 | 0,_,n,acc,h,_=>by omega
 | f+1,0,n,acc,_,h=>by omega
 | f+1,g+1,n,acc,h,h2=>by
  unfold gE
  cases hn:Nat.blt n 10 with
  | true=>rfl
  | false =>
   have:¬ n<10:=fun h=>by
    have:Nat.blt n 10=true:=by simpa [aoE] using h
    rw[hn] at this;cases this
   simp only[anZ]
   exact uq f g (n / 10) _ (by omega) (by omega)
theorem yw(k:Nat)(H:ai)(hk:k<=2199023255552):aE A 32 [.int .i64 k] H=some (.str (mH k),none):=by
 refine aD (fn:=QO) rfl rfl rfl ?_
 unfold QO
 simp(disch:=omega)only[aY,aa,simprocAttr]
 refine Tp 0 (fun m s=>∃ T acc,s=⟨T,H,H.length,0⟩/\m<=2199023255552/\T 0=.int .i64 m/\T 3=.str acc/\acc.length+m<=k/\mH k=gE (m+1) m acc)
  (fun s=>∃ T acc m,s=⟨T,H,H.length,0⟩/\m<10/\T 0=.int .i64 (m:Nat)/\T 3=.str acc/\acc.length+m<=k/\mH k=UInt8.ofNat (48+m) :: acc) (fun _=>False) ?_ ?_ (fun _ h=>h.elim) k _ ?_
 ·rintro m s ⟨T,acc,rfl,hm,e0,e3,hl,hc⟩
  by_cases h9:9<m
  ·have hb:Nat.blt m 10=false:=by cases h:Nat.blt m 10 with|false=>rfl|true=>simp[aoE] at h;omega
   have e:gE (m+1) m acc=gE (m / 10+1) (m / 10) (UInt8.ofNat (48+m % 10) :: acc):=by
    rw[gE,hb,anZ]
    exact uq _ _ _ _ (by omega) (by omega)
   rw[e] at hc
   simp(disch:=omega)only[aY,aa,simprocAttr,e0,e3,gQ,p9,S9,lO,qy,aoV,ao5,bytesOf]
   have em:(48+(m:Int) % 10).toNat=48+m % 10:=by omega
   have ed:(m:Int) / 10=((m / 10:Nat):Int):=by omega
   exact⟨m / 10,by omega,_,UInt8.ofNat (48+m % 10) :: acc,rfl,by omega,by simp(disch:=omega)only[aV,aa,simprocAttr,ed],by simp(disch:=omega)only[aV,aa,simprocAttr,em],by simp only[an0];omega,hc⟩
  ·have hb:Nat.blt m 10=true:=by simp[aoE];omega
   have e:gE (m+1) m acc=UInt8.ofNat (48+m) :: acc:=by rw[gE,hb,cond_true]
   rw[e] at hc
   simp(disch:=omega)only[aY,aa,simprocAttr,e0,e3]
   exact⟨_,acc,m,rfl,by omega,by simp(disch:=omega)only[aV,aa,simprocAttr,e0],by simp(disch:=omega)only[aV,aa,simprocAttr,e3],hl,hc⟩
 ·rintro s ⟨T,acc,m,rfl,hm,e0,e3,hl,hc⟩
  simp(disch:=omega)only[aY,aa,simprocAttr,e0,e3,S9,lO,qy,aoV,ao5,bytesOf]
  rw[hc,show (48+(m:Int)).toNat=48+m by omega]
 ·exact⟨_,[],rfl,hk,by simp(disch:=omega)only[aV,aa,simprocAttr],by simp(disch:=omega)only[aV,aa,simprocAttr],by simp,rfl⟩
def o6(p:List cd × Int)(least:Int):List cd:=if p.2<least then [[40]]++p.1++[[41]] else p.1
def aR:List (List cd)->List cd
 | []=>[]
 | [a]=>a
 | a :: b :: r=>a++[[44]]++aR (b :: r)
theorem jO(x:List cd):∀ l:List (List cd),aR (l++[x])=if l=[] then x else aR l++[[44]]++x
 | []=>by simp[aR]
 | [a]=>by simp[aR]
 | a :: b :: r=>by
  have:=jO x (b :: r)
  simp only[apm,aR] at this ⊢
  rw[this]
  simp
def gx(k n:Int)(a f:cd)(w:Wd)(ns:List cd)(tl:List (List cd × Int)):List cd :=
 if k=0 then (if n<0 then [[45],mH (-n).toNat] else [mH n.toNat])
 else if k=1 then [if n=0 then [102,97,108,115,101] else [116,114,117,101]]
 else if k=2 then [a]
 else if k=3 then cU a++[[40]]++aR (tl.map (·.1))++[[41]]
 else if k=4 then (match tl with
  | [x]=>[(fh n).1]++o6 x 7
  | [x,y]=>o6 x (if (fh n).2=3 then 4 else (fh n).2)++[(fh n).1]++o6 y ((fh n).2+1)
  | _=>[])
 else if k=5 then (match tl with|[x,y,z]=>[[105,102]]++x.1++[[116,104,101,110]]++y.1++[[101,108,115,101]]++z.1|_=>[])
 else if k=6 then (match tl,ns with|[x,y],[s]=>[[108,101,116],s,[61]]++x.1++[[105,110]]++y.1|_,_=>[])
 else if k=7 then cU a++[[123]]++aR (List.zipWith (fun s (x:List cd × Int)=>[s,[61]]++x.1) ns tl)++[[125]]
 else if k=8 then (match tl with|[x]=>cU a++[[58],f]++[[91]]++x.1++[[93]]|_=>[])
 else if k=9 then (match tl with|[x]=>cU a++[[58],f]++[[40]]++x.1++[[41]]|_=>[])
 else if k=10 then (match tl,ns with
  | [x,y],[p,q]=>[[109,97,116,99,104]]++cU a++[[40]]++x.1++[[41]]++[[123]]++([p,q,[45,62]]++y.1)++[[125]]
  | [x,y,z],[p,q,r,u]=>[[109,97,116,99,104]]++cU a++[[40]]++x.1++[[41]]++[[123]]++([p,q,[45,62]]++y.1++[[44]]++[r,u,[45,62]]++z.1)++[[125]]
  | _,_=>[])
 else if k=11 then [gP]++[[40]]++fe w++[[41]]++[[91]]++aR (tl.map (·.1))++[[93]]
 else if k=12 then (match tl,ns with|[x,y,z],[s,u]=>[[102,111,108,100],s,[44],u,[61]]++y.1++[[111,118,101,114]]++x.1++[[100,111]]++z.1|_,_=>[])
 else []
mutual
def av:Tm->List cd
 | .mk k n a f wn wk ks ns=>gx k n a f (.mk wn wk) ns (z7 ks)
def z7:List Tm->List (List cd × Int)
 | []=>[]
 | t :: r=>(av t,fl t) :: z7 r
end
theorem z8:∀ l:List Tm,z7 l=l.map fun t=>(av t,fl t)
 | []=>by simp[z7]
 | t :: r=>by simp[z7,z8 r]
theorem cM(t:Tm):av t=gx t.kind t.n t.name t.field (.mk t.wn t.wk) t.names (t.kids.map fun t=>(av t,fl t)):=by
 cases t;rw[av,z8,Tm.kind,Tm.n,Tm.name,Tm.field,Tm.wn,Tm.wk,Tm.names,Tm.kids]
structure qv (t:Tm):Prop where
 d:∀ H,aE A 33 [.agg (cV t)] H=some (.slice (strs (av t)) true,none)
 len:(av t).length<=100000
theorem Rv{t:Tm}(h:qv t)(least:Int)(H:ai):aE A 64 [.agg (cV t),.int .i64 least] H=some (.slice (strs (o6 (av t,fl t) least)) true,none):=by
 have h1:=h.d H
 have h2:=V' t H
 have hl:=h.len
 rw[al] at h1 h2 ⊢
 have a1:aF false 1 16 (.slice [[.str [40]]] true) (.slice (strs (av t)) true)=some (.slice (strs ([[40]]++av t)) true):=cD (l:=[[40]]) (by simp;omega)
 have a2:aF false 1 16 (.slice (strs ([[40]]++av t)) true) (.slice [[.str [41]]] true)=some (.slice (strs ([[40]]++av t++[[41]])) true):=fV (by simp;omega)
 unfold o6
 generalize [[40]]++av t++[[41]]=l2 at a2 ⊢
 generalize [[40]]++av t=l1 at a1 a2
 refine aD (fn:=Q6) rfl rfl rfl ?_
 unfold Q6
 by_cases hc:fl t<least
 ·rw[if_pos hc]
  simp(disch:=omega)only[aY,aa,simprocAttr,h1,h2,a1,a2]
 ·rw[if_neg hc]
  simp(disch:=omega)only[aY,aa,simprocAttr,h1,h2]
theorem iM:∀ (l:List (List cd)) (n:Nat),(∀ x∈l,x.length<=n)->(aR l).length<=l.length*(n+1)
 | [],_,_=>by simp[aR]
 | [a],n,h=>by have:=h a (by simp);simp only[aR,an0,an1];omega
 | a :: b :: r,n,h=>by
  have h1:=h a (by simp)
  have h2:=iM (b :: r) n (fun x hx=>h x (by simp only[aoH] at hx ⊢;exact .inr hx))
  simp only[aR,aod,an0,an1] at h2 ⊢
  rw[aoM (r.length+1) 1 (n+1)]
  omega
theorem Hh{l:List Tm}(hl:l.length<=10)(h:∀ t∈l,qv t)(H:ai):aE A 62 [.slice (ar l) false] H=some (.slice (strs (aR (l.map av))) false,none):=by
 refine aD (fn:=Q4) rfl rfl rfl ?_
 unfold Q4
 simp(disch:=omega)only[aY,aa,simprocAttr]
 refine cK l.length 0 (fun i s=>∃ T,s=⟨T,H,H.length,0⟩/\T 0=.slice (ar l) false/\T 3=.slice (strs (aR ((l.take i).map av))) true/\T 4=.int .i64 i)
  (fun s=>∃ T,s=⟨T,H,H.length,0⟩/\T 3=.slice (strs (aR (l.map av))) true) (fun _=>False) ?_ ?_ (fun _ h=>h.elim) 0 _ (aoW _) ?_
 ·rintro i s hi ⟨T,rfl,e0,e3,e4⟩
  by_cases bA:i<l.length
  ·have hx:=an3 bA
   have hm:=aoX bA
   have kU:l.take (i+1)=l.take i++[l[i]]:=by rw[ap2,hx];rfl
   generalize l[i]=u at hx hm kU
   have hu:=(h u hm).d H
   have hul:=(h u hm).len
   have gq:=sL hx
   rw[al] at hu gq
   have JA:(aR ((l.take i).map av)).length<=10*100001:=by
    have h1:=iM ((l.take i).map av) 100000 (fun x hx=>by
     obtain⟨t,ht,rfl⟩:=aoD.1 hx
     exact (h t (apD ht)).len)
    have h2:((l.take i).map av).length<=10:=by simp;omega
    exact apk h1 (aoo _ h2)
   have lG:(l.take (i+1)).map av=(l.take i).map av++[av u]:=by rw[kU];simp
   have hs:=jO (av u) ((l.take i).map av)
   rw[<- lG] at hs
   by_cases h0:i=0
   ·subst h0
    simp only[aoQ,aof,apu] at hs e3
    have a1:aF false 1 16 (.slice (strs (aR [])) true) (.slice (strs (av u)) true)=some (.slice (strs (av u)) true):=cD (l:=[]) (by simp;omega)
    simp(disch:=omega)only[aY,aa,simprocAttr,e0,e3,e4,bK,gq,hu,a1]
    exact⟨bA,_,rfl,by simp(disch:=omega)only[aV,aa,simprocAttr,e0],by rw[hs];simp(disch:=omega)only[aV,aa,simprocAttr],by simp(disch:=omega)only[aV,aa,simprocAttr]⟩
   ·have ff:¬ ((l.take i).map av=[]):=fun e=>by
     have:=apK List.length e
     rw[aoI,ao2,an1] at this
     omega
    rw[if_neg ff] at hs
    generalize aR ((l.take i).map av)=acc at e3 JA hs
    have a1:aF false 1 16 (.slice (strs acc) true) (.slice [[.str [44]]] true)=some (.slice (strs (acc++[[44]])) true):=fV (by omega)
    have a2:aF false 1 16 (.slice (strs (acc++[[44]])) true) (.slice (strs (av u)) true)=some (.slice (strs (acc++[[44]]++av u)) true):=cD (by simp;omega)
    generalize acc++[[44]]++av u=l2 at a2 hs
    generalize acc++[[44]]=l1 at a1 a2
    simp(disch:=omega)only[aY,aa,simprocAttr,e0,e3,e4,bK,gq,hu,a1,a2]
    exact⟨bA,_,rfl,by simp(disch:=omega)only[aV,aa,simprocAttr,e0],by rw[hs];simp(disch:=omega)only[aV,aa,simprocAttr],by simp(disch:=omega)only[aV,aa,simprocAttr]⟩
  ·rw[aoJ (by omega)] at e3
   simp(disch:=omega)only[aY,aa,simprocAttr,e0,e3,e4,bK]
   exact⟨_,rfl,by simp(disch:=omega)only[aV,aa,simprocAttr,e3]⟩
 ·rintro s ⟨T,rfl,e3⟩
  simp(disch:=omega)only[aY,aa,simprocAttr,e3]
 ·exact⟨_,rfl,by simp(disch:=omega)only[aV,aa,simprocAttr],by simp(disch:=omega)only[aV,aa,simprocAttr,aoQ,aof,aR,strs],by simp(disch:=omega)only[aV,aa,simprocAttr]⟩
section
structure Am (t:Tm):Prop where
 b1:oP t=false
 b2:pD t=false
 b3:pE t=false
 b4:oQ t=false
 b5:oR t=false
 b6:pF t=false
 kids:∀ u∈t.kids,ak u=true
theorem xS{t:Tm}(h:ak t=true):Am t:=by
 rw[fE,an7,dJ] at h
 obtain⟨h1,h2⟩:=h
 simp only[mu,aoT,aoY] at h1
 obtain⟨⟨⟨⟨⟨a1,a2⟩,a3⟩,a4⟩,a5⟩,a6⟩:=h1
 exact⟨a1,a2,a3,a4,a5,a6,fun u hu=>an'.1 h2 u hu⟩
theorem gz{t:Tm}(h:Am t){c1 c2:Int}(hc:bR t.kind t.n t.kids.length=(c1,c2)):c1≠-2/\(0<=c1->(t.kids.length:Int)=c1)/\(t.names.length:Int)=c2:=by
 have h1:=h.b1
 unfold oP at h1
 rw[hc] at h1
 simp only[lY,aoY,aoN,not_and,Decidable.not_not] at h1
 exact⟨h1.1.1.1,h1.1.1.2,h1.1.2⟩
theorem zI{t:Tm}(h:Am t):0<=t.kind/\t.kind<=12:=by
 rcases tG t.kind with e|e|e|e|e|e|e|e|e|e|e|e|e|e
 all_goals first|omega|skip
 have hc:bR t.kind t.n t.kids.length=(-2,0):=by
  unfold bR
  repeat rw[if_neg (by omega)]
 exact absurd rfl (gz h hc).1
theorem He{α:Type}{l:List α}(h:l.length=1):∃ a,l=[a]:=by
 match l,h with
 | [a],_=>exact⟨a,rfl⟩
theorem Hf{α:Type}{l:List α}(h:l.length=2):∃ a b,l=[a,b]:=by
 match l,h with
 | [a,b],_=>exact⟨a,b,rfl⟩
theorem RC{α:Type}{l:List α}(h:l.length=3):∃ a b c,l=[a,b,c]:=by
 match l,h with
 | [a,b,c],_=>exact⟨a,b,c,rfl⟩
section
variable {t:Tm}{h:Nat}(hF:vl h t)(hO:Am t)(hK:∀ u∈t.kids,qv u)(H:ai)
include hF hO hK
theorem tk0(hk:t.kind=0):aE A 33 [.agg (cV t)] H=some (.slice (strs (av t)) true,none):=by
 have _:=hF
 have _:=hK
 have hn:=hO.b5
 unfold oR at hn
 rw[decide_eq_true hk] at hn
 simp only[cond_true,aoN,not_or,Int.not_lt] at hn
 rw[cM,al]
 refine aD (fn:=kD) rfl rfl rfl ?_
 unfold kD
 by_cases h0:t.n<0
 ·obtain⟨m,hm⟩:∃ m:Nat, -t.n=m:=⟨(-t.n).toNat,by omega⟩
  have hm0:0-t.n=m:=by omega
  have hd:=yw m H (by omega)
  have e:gx t.kind t.n t.name t.field (.mk t.wn t.wk) t.names (t.kids.map fun t=>(av t,fl t))=[[45],mH m]:=by
   unfold gx;rw[if_pos hk,if_pos h0,hm];rfl
  rw[e]
  simp(disch:=omega)only[aY,aa,simprocAttr,hk,hm0,hd,strs,aoc,aof]
 ·obtain⟨m,hm⟩:∃ m:Nat,t.n=m:=⟨t.n.toNat,by omega⟩
  have hd:=yw m H (by omega)
  have e:gx t.kind t.n t.name t.field (.mk t.wn t.wk) t.names (t.kids.map fun t=>(av t,fl t))=[mH m]:=by
   unfold gx;rw[if_pos hk,if_neg h0,hm];rfl
  rw[e]
  simp(disch:=omega)only[aY,aa,simprocAttr,hk,hm,hd,strs,aoc,aof]
theorem tk2(hk:t.kind=2):aE A 33 [.agg (cV t)] H=some (.slice (strs (av t)) true,none):=by
 have _:=hF
 have _:=hO
 have _:=hK
 rw[cM,al]
 refine aD (fn:=kD) rfl rfl rfl ?_
 unfold kD
 have e:gx t.kind t.n t.name t.field (.mk t.wn t.wk) t.names (t.kids.map fun t=>(av t,fl t))=[t.name]:=by
  rw[hk];rfl
 rw[e]
 simp(disch:=omega)only[aY,aa,simprocAttr,hk,strs,aoc,aof]
theorem tk3(hk:t.kind=3):aE A 33 [.agg (cV t)] H=some (.slice (strs (av t)) true,none):=by
 have _:=hO
 have hq:=rW t.name H (by have:=hF.a;omega)
 have hl:=Hh (l:=t.kids) (by have:=hF.kl;omega) hK H
 have hb:=kK (cU t.name) (aR (t.kids.map av)) [40] [41] H (by have:=j6 t.name;omega) (by
  have h1:=iM (t.kids.map av) 100000 (fun x hx=>by obtain⟨u,hu,rfl⟩:=aoD.1 hx;exact (hK u hu).len)
  rw[aoI] at h1
  have:=hF.kl
  have h2:t.kids.length*(100000+1)<=3*100001:=aoo _ this
  omega) true false
 rw[cM,al]
 have e:gx t.kind t.n t.name t.field (.mk t.wn t.wk) t.names (t.kids.map fun t=>(av t,fl t))=cU t.name++[[40]]++aR (t.kids.map av)++[[41]]:=by
  rw[hk]
  show cU t.name++[[40]]++aR ((t.kids.map fun t=>(av t,fl t)).map (·.1))++[[41]]=_
  rw[apH]
  rfl
 rw[e]
 generalize cU t.name++[[40]]++aR (t.kids.map av)++[[41]]=out at hb ⊢
 refine aD (fn:=kD) rfl rfl rfl ?_
 unfold kD
 simp(disch:=omega)only[aY,aa,simprocAttr,hk,hq,hl,hb]
theorem tk1(hk:t.kind=1):aE A 33 [.agg (cV t)] H=some (.slice (strs (av t)) true,none):=by
 have _:=hF
 have _:=hK
 have hn:=hO.b5
 unfold oR at hn
 rw[aoP (show ¬ t.kind=0 by omega),decide_eq_true hk] at hn
 simp only[cond_true,anZ,aoN,not_and,Decidable.not_not] at hn
 rw[cM,al]
 refine aD (fn:=kD) rfl rfl rfl ?_
 unfold kD
 by_cases h0:t.n=0
 ·have e:gx t.kind t.n t.name t.field (.mk t.wn t.wk) t.names (t.kids.map fun t=>(av t,fl t))=[[102,97,108,115,101]]:=by
   rw[hk,h0];rfl
  rw[e]
  simp(disch:=omega)only[aY,aa,simprocAttr,hk,h0,strs,aoc,aof]
  first|done|rfl
 ·have h1:=hn h0
  have e:gx t.kind t.n t.name t.field (.mk t.wn t.wk) t.names (t.kids.map fun t=>(av t,fl t))=[[116,114,117,101]]:=by
   rw[hk,h1];rfl
  rw[e]
  simp(disch:=omega)only[aY,aa,simprocAttr,hk,h1,strs,aoc,aof]
  first|done|rfl
theorem tk5(hk:t.kind=5):aE A 33 [.agg (cV t)] H=some (.slice (strs (av t)) true,none):=by
 have _:=hF
 have hc:=gz hO (c1:=3) (c2:=0) (by rw[hk];rfl)
 have hl:=hc.2.1 (by omega)
 obtain⟨x,y,z,gF⟩:=RC (show t.kids.length=3 by omega)
 have hx:=hK x (by rw[gF];simp)
 have hy:=hK y (by rw[gF];simp)
 have hz:=hK z (by rw[gF];simp)
 have dx:=hx.d H
 have dy:=hy.d H
 have dz:=hz.d H
 have lx:=hx.len
 have ly:=hy.len
 have lz:=hz.len
 have kt:ar t.kids=[[.int .i64 x.kind,.int .i64 x.n,.str x.name,.str x.field,.str x.wn,.slice (ax x.wk) false,.slice (ar x.kids) false,.slice (strs x.names) false],
   [.int .i64 y.kind,.int .i64 y.n,.str y.name,.str y.field,.str y.wn,.slice (ax y.wk) false,.slice (ar y.kids) false,.slice (strs y.names) false],
   [.int .i64 z.kind,.int .i64 z.n,.str z.name,.str z.field,.str z.wn,.slice (ax z.wk) false,.slice (ar z.kids) false,.slice (strs z.names) false]]:=by
  rw[gF,ar,ar,ar,ar,al,al,al]
 rw[al] at dx dy dz
 have a1:aF false 1 16 (.slice [[.str [105,102]]] true) (.slice (strs (av x)) true)=some (.slice (strs ([[105,102]]++av x)) true):=cD (l:=[[105,102]]) (by simp;omega)
 have a2:aF false 1 16 (.slice (strs ([[105,102]]++av x)) true) (.slice [[.str [116,104,101,110]]] true)=some (.slice (strs ([[105,102]]++av x++[[116,104,101,110]])) true):=fV (by simp;omega)
 have a3:aF false 1 16 (.slice (strs ([[105,102]]++av x++[[116,104,101,110]])) true) (.slice (strs (av y)) true)=some (.slice (strs ([[105,102]]++av x++[[116,104,101,110]]++av y)) true):=cD (by simp;omega)
 have a4:aF false 1 16 (.slice (strs ([[105,102]]++av x++[[116,104,101,110]]++av y)) true) (.slice [[.str [101,108,115,101]]] true)=some (.slice (strs ([[105,102]]++av x++[[116,104,101,110]]++av y++[[101,108,115,101]])) true):=fV (by simp;omega)
 have a5:aF false 1 16 (.slice (strs ([[105,102]]++av x++[[116,104,101,110]]++av y++[[101,108,115,101]])) true) (.slice (strs (av z)) true)=some (.slice (strs ([[105,102]]++av x++[[116,104,101,110]]++av y++[[101,108,115,101]]++av z)) true):=cD (by simp;omega)
 have e:av t=[[105,102]]++av x++[[116,104,101,110]]++av y++[[101,108,115,101]]++av z:=by
  rw[cM,hk,gF];rfl
 rw[e,al]
 generalize [[105,102]]++av x++[[116,104,101,110]]++av y++[[101,108,115,101]]++av z=l5 at a5 ⊢
 generalize [[105,102]]++av x++[[116,104,101,110]]++av y++[[101,108,115,101]]=l4 at a4 a5
 generalize [[105,102]]++av x++[[116,104,101,110]]++av y=l3 at a3 a4
 generalize [[105,102]]++av x++[[116,104,101,110]]=l2 at a2 a3
 generalize [[105,102]]++av x=l1 at a1 a2
 refine aD (fn:=kD) rfl rfl rfl ?_
 unfold kD
 rw[kt]
 simp(disch:=omega)only[aY,aa,simprocAttr,hk,dx,dy,dz,a1,a2,a3,a4,a5]
end
end
end Go.Proofs.YtbdhkgiakaegdaaGreatDoor
