/-
  A part of the proof of PrintForms: F44, F45, F46, F47, F48, F49, F50, F51, F52, F54, F55.
-/
import Derived.Test.YtbdnnjjcdcacnaaGreatDoorP14
set_option linter.unusedSimpArgs false
set_option linter.unusedVariables false
set_option linter.defProp false
set_option maxHeartbeats 1000000
set_option maxRecDepth 100000
namespace Go.Proofs.YtbdnnjjcdcacnaaGreatDoor
open Go Go.Abs Go.Proofs
theorem ai3(s:bq)(c:UInt8)(H:ah):aD A 132 [.str s,.int .u8 c.toNat] H=some (.int .i64 (iW c.toNat 0 s),none):=by
 refine ng (A:=A) (f:=132) rfl ?_
 have h1:decide ((0:Int)<=c.toNat)=true:=by simp
 have h2:decide ((c.toNat:Int)<256)=true:=by have:=c.toNat_lt;simp;omega
 simp only[gZ,h1,h2,apb,cond_true]
theorem YQ(s:bq)(c:UInt8)(H:ah)(hs:s.length<=1000000):aD A 138 [.str s,.str [c]] H=some (.int .i64 (iW c.toNat 0 s),none):=by
 refine aB (fn:=Gu) rfl rfl rfl ?_
 unfold Gu
 have hib:=ai3 s c H
 cases h:(([c]:bq)==s) with
 | true =>
  have e:s=[c]:=(ao3.1 h).symm
  subst e
  have:iW (c.toNat:Int) 0 [c]=0:=by simp[iW]
  rw[this]
  simp(disch:=omega)only[aP,aa,simprocAttr,an5,an6,h]
 | false =>
  simp(disch:=omega)only[aP,aa,simprocAttr,an5,an6,h,aoB,hib]
theorem ai8(s:bq)(c:UInt8)(H:ah)(hs:s.length<=1000000):aD A 119 [.str s,.str [c]] H=some (.int .i64 (iW c.toNat 0 s),none):=by
 have h:=YQ s c H hs
 refine aB (fn:=Gl) rfl rfl rfl ?_
 unfold Gl
 simp(disch:=omega)only[aP,aa,simprocAttr,h]
theorem Fb(s:bq)(c:UInt8)(H:ah)(hs:s.length<=1000000):aD A 87 [.str s,.str [c]] H=some (.bool (decide (0<=iW c.toNat 0 s)),none):=by
 have h:=ai8 s c H hs
 refine aB (fn:=Rh) rfl rfl rfl ?_
 unfold Rh
 simp(disch:=omega)only[aP,aa,simprocAttr,h]
theorem Bc:∀ (s:bq) (k:Nat),((bg s).2.2=true->iW 46 k s=k+(bg s).1.length/\s=(bg s).1++46 :: (bg s).2.1)/\((bg s).2.2=false->iW 46 k s=-1)
 | [],k=>⟨fun h=>by simp[bg] at h,fun _=>rfl⟩
 | b :: r,k=>by
  by_cases hb:b.toNat=46
  ·have e:b=46:=UInt8.toNat_inj.1 hb
   subst e
   refine⟨fun _=>?_,fun h=>by simp[bg] at h⟩
   simp[bg,iW]
  ·have hi:iW 46 k (b :: r)=iW 46 (k+1) r:=by
    have:decide ((b.toNat:Int)=46)=false:=by simp;omega
    rw[iW,this,an8]
   have hf:bg (b :: r)=(b :: (bg r).1,(bg r).2.1,(bg r).2.2):=by rw[bg,if_neg hb]
   obtain⟨h1,h2⟩:=Bc r (k+1)
   rw[hf,hi]
   refine⟨fun h=>?_,h2⟩
   obtain⟨a1,a2⟩:=h1 h
   refine⟨by simp only[a1,an5];omega,?_⟩
   simp only[apu]
   rw[<- a2]
theorem ZB(s:bq)(H:ah)(hs:s.length<=1000000):aD A 133 [.str s,.str [46]] H=some (.tuple [.str (bg s).1,.str (bg s).2.1,.bool (bg s).2.2],none):=by
 have h:=YQ s 46 H hs
 rw[show (((46:UInt8).toNat:Nat):Int)=46 from rfl] at h
 obtain⟨h1,h2⟩:=Bc s 0
 refine aB (fn:=Gt) rfl rfl rfl ?_
 unfold Gt
 cases hf:(bg s).2.2 with
 | true =>
  obtain⟨a1,a2⟩:=h1 hf
  rw[a1] at h
  rw[show ((0:Nat):Int)+(bg s).1.length=(bg s).1.length by omega] at h
  have hl:=nv s
  obtain⟨p,q,hp,hq,Te⟩:∃ p q,p=(bg s).1/\q=(bg s).2.1/\s=p++46 :: q:=⟨_,_,rfl,rfl,a2⟩
  rw[<- hp,<- hq]
  rw[<- hp] at h
  have e1:s.take p.length=p:=by rw[Te];exact List.take_left' rfl
  have e2:s.drop (p.length+1)=q:=by rw[Te,List.drop_append];simp
  have e3:p.length+1<=s.length:=by rw[Te,List.length_append,an5];omega
  have en:asNat (.int .i64 ((p.length:Int)+1))=some (p.length+1):=by rw[fX (by omega)];rfl
  simp(disch:=omega)only[aP,aa,simprocAttr,h,an5,an6,apm,apc,e1,e2,en]
 | false =>
  rw[h2 hf] at h
  have e:=wy hf
  have e1:(bg s).1=s:=by rw[e]
  have e2:(bg s).2.1=[]:=by rw[e]
  rw[e1,e2]
  simp(disch:=omega)only[aP,aa,simprocAttr,h]
theorem adX(s:bq)(H:ah)(hs:s.length<=1000000):aD A 117 [.str s,.str [46]] H=some (.tuple [.str (bg s).1,.str (bg s).2.1,.bool (bg s).2.2],none):=by
 have h:=ZB s H hs
 refine aB (fn:=Gk) rfl rfl rfl ?_
 unfold Gk
 simp(disch:=omega)only[aP,aa,simprocAttr,h]
theorem XX(s:bq)(c:UInt8)(H:ah)(hs:s.length<=1000000):aD A 120 [.str s,.str [c]] H=some (.str (if [c].isPrefixOf s=true then s.drop 1 else s),none):=by
 have h:=uq s [c] H
 refine aB (fn:=Gm) rfl rfl rfl ?_
 unfold Gm
 cases hp:[c].isPrefixOf s with
 | true =>
  have hl:1<=s.length:=by
   cases s with
   | nil=>simp[List.isPrefixOf] at hp
   | cons a r=>simp
  rw[if_pos rfl]
  simp(disch:=omega)only[aP,aa,simprocAttr,h,hp,an5,an6,apm]
 | false =>
  rw[if_neg (by decide)]
  simp(disch:=omega)only[aP,aa,simprocAttr,h,hp]
theorem ac0(s:bq)(c:UInt8)(H:ah)(hs:s.length<=1000000):aD A 89 [.str s,.str [c]] H=some (.str (if [c].isPrefixOf s=true then s.drop 1 else s),none):=by
 have h:=XX s c H hs
 refine aB (fn:=Rj) rfl rfl rfl ?_
 unfold Rj
 simp(disch:=omega)only[aP,aa,simprocAttr,h]
theorem T3(b:Bool)(H:ah):aD A 121 [.bool b] H=some (.str (bif b then [116,114,117,101] else [102,97,108,115,101]),none):=by
 refine aB (fn:=Gn) rfl rfl rfl ?_
 unfold Gn
 cases b<;>simp(disch:=omega)only[aP,aa,simprocAttr,cond_true,an8]
theorem aab(b:Bool)(H:ah):aD A 90 [.bool b] H=some (.str (bif b then [116,114,117,101] else [102,97,108,115,101]),none):=by
 have h:=T3 b H
 refine aB (fn:=Rk) rfl rfl rfl ?_
 unfold Rk
 simp(disch:=omega)only[aP,aa,simprocAttr,h]
theorem Rq(n:Int)(H:ah)(hn:zO n):aD A 53 [.int .i64 n] H=some (.str (ql n),none):=by
 refine ng (A:=A) (f:=53) rfl ?_
 obtain⟨h1,h2⟩:=hn
 have e1:decide (-9223372036854775808<=n)=true:=by simp;omega
 have e2:decide (n<=9223372036854775807)=true:=by simp;omega
 simp only[zc,e1,e2,apb,cond_true]
theorem ui:∀ (f n:Nat) (acc:bq),n<f->∃ d r,fU f n acc=d :: r/\d≠45
 | 0,n,acc,h=>by omega
 | f+1,n,acc,h=>by
  rw[fU]
  cases hb:Nat.blt n 10 with
  | true =>
   have hn:n<10:=by simpa [aoO] using hb
   refine⟨_,_,rfl,fun e=>?_⟩
   have:=apS UInt8.toNat e
   rw[UInt8.toNat_ofNat'] at this
   simp at this
   omega
  | false =>
   have hn:¬ n<10:=fun h=>by
    have:Nat.blt n 10=true:=by simpa [aoO] using h
    rw[hb] at this;cases this
   exact ui f (n / 10) _ (by omega)
theorem CN{n:Int}(h:0<=n):ql n=mF n.toNat:=by
 obtain⟨k,rfl⟩:∃ k:Nat,n=k:=⟨n.toNat,by omega⟩
 rfl
theorem itoa_neg{n:Int}(h:n<0):ql n=45 :: mF (-n).toNat:=by
 cases n with
 | ofNat k=>exact absurd h (by simp)
 | negSucc k =>
  have:(-(Int.negSucc k)).toNat=k+1:=by simp[Int.neg_negSucc]
  rw[this];rfl
theorem Nl(n:Int):(if ([45]:bq).isPrefixOf (ql n)=true then (ql n).drop 1 else ql n)=mF (if n<0 then (-n).toNat else n.toNat):=by
 by_cases h:n<0
 ·rw[itoa_neg h,if_pos h,if_pos (by simp[List.isPrefixOf])];rfl
 ·rw[CN (by omega),if_neg h]
  obtain⟨d,r,e,hd⟩:=ui (n.toNat+1) n.toNat [] (by omega)
  have e' : mF n.toNat=d :: r:=e
  rw[e',if_neg]
  simp only[List.isPrefixOf,Bool.and_true]
  simpa using fun h=>hd h.symm
structure PW (mm:Nat) (K:ah):Prop where
 lt:mm<K.length
 nob:∀ j cs,mm<=j->K[j]?≠some (.cS cs)
def lB(l:List bq)(b:Bool):bZ:=.box 96 [.slice (strs l) true,.bool b]
def cm(mm:Nat)(l:List bq)(b:Bool)(K:ah):ah:=K.set mm (lB l b)
theorem aA{mm:Nat}{l:List bq}{b:Bool}{K:ah} : (cm mm l b K).length=K.length:=by unfold cm;rw[List.length_set]
theorem ff{mm:Nat}{l:List bq}{b:Bool}{K:ah}(h:PW mm K):(cm mm l b K)[mm]?=some (lB l b):=by unfold cm;exact List.getElem?_set_self h.lt
theorem Dr{mm j:Nat}{l:List bq}{b:Bool}{K:ah}(h:mm≠j):(cm mm l b K)[j]?=K[j]?:=by unfold cm;exact List.getElem?_set_ne h
theorem rz{mm:Nat}{l l' : List bq}{b b' : Bool}{K:ah} : (cm mm l b K).set mm (.box 96 [.slice (strs l') true,.bool b'])=cm mm l' b' K:=by unfold cm lB;rw[List.set_set]
theorem fF{mm:Nat}{l:List bq}{b:Bool}{K:ah} : (cm mm l b K).take K.length=cm mm l b K:=aoJ (apP aA)
theorem PW.open{mm:Nat}{K:ah}(h:PW mm K)(l:List bq)(b:Bool):pg K.length mm (cm mm l b K)=true:=by
 unfold pg
 cases hb:Nat.beq mm K.length with
 | true=>rfl
 | false =>
  rw[an8,aof]
  intro x hx
  obtain⟨j,hj⟩:=aoM hx
  rw[fF,aoU] at hj
  unfold cm at hj
  rw[api] at hj
  split at hj
  ·split at hj
   ·cases hj;rfl
   ·cases hj
  ·cases x with
   | cS cs=>exact absurd hj (h.nob _ cs (by omega))
   | _=>rfl
theorem PW.push{mm:Nat}{K:ah}(h:PW mm K){o:bZ}(ho:∀ cs,o≠.cS cs):PW mm (K++[o]):=⟨by have:=h.lt;rw[List.length_append];omega,fun j cs hj=>by
 rw[apg]
 split
 ·exact h.nob j cs hj
 ·intro e
  cases sn:j-K.length with
  | zero=>rw[sn] at e;exact ho cs (by simpa using e)
  | succ n=>rw[sn] at e;simp at e⟩
theorem lS{mm:Nat}{l:List bq}{b:Bool}{K:ah}(h:PW mm K){L:ah} : cm mm l b K++L=cm mm l b (K++L):=by unfold cm;rw[List.set_append_left _ _ h.lt]
theorem kE{mm:Nat}{l:List bq}{b:Bool}{K:ah}(h:PW mm K){L:ah} : (cm mm l b (K++L)).take K.length=cm mm l b K:=by
 rw[<- lS h,List.take_left' aA]
theorem PW.Br{mm:Nat}{K:ah}(h:PW mm K){L:ah}(l:List bq)(b:Bool):pg K.length mm (cm mm l b (K++L))=true:=by
 have:=h.open l b
 unfold pg at this ⊢
 rw[kE h]
 rwa [fF] at this
def rC(mm:Nat)(K:ah)(f:FuncId)(args:List AV)(ok:Bool)(SS:List bq)(n:Nat):Prop :=
 ∀ l b,l.length+n<=1000000->∃ l',aD A f args (cm mm l b K)=some (.undef,some ⟨cm mm l' (b || !ok) K,mm⟩)/\((b || !ok)=false->l'=l++SS)/\l'.length<=l.length+n
theorem fi{mm:Nat}{K:ah}(h:PW mm K)(xs:List bq)(hx:xs.length<=1000):rC mm K 41 [.ref mm 0,.slice (strs xs) false] true xs xs.length:=by
 intro l b hl
 refine⟨l++xs,?_,fun _=>rfl,by simp⟩
 have e:(b || !true)=b:=by cases b<;>rfl
 rw[e]
 refine aB (fn:=CI) rfl rfl rfl ?_
 unfold CI
 have h0:=ff (l:=l) (b:=b) h
 unfold lB at h0
 have a1:aC false 1 16 (.slice (strs l) true) (.slice (strs xs) false)=some (.slice (strs (l++xs)) true):=cb (by omega)
 have bf:=h.lt
 have ho:=h.open (l++xs) b
 have h1:∀ x:bZ,((cm mm l b K).set mm x)[mm]?=some x:=fun x=>List.getElem?_set_self (by rw[aA];exact bf)
 simp(disch:=omega)only[aP,aa,simprocAttr,h0,h1,a1,aA,rz,List.set_set,fF,ho,aq,ak,an3,an4,ab]
theorem xj{mm:Nat}{K:ah}(h:PW mm K)(ok:Bool):rC mm K 52 [.ref mm 0,.bool ok] ok [] 0:=by
 intro l b hl
 refine⟨l,?_,fun _=>by simp,by simp⟩
 refine aB (fn:=Jx) rfl rfl rfl ?_
 unfold Jx
 have h0:=ff (l:=l) (b:=b) h
 unfold lB at h0
 have bf:=h.lt
 have ho:=fun b=>h.open l b
 have h1:∀ x:bZ,((cm mm l b K).set mm x)[mm]?=some x:=fun x=>List.getElem?_set_self (by rw[aA];exact bf)
 cases b<;>simp(disch:=omega)only[aP,aa,simprocAttr,h0,h1,aA,rz,fF,ho,aon,aoH,aq,ak,an3,an4,ab]
theorem RV{mm:Nat}{K:ah}(h:PW mm K)(xs:List bq)(hx:xs.length<=1000)(h0:K[mm]?=some (.box 96 [.aj,.bool false])):aD A 41 [.ref mm 0,.slice (strs xs) false] K=some (.undef,some ⟨cm mm xs false K,mm⟩):=by
 refine aB (fn:=CI) rfl rfl rfl ?_
 unfold CI
 have a1:aC false 1 16 (.slice [] true) (.slice (strs xs) false)=some (.slice (strs xs) true):=cb (l:=[]) (by simp;omega)
 have bf:=h.lt
 have ho:=h.open xs false
 have h1:∀ x:bZ,(K.set mm x)[mm]?=some x:=fun x=>List.getElem?_set_self bf
 have h2:∀ x:bZ,(K.set mm x).length=K.length:=fun x=>List.length_set
 have h3:K.set mm (.box 96 [.slice (strs xs) true,.bool false])=cm mm xs false K:=rfl
 simp(disch:=omega)only[aP,aa,simprocAttr,h0,h1,a1,h2,h3,List.set_set,fF,aA,ho,aq,ak,an3,an4,ab]
theorem iY{mm:Nat}{K:ah}(h:PW mm K)(s:bq)(hs:s.length<=1000):rC mm K 42 [.ref mm 0,.str s] (isWord s) [s] 1:=by
 intro l b hl
 have hw:=fun K=>X5 s K (by omega)
 obtain⟨l1,e1,t1,n1⟩:=xj h (isWord s) l b (by omega)
 obtain⟨l2,e2,t2,n2⟩:=fi h [s] (by simp) l1 (b || !isWord s) (by simp;omega)
 have eo:((b || !isWord s) || !true)=(b || !isWord s):=by simp
 rw[eo] at e2 t2
 have es:strs [s]=[[.str s]]:=rfl
 rw[es] at e2
 refine⟨l2,?_,fun hk=>by rw[t2 hk,t1 hk];simp,by simp at n2;omega⟩
 refine aB (fn:=QW) rfl rfl rfl ?_
 unfold QW
 have bf:=h.lt
 have ho:=h.open l2 (b || !isWord s)
 generalize isWord s=w at *
 simp(disch:=omega)only[aP,aa,simprocAttr,hw,e1,e2,aA,fF,ho,ar,aoc,aob,an8]
theorem Hu{mm:Nat}{l:List bq}{b:Bool}{K:ah}(h:PW mm K){o:bZ} : (cm mm l b (K++[o]))[K.length]?=some o:=by
 rw[Dr (by have:=h.lt;omega)];simp
theorem pw{mm:Nat}{K:ah}(h:PW mm K)(s:bq)(hs:s.length<=1000):rC mm K 84 [.ref mm 0,.str s] (cD s) (cA s) 3:=by
 intro l b hl
 have bf:=h.lt
 have hc:=fun K=>adX s K (by omega)
 have yF:=nv s
 obtain⟨l1,e1,t1,n1⟩:=iY h (bg s).1 (by omega) l b (by first|exact hl|omega|(simp only[an5,an6];omega))
 unfold cD cA
 cases hf:(bg s).2.2 with
 | false =>
  rw[hf] at hc
  have eo:(b || !(isWord (bg s).1&&(!false || isWord (bg s).2.1)))=(b || !isWord (bg s).1):=by cases b<;>cases isWord (bg s).1<;>rfl
  rw[eo,if_neg (by decide)]
  refine⟨l1,?_,t1,by omega⟩
  refine aB (fn:=JA) rfl rfl rfl ?_
  unfold JA
  have ho:=h.open l1 (b || !isWord (bg s).1)
  generalize (b || !isWord (bg s).1)=b1 at *
  simp(disch:=omega)only[aP,aa,simprocAttr,hc,e1,fF,ho,ar,aoc,aob,an8,cond_true,aA]
 | true =>
  rw[hf] at hc
  obtain⟨l2,e2,t2,n2⟩:=fi h [[46]] (by simp) l1 (b || !isWord (bg s).1) (by simp only[an5,an6];omega)
  have es:strs [[46]]=[[.str [46]]]:=rfl
  have eo:((b || !isWord (bg s).1) || !true)=(b || !isWord (bg s).1):=by simp
  rw[eo,es] at e2
  rw[eo] at t2
  simp only[an5,an6] at n2
  obtain⟨l3,e3,t3,n3⟩:=iY h (bg s).2.1 (by omega) l2 (b || !isWord (bg s).1) (by omega)
  have eo:(b || !(isWord (bg s).1&&(!true || isWord (bg s).2.1)))=((b || !isWord (bg s).1) || !isWord (bg s).2.1):=by cases b<;>cases isWord (bg s).1<;>cases isWord (bg s).2.1<;>rfl
  rw[eo,if_pos rfl]
  refine⟨l3,?_,fun hk=>?_,by omega⟩
  ·refine aB (fn:=JA) rfl rfl rfl ?_
   unfold JA
   have ho:=h.open l3 ((b || !isWord (bg s).1) || !isWord (bg s).2.1)
   generalize ((b || !isWord (bg s).1) || !isWord (bg s).2.1)=b2 at *
   generalize (b || !isWord (bg s).1)=b1 at *
   simp(disch:=omega)only[aP,aa,simprocAttr,hc,e1,e2,e3,fF,ho,ar,aoc,aob,an8,cond_true,aA]
  ·have vK:(b || !isWord (bg s).1)=false:=by
    cases h1:(b || !isWord (bg s).1) with
    | false=>rfl
    | true=>rw[h1] at hk;cases hk
   rw[t3 hk,t2 vK,t1 vK];simp
def K7:List Wd->Bool
 | [k]=>bc k
 | _=>false
def Nj:List Wd->List bq
 | [k]=>[[40]]++dh k++[[41]]
 | _=>[]
theorem Kz{mm:Nat}{K:ah}(h:PW mm K){ks:List Wd}{n:Nat}(hn:n<=1000)(hk:∀ k,ks=[k]->rC mm K 51 [.ref mm 0,.agg (gz k)] (bc k) (dh k) n):rC mm K 83 [.ref mm 0,.slice (az ks) false] (K7 ks) (Nj ks) (n+2):=by
 intro l b hl
 have bf:=h.lt
 have hlen:∀ c:Bool,((ks.length:Int)==1)=c->((((az ks).length:Nat):Int)==1)=c:=fun c hc=>by rw[dj];exact hc
 have skip:∀ (c:Bool),((ks.length:Int)==1)=c->(b || !c)=true->(b || !K7 ks)=true->∃ l',aD A 83 [.ref mm 0,.slice (az ks) false] (cm mm l b K)=some (.undef,some ⟨cm mm l' (b || !K7 ks) K,mm⟩)/\((b || !K7 ks)=false->l'=l++Nj ks)/\l'.length<=l.length+(n+2):=by
  intro c hc h1 h2
  obtain⟨l1,e1,t1,n1⟩:=xj h c l b (by first|exact hl|omega|(simp only[an5,an6];omega))
  rw[h1] at e1
  rw[h2]
  refine⟨l1,?_,(fun hk=>by cases hk),by omega⟩
  refine aB (fn:=Jz) rfl rfl rfl ?_
  unfold Jz
  have h0:=ff (l:=l1) (b:=true) h
  unfold lB at h0
  have ho:=h.open l1 true
  simp(disch:=omega)only[aP,aa,simprocAttr,hc,dj,e1,h0,fF,ho,ar,aoc,aob,an8,cond_true,aA,aq,ak,an3,an4,ab]
 match ks,hk,hlen,skip with
 | [],hk,hlen,skip=>exact skip false rfl (by cases b<;>rfl) (by cases b<;>rfl)
 | x :: y :: r,hk,hlen,skip=>exact skip false (by simp;omega) (by cases b<;>rfl) (by cases b<;>rfl)
 | [k],hk,hlen,skip =>
  cases b with
  | true=>exact skip true rfl rfl rfl
  | false =>
   obtain⟨l1,e1,t1,n1⟩:=xj h true l false (by omega)
   obtain⟨l2,e2,t2,n2⟩:=fi h [[40]] (by simp) l1 false (by simp only[an5,an6];omega)
   simp only[an5,an6] at n2
   obtain⟨l3,e3,t3,n3⟩:=hk k rfl l2 false (by omega)
   obtain⟨l4,e4,t4,n4⟩:=fi h [[41]] (by simp) l3 (!bc k) (by simp only[an5,an6];omega)
   simp only[an5,an6] at n4
   have es:∀ s:bq,strs [s]=[[.str s]]:=fun _=>rfl
   simp only[aom,aow,aon,es] at e1 e2 e3 e4 t1 t2 t3 t4 ⊢
   unfold K7 Nj
   refine⟨l4,?_,fun hp=>by rw[t4 hp,t3 hp,t2 trivial,t1 trivial];simp,by omega⟩
   refine aB (fn:=Jz) rfl rfl rfl ?_
   unfold Jz
   have h0:=ff (l:=l1) (b:=false) h
   unfold lB at h0
   have ho:=h.open l4 (!bc k)
   rw[iB] at e3
   have fE:(az [k])[0]?=some [.str k.name,.slice (az k.kids) false]:=by rw[Zc (l:=[k]) (i:=0) rfl,iB]
   generalize (!bc k)=pb at *
   simp(disch:=omega)only[aP,aa,simprocAttr,dj,fE,an5,an6,e1,e2,e3,e4,h0,fF,ho,ar,aoc,aob,an8,cond_true,aA,aq,ak,an3,an4,ab]
theorem zi{n:bq}{ks:List Wd}(dn:n≠fL):bc (.mk n ks)=(decide (ks.length=0)&&(n==xe || n==qm || cD n)):=by
 cases ks with
 | nil=>rw[bc];simp[dn]
 | cons a r=>cases r<;>rw[bc]<;>simp[dn]
theorem M4{ks:List Wd} : bc (.mk fL ks)=K7 ks:=by
 match ks with
 | []=>rw[bc];simp[K7]
 | [k]=>rw[bc];simp[K7]
 | a :: b :: r=>rw[bc]<;>simp[K7]
theorem X6{k:Wd} : dh (.mk fL [k])=[fL]++Nj [k]:=by rw[dh];simp[Nj]
theorem DA:∀ (h:Nat) (w:Wd),h<=100->wi h w->∀ (mm:Nat) (K:ah),PW mm K->rC mm K 51 [.ref mm 0,.agg (gz w)] (bc w) (dh w) (3*h+3):=by
 have main:∀ (h:Nat) (w:Wd),h<=100->w.name.length<=20->∀ (mm:Nat) (K:ah),PW mm K->(w.kids.length<=1/\(0<w.kids.length->0<h))->(∀ k∈w.kids,∀ (mm:Nat) (K:ah),PW mm K->rC mm K 51 [.ref mm 0,.agg (gz k)] (bc k) (dh k) (3*h))->rC mm K 51 [.ref mm 0,.agg (gz w)] (bc w) (dh w) (3*h+3):=by
  intro h w hh qk mm K hP fV hk l b hl
  obtain⟨n,ks⟩:=w
  simp only[Wd.name,Wd.kids] at qk fV hk
  rw[gz]
  have dQ:PW mm (K++[.box 40 [.str n,.slice (az ks) false]]):=hP.push (fun cs e=>by cases e)
  have bX:=lS (l:=l) (b:=b) hP (L:=[.box 40 [.str n,.slice (az ks) false]])
  have da:=fun l b=>Hu (l:=l) (b:=b) hP (o:=.box 40 [.str n,.slice (az ks) false])
  have hT:=fun l b=>kE (l:=l) (b:=b) hP (L:=[.box 40 [.str n,.slice (az ks) false]])
  have hO:=fun l b=>hP.Br (L:=[.box 40 [.str n,.slice (az ks) false]]) l b
  have bf:=hP.lt
  have qp:decide (K.length<K.length)=false:=by simp
  have es:∀ s:bq,strs [s]=[[.str s]]:=fun _=>rfl
  generalize K++[.box 40 [.str n,.slice (az ks) false]]=K1 at dQ bX da hT hO
  have Nz:((ks.length:Int)==0)=decide (ks.length=0):=by
   cases ks with
   | nil=>rfl
   | cons a r=>simp;omega
  by_cases hn:n=fL
  ·subst hn
   obtain⟨l1,e1,t1,n1⟩:=fi dQ [fL] (by simp) l b (by first|exact hl|omega|(simp only[an5,an6];omega))
   simp only[an5,an6] at n1
   rw[show (b || !true)=b by cases b<;>rfl,es] at e1
   rw[show (b || !true)=b by cases b<;>rfl] at t1
   obtain⟨l2,e2,t2,n2⟩:=Kz dQ (ks:=ks) (n:=3*h) (by omega) (fun k qN=>hk k (by rw[qN];simp) mm K1 dQ) l1 b (by omega)
   rw[M4]
   refine⟨l2,?_,fun hp=>?_,by omega⟩
   ·refine aB (fn:=CJ) rfl rfl rfl ?_
    unfold CJ
    have n1e:(fL==([73,110,116]:bq))=false:=by decide
    have n2e:(fL==([66,111,111,108]:bq))=false:=by decide
    have n3e:(fL==([76,105,115,116]:bq))=true:=by decide
    have ho:=hO l2 (b || !K7 ks)
    generalize (b || !K7 ks)=b2 at *
    simp(disch:=omega)only[aP,aa,simprocAttr,bX,da,e1,e2,n1e,n2e,n3e,hT,ho,ar,aoc,aob,an8,cond_true,aA,aq,ak,an3,an4,ab]
   ·have hb:b=false:=by cases b<;>simp_all
    have hko:K7 ks=true:=by cases h:K7 ks<;>simp_all
    obtain⟨k,rfl⟩:∃ k,ks=[k]:=by
     match ks,hko with
     | [k],_=>exact⟨k,rfl⟩
     | [],h=>cases h
     | _ :: _ :: _,h=>cases h
    rw[t2 hp,t1 hb,X6,ao5]
  ·have aiw:(n==([76,105,115,116]:bq))=false:=by simpa using hn
   obtain⟨l1,e1,t1,n1⟩:=xj dQ (decide (ks.length=0)) l b (by first|exact hl|omega|(simp only[an5,an6];omega))
   by_cases hi:n=xe\/n=qm
   ·obtain⟨l2,e2,t2,n2⟩:=fi dQ [n] (by simp) l1 (b || !decide (ks.length=0)) (by simp only[an5,an6];omega)
    simp only[an5,an6] at n2
    have eo:∀ c:Bool,(c || !true)=c:=fun c=>by cases c<;>rfl
    rw[eo,es] at e2
    rw[eo] at t2
    have hpw:bc (.mk n ks)=decide (ks.length=0):=by
     rw[zi hn,show (n==xe || n==qm || cD n)=true by rcases hi with e|e<;>simp[e],Bool.and_true]
    have j6:dh (.mk n ks)=[n]:=by rw[zM hn,if_pos (by rcases hi with e|e<;>simp[e])]
    rw[hpw,j6]
    refine⟨l2,?_,fun hp=>by rw[t2 hp,t1 hp];simp,by omega⟩
    refine aB (fn:=CJ) rfl rfl rfl ?_
    unfold CJ
    have ho:=hO l2 (b || !decide (ks.length=0))
    generalize (b || !decide (ks.length=0))=b2 at *
    cases q1:(n==([73,110,116]:bq)) with
    | true=>simp(disch:=omega)only[aP,aa,simprocAttr,bX,da,dj,Nz,e1,e2,q1,hT,ho,ar,aoc,aob,an8,cond_true,aA,aq,ak,an3,an4,ab]
    | false =>
     have q2:(n==([66,111,111,108]:bq))=true:=by
      rcases hi with e|e
      ·rw[e] at q1;exact absurd q1 (by decide)
      ·rw[e];decide
     simp(disch:=omega)only[aP,aa,simprocAttr,bX,da,dj,Nz,e1,e2,q1,q2,hT,ho,ar,aoc,aob,an8,cond_true,aA,aq,ak,an3,an4,ab]
   ·have q1:(n==([73,110,116]:bq))=false:=by simpa using fun e=>hi (.inl e)
    have q2:(n==([66,111,111,108]:bq))=false:=by simpa using fun e=>hi (.inr e)
    obtain⟨l2,e2,t2,n2⟩:=pw dQ n (by omega) l1 (b || !decide (ks.length=0)) (by omega)
    have hpw:bc (.mk n ks)=(decide (ks.length=0)&&cD n):=by rw[zi hn,show (n==xe)=false from q1,show (n==qm)=false from q2];rfl
    have j6:dh (.mk n ks)=cA n:=by rw[zM hn,if_neg (by rw[show (n==xe)=false from q1,show (n==qm)=false from q2];decide)]
    have eo:(b || !(decide (ks.length=0)&&cD n))=((b || !decide (ks.length=0)) || !cD n):=by cases b<;>cases decide (ks.length=0)<;>cases cD n<;>rfl
    rw[hpw,j6,eo]
    refine⟨l2,?_,fun hp=>?_,by omega⟩
    ·refine aB (fn:=CJ) rfl rfl rfl ?_
     unfold CJ
     have ho:=hO l2 ((b || !decide (ks.length=0)) || !cD n)
     generalize ((b || !decide (ks.length=0)) || !cD n)=b3 at *
     generalize (b || !decide (ks.length=0))=b2 at *
     simp(disch:=omega)only[aP,aa,simprocAttr,bX,da,dj,Nz,e1,e2,q1,q2,aiw,hT,ho,ar,aoc,aob,an8,cond_true,aA,aq,ak,an3,an4,ab]
    ·have hp1:(b || !decide (ks.length=0))=false:=by
      cases h1:(b || !decide (ks.length=0)) with
      | false=>rfl
      | true=>rw[h1] at hp;cases hp
     rw[t2 hp,t1 hp1];simp
 intro h
 induction h with
 | zero =>
  intro w hh hb mm K hP
  obtain⟨n,ks⟩:=w
  obtain⟨h1,h2⟩:=hb
  simp only[Wd.kids] at h2
  subst h2
  exact main 0 _ hh h1 mm K hP ⟨by simp[Wd.kids],by simp[Wd.kids]⟩ (by simp[Wd.kids])
 | succ h ih =>
  intro w hh hb mm K hP
  obtain⟨n,ks⟩:=w
  obtain⟨h1,h2,h3⟩:=hb
  exact main (h+1) _ hh h1 mm K hP ⟨h2,by omega⟩ (fun k hk=>by
   have:=ih k (by omega) (h3 k hk)
   exact this)
theorem lH{mm:Nat}{K:ah}(hP:PW mm K)(t:Tm):∃ K1,PW mm K1/\(∀ l b,cm mm l b K++[.box 43 [.int .i64 t.kind,.int .i64 t.n,.str t.name,.str t.field,.str t.wn,.slice (az t.wk) false,.slice (au t.kids) false,.slice (strs t.names) false]]=cm mm l b K1)/\(∀ l b,(cm mm l b K1)[K.length]?=some (.box 43 [.int .i64 t.kind,.int .i64 t.n,.str t.name,.str t.field,.str t.wn,.slice (az t.wk) false,.slice (au t.kids) false,.slice (strs t.names) false]))/\(∀ l b,(cm mm l b K1).take K.length=cm mm l b K)/\∀ l b,pg K.length mm (cm mm l b K1)=true :=
 ⟨K++[.box 43 [.int .i64 t.kind,.int .i64 t.n,.str t.name,.str t.field,.str t.wn,.slice (az t.wk) false,.slice (au t.kids) false,.slice (strs t.names) false]],hP.push (fun cs e=>by cases e),fun _ _=>lS hP,fun _ _=>Hu hP,fun _ _=>kE hP,fun l b=>hP.Br l b⟩
theorem h3b{H:ah}{a b c:bZ} : (H++[a,b,c])[H.length+1]?=some b:=by rw[aoz (by omega)];simp
theorem s3c{H:ah}{a b c d:bZ} : (H++[a,b,c]).set (H.length+2) d=H++[a,b,d]:=by rw[ap1 _ _ (by omega)];simp
def dW(k:Int):bq:=if k=0 then [110] else if k=1 then [110] else if k=2 then [97] else if k=3 then [97,107] else if k=4 then [110,107] else if k=5 then [107] else if k=6 then [107,115] else if k=7 then [97,107,115] else if k=8 then [97,102,107] else if k=9 then [97,102,107] else if k=10 then [97,107,115] else if k=11 then [116,107] else if k=12 then [107,115] else []
theorem fe0:dH [.i] [.int .i64 0] []=some none:=rfl
theorem fe1:dH [.i] [.int .i64 1] [[.int .i64 0,.str [110]]]=some none:=rfl
theorem fe2:dH [.i] [.int .i64 2] [[.int .i64 0,.str [110]],[.int .i64 1,.str [110]]]=some none:=rfl
theorem fe3:dH [.i] [.int .i64 3] [[.int .i64 0,.str [110]],[.int .i64 1,.str [110]],[.int .i64 2,.str [97]]]=some none:=rfl
theorem fe4:dH [.i] [.int .i64 4] [[.int .i64 0,.str [110]],[.int .i64 1,.str [110]],[.int .i64 2,.str [97]],[.int .i64 3,.str [97,107]]]=some none:=rfl
theorem fe5:dH [.i] [.int .i64 5] [[.int .i64 0,.str [110]],[.int .i64 1,.str [110]],[.int .i64 2,.str [97]],[.int .i64 3,.str [97,107]],[.int .i64 4,.str [110,107]]]=some none:=rfl
theorem fe6:dH [.i] [.int .i64 6] [[.int .i64 0,.str [110]],[.int .i64 1,.str [110]],[.int .i64 2,.str [97]],[.int .i64 3,.str [97,107]],[.int .i64 4,.str [110,107]],[.int .i64 5,.str [107]]]=some none:=rfl
theorem fe7:dH [.i] [.int .i64 7] [[.int .i64 0,.str [110]],[.int .i64 1,.str [110]],[.int .i64 2,.str [97]],[.int .i64 3,.str [97,107]],[.int .i64 4,.str [110,107]],[.int .i64 5,.str [107]],[.int .i64 6,.str [107,115]]]=some none:=rfl
theorem fe8:dH [.i] [.int .i64 8] [[.int .i64 0,.str [110]],[.int .i64 1,.str [110]],[.int .i64 2,.str [97]],[.int .i64 3,.str [97,107]],[.int .i64 4,.str [110,107]],[.int .i64 5,.str [107]],[.int .i64 6,.str [107,115]],[.int .i64 7,.str [97,107,115]]]=some none:=rfl
theorem fe9:dH [.i] [.int .i64 9] [[.int .i64 0,.str [110]],[.int .i64 1,.str [110]],[.int .i64 2,.str [97]],[.int .i64 3,.str [97,107]],[.int .i64 4,.str [110,107]],[.int .i64 5,.str [107]],[.int .i64 6,.str [107,115]],[.int .i64 7,.str [97,107,115]],[.int .i64 8,.str [97,102,107]]]=some none:=rfl
theorem ahL:dH [.i] [.int .i64 10] [[.int .i64 0,.str [110]],[.int .i64 1,.str [110]],[.int .i64 2,.str [97]],[.int .i64 3,.str [97,107]],[.int .i64 4,.str [110,107]],[.int .i64 5,.str [107]],[.int .i64 6,.str [107,115]],[.int .i64 7,.str [97,107,115]],[.int .i64 8,.str [97,102,107]],[.int .i64 9,.str [97,102,107]]]=some none:=rfl
theorem Z6:dH [.i] [.int .i64 11] [[.int .i64 0,.str [110]],[.int .i64 1,.str [110]],[.int .i64 2,.str [97]],[.int .i64 3,.str [97,107]],[.int .i64 4,.str [110,107]],[.int .i64 5,.str [107]],[.int .i64 6,.str [107,115]],[.int .i64 7,.str [97,107,115]],[.int .i64 8,.str [97,102,107]],[.int .i64 9,.str [97,102,107]],[.int .i64 10,.str [97,107,115]]]=some none:=rfl
theorem ahM:dH [.i] [.int .i64 12] [[.int .i64 0,.str [110]],[.int .i64 1,.str [110]],[.int .i64 2,.str [97]],[.int .i64 3,.str [97,107]],[.int .i64 4,.str [110,107]],[.int .i64 5,.str [107]],[.int .i64 6,.str [107,115]],[.int .i64 7,.str [97,107,115]],[.int .i64 8,.str [97,102,107]],[.int .i64 9,.str [97,102,107]],[.int .i64 10,.str [97,107,115]],[.int .i64 11,.str [116,107]]]=some none:=rfl
theorem fgx{k:Int}(h:k<0\/12<k):dH [.i] [.int .i64 k] [[.int .i64 0,.str [110]],[.int .i64 1,.str [110]],[.int .i64 2,.str [97]],[.int .i64 3,.str [97,107]],[.int .i64 4,.str [110,107]],[.int .i64 5,.str [107]],[.int .i64 6,.str [107,115]],[.int .i64 7,.str [97,107,115]],[.int .i64 8,.str [97,102,107]],[.int .i64 9,.str [97,102,107]],[.int .i64 10,.str [97,107,115]],[.int .i64 11,.str [116,107]],[.int .i64 12,.str [107,115]]]=some none:=by
 have e0:(k==(0:Int))=false:=by simp;omega
 have e1:(k==(1:Int))=false:=by simp;omega
 have e2:(k==(2:Int))=false:=by simp;omega
 have e3:(k==(3:Int))=false:=by simp;omega
 have e4:(k==(4:Int))=false:=by simp;omega
 have e5:(k==(5:Int))=false:=by simp;omega
 have e6:(k==(6:Int))=false:=by simp;omega
 have e7:(k==(7:Int))=false:=by simp;omega
 have e8:(k==(8:Int))=false:=by simp;omega
 have e9:(k==(9:Int))=false:=by simp;omega
 have ZD:(k==(10:Int))=false:=by simp;omega
 have ZE:(k==(11:Int))=false:=by simp;omega
 have e12:(k==(12:Int))=false:=by simp;omega
 simp only[dH,cq,apC,cond_true,aok,aoe,Bool.and_true,an8,e0,e1,e2,e3,e4,e5,e6,e7,e8,e9,ZD,ZE,e12,aqf]
theorem Zi{k:IntKind}{n:Int} : (AV.int k n).isAgg=false:=rfl
theorem Zj{s:bq} : (AV.str s).isAgg=false:=rfl
theorem Z7:(false==false)=true:=rfl
theorem vW{es:List (List AV)}{r:List AV} : tI es none r=es++[r]:=rfl
theorem afE(u:bq)(c:UInt8)(loc:Nat)(H:ah)(hu:u.length<=1000)(hl:H[loc]?=some (.box 9 [.str u])):aD A 86 [.str [c],.ref loc 0] H=some (.bool (!decide (0<=iW c.toNat 0 u)),none):=by
 have h:=Fb u c H (by omega)
 refine aB (fn:=Rg) rfl rfl rfl ?_
 unfold Rg
 simp(disch:=omega)only[aP,aa,simprocAttr,h,hl,aq,ak,an3,an4,ab]
def cj(u:bq)(c:UInt8):Bool:=!decide (0<=iW c.toNat 0 u)
def mY(u:bq)(t:Tm):Bool:=!(cj u 110&&(t.n != 0) || (cj u 97&&!(t.name==[]) || (cj u 102&&!(t.field==[]) || (cj u 116&&(!(t.wn==[]) || decide (0<t.wk.length)) || (cj u 107&&decide (0<t.kids.length) || cj u 115&&decide (0<t.names.length))))))
def bj(t:Tm):Bool:=mY (dW t.kind) t
theorem sH(u:bq)(c:UInt8)(b:Bool)(loc:Nat)(H:ah)(hu:u.length<=1000)(hl:H[loc]?=some (.box 9 [.str u]))(hb:cj u c=b):aD A 86 [.str [c],.ref loc 0] H=some (.bool b,none):=by
 rw[<- hb];exact afE u c loc H hu hl
def NJ(t:Tm)(H:ah)(u:bq)(s:AS):Prop:=∃ T K,s=⟨T,K,H.length,0⟩/\K.take H.length=H/\T 1=.ref H.length 0/\T 4=.func (.func 86) [] [.ref (H.length+2) 0]/\K[H.length]?=some (.box 43 [.int .i64 t.kind,.int .i64 t.n,.str t.name,.str t.field,.str t.wn,.slice (az t.wk) false,.slice (au t.kids) false,.slice (strs t.names) false])/\K[H.length+2]?=some (.box 9 [.str u])
theorem ac5{t:Tm}{H:ah}{Q:bP->AS->Prop} : W A (lO.body.pre 2) ⟨gu [.agg (cE t)],H,H.length,0⟩ (andThen (NJ t H (dW t.kind)) Q):=by
 rw[an]
 have nE:decide (H.length+1<H.length)=false:=by simp
 have jh:decide (H.length+2<H.length)=false:=by simp
 have run:∀ (k:Int) (u:bq),(dH [.i] [.int .i64 k] [[.int .i64 0,.str [110]],[.int .i64 1,.str [110]],[.int .i64 2,.str [97]],[.int .i64 3,.str [97,107]],[.int .i64 4,.str [110,107]],[.int .i64 5,.str [107]],[.int .i64 6,.str [107,115]],[.int .i64 7,.str [97,107,115]],[.int .i64 8,.str [97,102,107]],[.int .i64 9,.str [97,102,107]],[.int .i64 10,.str [97,107,115]],[.int .i64 11,.str [116,107]],[.int .i64 12,.str [107,115]]]).map (pf false false [.str []] 1 [[.int .i64 0,.str [110]],[.int .i64 1,.str [110]],[.int .i64 2,.str [97]],[.int .i64 3,.str [97,107]],[.int .i64 4,.str [110,107]],[.int .i64 5,.str [107]],[.int .i64 6,.str [107,115]],[.int .i64 7,.str [97,107,115]],[.int .i64 8,.str [97,102,107]],[.int .i64 9,.str [97,102,107]],[.int .i64 10,.str [97,107,115]],[.int .i64 11,.str [116,107]],[.int .i64 12,.str [107,115]]])=some (.str u)->W A (lO.body.pre 2) ⟨gu [.agg [.int .i64 k,.int .i64 t.n,.str t.name,.str t.field,.str t.wn,.slice (az t.wk) false,.slice (au t.kids) false,.slice (strs t.names) false]],H,H.length,0⟩ (andThen (fun s=>∃ T K,s=⟨T,K,H.length,0⟩/\K.take H.length=H/\T 1=.ref H.length 0/\T 4=.func (.func 86) [] [.ref (H.length+2) 0]/\K[H.length]?=some (.box 43 [.int .i64 k,.int .i64 t.n,.str t.name,.str t.field,.str t.wn,.slice (az t.wk) false,.slice (au t.kids) false,.slice (strs t.names) false])/\K[H.length+2]?=some (.box 9 [.str u])) Q):=by
  intro k u hu
  unfold lO
  simp only[aY.pre]
  have hlx:∀ a,Bk (H++[a,.map 1 false false [[.int .i64 0,.str [110]],[.int .i64 1,.str [110]],[.int .i64 2,.str [97]],[.int .i64 3,.str [97,107]],[.int .i64 4,.str [110,107]],[.int .i64 5,.str [107]],[.int .i64 6,.str [107,115]],[.int .i64 7,.str [97,107,115]],[.int .i64 8,.str [97,102,107]],[.int .i64 9,.str [97,102,107]],[.int .i64 10,.str [97,107,115]],[.int .i64 11,.str [116,107]],[.int .i64 12,.str [107,115]]]]) false 1 false false [.i] [.str []] (.mref (H.length+1)) (.int .i64 k)=some (.str u):=fun a=>by
   simp only[Bk,V0,AV.drop,AV.cells,aoe,HS]
   exact hu
  simp(disch:=omega)only[Ox,jy,gF,j0,iS,tG,cd,aE,dG,aF.eval,AS.cH,↓reduceIte,Nat.reduceEqDiff,Option.isSome,Option.isNone,cond_true,an8,Nat.reduceBEq,Nat.reduceAdd,Nat.reduceMul,aa,gP,eq_self,reduceCtorEq,rB,iG,gQ,fD,bound,kP,AS.cI,bQ,fm,dm,Nat.reduceLeDiff,im,putAt,Int.reduceEq,Int.reduceLT,Int.reduceLE,Int.reduceBEq,Int.reduceBNe,Int.reduceAdd,Int.reduceNeg,Int.reduceSub,Int.reduceMul,qW,qV,qU,qT,qS,qR,qY,qX,br,fX,Int.toNat_natCast,aps,qG,CA,HS,Sp,h3a,h3b,h3c,s3c,l1,l2,nE,jh,fe0,fe1,fe2,fe3,fe4,fe5,fe6,fe7,fe8,fe9,ahL,Z6,ahM,vW,Zi,Zj,Z7,apb,cond_true,apu,ao8,aok,aoe,aH,hlx,aq,ak,an3,an4,ab]
  exact⟨_,_,rfl,h3t,by simp(disch:=omega)only[Ox,jy,gF,j0,iS,tG,cd,aE,dG,aF.eval,AS.cH,↓reduceIte,Nat.reduceEqDiff,Option.isSome,Option.isNone,cond_true,an8,Nat.reduceBEq,Nat.reduceAdd,Nat.reduceMul,aa,gP,eq_self,reduceCtorEq,rB,iG,gQ,fD,bound,kP,AS.cI,bQ,fm,dm,Nat.reduceLeDiff,im,putAt,Int.reduceEq,Int.reduceLT,Int.reduceLE,Int.reduceBEq,Int.reduceBNe,Int.reduceAdd,Int.reduceNeg,Int.reduceSub,Int.reduceMul,qW,qV,qU,qT,qS,qR,qY,qX],by simp(disch:=omega)only[Ox,jy,gF,j0,iS,tG,cd,aE,dG,aF.eval,AS.cH,↓reduceIte,Nat.reduceEqDiff,Option.isSome,Option.isNone,cond_true,an8,Nat.reduceBEq,Nat.reduceAdd,Nat.reduceMul,aa,gP,eq_self,reduceCtorEq,rB,iG,gQ,fD,bound,kP,AS.cI,bQ,fm,dm,Nat.reduceLeDiff,im,putAt,Int.reduceEq,Int.reduceLT,Int.reduceLE,Int.reduceBEq,Int.reduceBNe,Int.reduceAdd,Int.reduceNeg,Int.reduceSub,Int.reduceMul,qW,qV,qU,qT,qS,qR,qY,qX],h3a,by rw[h3c]⟩
 unfold NJ
 refine run t.kind (dW t.kind) ?_
 rcases tv t.kind with e|e|e|e|e|e|e|e|e|e|e|e|e|e
 all_goals first|(rw[e];rfl)|skip
 rw[fgx e]
 have:dW t.kind=[]:=by
  unfold dW
  repeat rw[if_neg (by omega)]
 rw[this];rfl
theorem SZ{t:Tm}{H:ah}{s:AS}(hs:NJ t H [110] s):W A (lO.body.post 2) s (done H.length [.tmp 2] (.bool (mY [110] t),none)):=by
 obtain⟨T,K,rfl,hK,q1,q4,hb,hu⟩:=hs
 unfold lO
 simp only[aY.post]
 obtain⟨m1,m2,m3,m4,m5,m6⟩:cj [110] 110=false/\cj [110] 97=true/\cj [110] 102=true/\cj [110] 116=true/\cj [110] 107=true/\cj [110] 115=true:=⟨rfl,rfl,rfl,rfl,rfl,rfl⟩
 have nc:=fun c b=>sH [110] c b (H.length+2) K (by decide) hu
 have n1:=nc _ _ m1
 have n2:=nc _ _ m2
 have n3:=nc _ _ m3
 have n4:=nc _ _ m4
 have n5:=nc _ _ m5
 have n6:=nc _ _ m6
 clear nc
 cases xZ:(t.name==[])
 rotate_left
 cases om:(t.field==[])
 rotate_left
 cases Fe:(t.wn==[])
 rotate_left
 by_cases Fc:0<t.wk.length
 rotate_left
 by_cases Oj:0<t.kids.length
 rotate_left
 by_cases pM:0<t.names.length
 rotate_left
 all_goals simp(disch:=omega)only[aP,aa,simprocAttr,bne,dj,bB,aW,aq,ak,an3,an4,ab,mY,aoq,aou,aon,aoH,aow,aoL,aom,aoj,apC,aob, *]
theorem agD{t:Tm}{H:ah}{s:AS}(hs:NJ t H [97] s):W A (lO.body.post 2) s (done H.length [.tmp 2] (.bool (mY [97] t),none)):=by
 obtain⟨T,K,rfl,hK,q1,q4,hb,hu⟩:=hs
 unfold lO
 simp only[aY.post]
 obtain⟨m1,m2,m3,m4,m5,m6⟩:cj [97] 110=true/\cj [97] 97=false/\cj [97] 102=true/\cj [97] 116=true/\cj [97] 107=true/\cj [97] 115=true:=⟨rfl,rfl,rfl,rfl,rfl,rfl⟩
 have nc:=fun c b=>sH [97] c b (H.length+2) K (by decide) hu
 have n1:=nc _ _ m1
 have n2:=nc _ _ m2
 have n3:=nc _ _ m3
 have n4:=nc _ _ m4
 have n5:=nc _ _ m5
 have n6:=nc _ _ m6
 clear nc
 cases ZC:(t.n==0)
 rotate_left
 cases om:(t.field==[])
 rotate_left
 cases Fe:(t.wn==[])
 rotate_left
 by_cases Fc:0<t.wk.length
 rotate_left
 by_cases Oj:0<t.kids.length
 rotate_left
 by_cases pM:0<t.names.length
 rotate_left
 all_goals simp(disch:=omega)only[aP,aa,simprocAttr,bne,dj,bB,aW,aq,ak,an3,an4,ab,mY,aoq,aou,aon,aoH,aow,aoL,aom,aoj,apC,aob, *]
theorem No{t:Tm}{H:ah}{s:AS}(hs:NJ t H [97,107] s):W A (lO.body.post 2) s (done H.length [.tmp 2] (.bool (mY [97,107] t),none)):=by
 obtain⟨T,K,rfl,hK,q1,q4,hb,hu⟩:=hs
 unfold lO
 simp only[aY.post]
 obtain⟨m1,m2,m3,m4,m5,m6⟩:cj [97,107] 110=true/\cj [97,107] 97=false/\cj [97,107] 102=true/\cj [97,107] 116=true/\cj [97,107] 107=false/\cj [97,107] 115=true:=⟨rfl,rfl,rfl,rfl,rfl,rfl⟩
 have nc:=fun c b=>sH [97,107] c b (H.length+2) K (by decide) hu
 have n1:=nc _ _ m1
 have n2:=nc _ _ m2
 have n3:=nc _ _ m3
 have n4:=nc _ _ m4
 have n5:=nc _ _ m5
 have n6:=nc _ _ m6
 clear nc
 cases ZC:(t.n==0)
 rotate_left
 cases om:(t.field==[])
 rotate_left
 cases Fe:(t.wn==[])
 rotate_left
 by_cases Fc:0<t.wk.length
 rotate_left
 by_cases pM:0<t.names.length
 rotate_left
 all_goals simp(disch:=omega)only[aP,aa,simprocAttr,bne,dj,bB,aW,aq,ak,an3,an4,ab,mY,aoq,aou,aon,aoH,aow,aoL,aom,aoj,apC,aob, *]
theorem Km{t:Tm}{H:ah}{s:AS}(hs:NJ t H [110,107] s):W A (lO.body.post 2) s (done H.length [.tmp 2] (.bool (mY [110,107] t),none)):=by
 obtain⟨T,K,rfl,hK,q1,q4,hb,hu⟩:=hs
 unfold lO
 simp only[aY.post]
 obtain⟨m1,m2,m3,m4,m5,m6⟩:cj [110,107] 110=false/\cj [110,107] 97=true/\cj [110,107] 102=true/\cj [110,107] 116=true/\cj [110,107] 107=false/\cj [110,107] 115=true:=⟨rfl,rfl,rfl,rfl,rfl,rfl⟩
 have nc:=fun c b=>sH [110,107] c b (H.length+2) K (by decide) hu
 have n1:=nc _ _ m1
 have n2:=nc _ _ m2
 have n3:=nc _ _ m3
 have n4:=nc _ _ m4
 have n5:=nc _ _ m5
 have n6:=nc _ _ m6
 clear nc
 cases xZ:(t.name==[])
 rotate_left
 cases om:(t.field==[])
 rotate_left
 cases Fe:(t.wn==[])
 rotate_left
 by_cases Fc:0<t.wk.length
 rotate_left
 by_cases pM:0<t.names.length
 rotate_left
 all_goals simp(disch:=omega)only[aP,aa,simprocAttr,bne,dj,bB,aW,aq,ak,an3,an4,ab,mY,aoq,aou,aon,aoH,aow,aoL,aom,aoj,apC,aob, *]
theorem ac4{t:Tm}{H:ah}{s:AS}(hs:NJ t H [107] s):W A (lO.body.post 2) s (done H.length [.tmp 2] (.bool (mY [107] t),none)):=by
 obtain⟨T,K,rfl,hK,q1,q4,hb,hu⟩:=hs
 unfold lO
 simp only[aY.post]
 obtain⟨m1,m2,m3,m4,m5,m6⟩:cj [107] 110=true/\cj [107] 97=true/\cj [107] 102=true/\cj [107] 116=true/\cj [107] 107=false/\cj [107] 115=true:=⟨rfl,rfl,rfl,rfl,rfl,rfl⟩
 have nc:=fun c b=>sH [107] c b (H.length+2) K (by decide) hu
 have n1:=nc _ _ m1
 have n2:=nc _ _ m2
 have n3:=nc _ _ m3
 have n4:=nc _ _ m4
 have n5:=nc _ _ m5
 have n6:=nc _ _ m6
 clear nc
 cases ZC:(t.n==0)
 rotate_left
 cases xZ:(t.name==[])
 rotate_left
 cases om:(t.field==[])
 rotate_left
 cases Fe:(t.wn==[])
 rotate_left
 by_cases Fc:0<t.wk.length
 rotate_left
 by_cases pM:0<t.names.length
 rotate_left
 all_goals simp(disch:=omega)only[aP,aa,simprocAttr,bne,dj,bB,aW,aq,ak,an3,an4,ab,mY,aoq,aou,aon,aoH,aow,aoL,aom,aoj,apC,aob, *]
theorem zG{t:Tm}{H:ah}{s:AS}(hs:NJ t H [107,115] s):W A (lO.body.post 2) s (done H.length [.tmp 2] (.bool (mY [107,115] t),none)):=by
 obtain⟨T,K,rfl,hK,q1,q4,hb,hu⟩:=hs
 unfold lO
 simp only[aY.post]
 obtain⟨m1,m2,m3,m4,m5,m6⟩:cj [107,115] 110=true/\cj [107,115] 97=true/\cj [107,115] 102=true/\cj [107,115] 116=true/\cj [107,115] 107=false/\cj [107,115] 115=false:=⟨rfl,rfl,rfl,rfl,rfl,rfl⟩
 have nc:=fun c b=>sH [107,115] c b (H.length+2) K (by decide) hu
 have n1:=nc _ _ m1
 have n2:=nc _ _ m2
 have n3:=nc _ _ m3
 have n4:=nc _ _ m4
 have n5:=nc _ _ m5
 have n6:=nc _ _ m6
 clear nc
 cases ZC:(t.n==0)
 rotate_left
 cases xZ:(t.name==[])
 rotate_left
 cases om:(t.field==[])
 rotate_left
 cases Fe:(t.wn==[])
 rotate_left
 by_cases Fc:0<t.wk.length
 rotate_left
 all_goals simp(disch:=omega)only[aP,aa,simprocAttr,bne,dj,bB,aW,aq,ak,an3,an4,ab,mY,aoq,aou,aon,aoH,aow,aoL,aom,aoj,apC,aob, *]
theorem sO{t:Tm}{H:ah}{s:AS}(hs:NJ t H [97,107,115] s):W A (lO.body.post 2) s (done H.length [.tmp 2] (.bool (mY [97,107,115] t),none)):=by
 obtain⟨T,K,rfl,hK,q1,q4,hb,hu⟩:=hs
 unfold lO
 simp only[aY.post]
 obtain⟨m1,m2,m3,m4,m5,m6⟩:cj [97,107,115] 110=true/\cj [97,107,115] 97=false/\cj [97,107,115] 102=true/\cj [97,107,115] 116=true/\cj [97,107,115] 107=false/\cj [97,107,115] 115=false:=⟨rfl,rfl,rfl,rfl,rfl,rfl⟩
 have nc:=fun c b=>sH [97,107,115] c b (H.length+2) K (by decide) hu
 have n1:=nc _ _ m1
 have n2:=nc _ _ m2
 have n3:=nc _ _ m3
 have n4:=nc _ _ m4
 have n5:=nc _ _ m5
 have n6:=nc _ _ m6
 clear nc
 cases ZC:(t.n==0)
 rotate_left
 cases om:(t.field==[])
 rotate_left
 cases Fe:(t.wn==[])
 rotate_left
 by_cases Fc:0<t.wk.length
 rotate_left
 all_goals simp(disch:=omega)only[aP,aa,simprocAttr,bne,dj,bB,aW,aq,ak,an3,an4,ab,mY,aoq,aou,aon,aoH,aow,aoL,aom,aoj,apC,aob, *]
theorem sN{t:Tm}{H:ah}{s:AS}(hs:NJ t H [97,102,107] s):W A (lO.body.post 2) s (done H.length [.tmp 2] (.bool (mY [97,102,107] t),none)):=by
 obtain⟨T,K,rfl,hK,q1,q4,hb,hu⟩:=hs
 unfold lO
 simp only[aY.post]
 obtain⟨m1,m2,m3,m4,m5,m6⟩:cj [97,102,107] 110=true/\cj [97,102,107] 97=false/\cj [97,102,107] 102=false/\cj [97,102,107] 116=true/\cj [97,102,107] 107=false/\cj [97,102,107] 115=true:=⟨rfl,rfl,rfl,rfl,rfl,rfl⟩
 have nc:=fun c b=>sH [97,102,107] c b (H.length+2) K (by decide) hu
 have n1:=nc _ _ m1
 have n2:=nc _ _ m2
 have n3:=nc _ _ m3
 have n4:=nc _ _ m4
 have n5:=nc _ _ m5
 have n6:=nc _ _ m6
 clear nc
 cases ZC:(t.n==0)
 rotate_left
 cases Fe:(t.wn==[])
 rotate_left
 by_cases Fc:0<t.wk.length
 rotate_left
 by_cases pM:0<t.names.length
 rotate_left
 all_goals simp(disch:=omega)only[aP,aa,simprocAttr,bne,dj,bB,aW,aq,ak,an3,an4,ab,mY,aoq,aou,aon,aoH,aow,aoL,aom,aoj,apC,aob, *]
theorem Kn{t:Tm}{H:ah}{s:AS}(hs:NJ t H [116,107] s):W A (lO.body.post 2) s (done H.length [.tmp 2] (.bool (mY [116,107] t),none)):=by
 obtain⟨T,K,rfl,hK,q1,q4,hb,hu⟩:=hs
 unfold lO
 simp only[aY.post]
 obtain⟨m1,m2,m3,m4,m5,m6⟩:cj [116,107] 110=true/\cj [116,107] 97=true/\cj [116,107] 102=true/\cj [116,107] 116=false/\cj [116,107] 107=false/\cj [116,107] 115=true:=⟨rfl,rfl,rfl,rfl,rfl,rfl⟩
 have nc:=fun c b=>sH [116,107] c b (H.length+2) K (by decide) hu
 have n1:=nc _ _ m1
 have n2:=nc _ _ m2
 have n3:=nc _ _ m3
 have n4:=nc _ _ m4
 have n5:=nc _ _ m5
 have n6:=nc _ _ m6
 clear nc
 cases ZC:(t.n==0)
 rotate_left
 cases xZ:(t.name==[])
 rotate_left
 cases om:(t.field==[])
 rotate_left
 by_cases pM:0<t.names.length
 rotate_left
 all_goals simp(disch:=omega)only[aP,aa,simprocAttr,bne,dj,bB,aW,aq,ak,an3,an4,ab,mY,aoq,aou,aon,aoH,aow,aoL,aom,aoj,apC,aob, *]
theorem ajy{t:Tm}{H:ah}{s:AS}(hs:NJ t H [] s):W A (lO.body.post 2) s (done H.length [.tmp 2] (.bool (mY [] t),none)):=by
 obtain⟨T,K,rfl,hK,q1,q4,hb,hu⟩:=hs
 unfold lO
 simp only[aY.post]
 obtain⟨m1,m2,m3,m4,m5,m6⟩:cj [] 110=true/\cj [] 97=true/\cj [] 102=true/\cj [] 116=true/\cj [] 107=true/\cj [] 115=true:=⟨rfl,rfl,rfl,rfl,rfl,rfl⟩
 have nc:=fun c b=>sH [] c b (H.length+2) K (by decide) hu
 have n1:=nc _ _ m1
 have n2:=nc _ _ m2
 have n3:=nc _ _ m3
 have n4:=nc _ _ m4
 have n5:=nc _ _ m5
 have n6:=nc _ _ m6
 clear nc
 cases ZC:(t.n==0)
 rotate_left
 cases xZ:(t.name==[])
 rotate_left
 cases om:(t.field==[])
 rotate_left
 cases Fe:(t.wn==[])
 rotate_left
 by_cases Fc:0<t.wk.length
 rotate_left
 by_cases Oj:0<t.kids.length
 rotate_left
 by_cases pM:0<t.names.length
 rotate_left
 all_goals simp(disch:=omega)only[aP,aa,simprocAttr,bne,dj,bB,aW,aq,ak,an3,an4,ab,mY,aoq,aou,aon,aoH,aow,aoL,aom,aoj,apC,aob, *]
theorem gx(t:Tm)(H:ah):aD A 54 [.agg (cE t)] H=some (.bool (bj t),none):=by
 refine aB (fn:=lO) rfl rfl rfl ?_
 refine fH 2 _ ac5 fun s hs=>?_
 unfold bj
 rcases tv t.kind with e|e|e|e|e|e|e|e|e|e|e|e|e|e
 ·have hu:dW t.kind=[110]:=by rw[e];rfl
  rw[hu] at hs ⊢;exact SZ hs
 ·have hu:dW t.kind=[110]:=by rw[e];rfl
  rw[hu] at hs ⊢;exact SZ hs
 ·have hu:dW t.kind=[97]:=by rw[e];rfl
  rw[hu] at hs ⊢;exact agD hs
 ·have hu:dW t.kind=[97,107]:=by rw[e];rfl
  rw[hu] at hs ⊢;exact No hs
 ·have hu:dW t.kind=[110,107]:=by rw[e];rfl
  rw[hu] at hs ⊢;exact Km hs
 ·have hu:dW t.kind=[107]:=by rw[e];rfl
  rw[hu] at hs ⊢;exact ac4 hs
 ·have hu:dW t.kind=[107,115]:=by rw[e];rfl
  rw[hu] at hs ⊢;exact zG hs
 ·have hu:dW t.kind=[97,107,115]:=by rw[e];rfl
  rw[hu] at hs ⊢;exact sO hs
 ·have hu:dW t.kind=[97,102,107]:=by rw[e];rfl
  rw[hu] at hs ⊢;exact sN hs
 ·have hu:dW t.kind=[97,102,107]:=by rw[e];rfl
  rw[hu] at hs ⊢;exact sN hs
 ·have hu:dW t.kind=[97,107,115]:=by rw[e];rfl
  rw[hu] at hs ⊢;exact sO hs
 ·have hu:dW t.kind=[116,107]:=by rw[e];rfl
  rw[hu] at hs ⊢;exact Kn hs
 ·have hu:dW t.kind=[107,115]:=by rw[e];rfl
  rw[hu] at hs ⊢;exact zG hs
 ·have hu:dW t.kind=[]:=by
   unfold dW
   repeat rw[if_neg (by omega)]
  rw[hu] at hs ⊢;exact ajy hs
theorem Hx(n:Int)(H:ah):aD A 122 [.int .i64 n] H=some (.tuple [.str (lq n).1,.int .i64 (lq n).2],none):=ng (A:=A) (f:=122) rfl rfl
def yY(t:Tm):Int:=if t.kind=5\/t.kind=6\/t.kind=12 then 0 else if t.kind=4 then (lq t.n).2 else 8
theorem Ry(t:Tm)(H:ah):aD A 140 [.agg (cE t)] H=some (.int .i64 (yY t),none):=by
 have hs:=fun K=>Hx t.n K
 refine aB (fn:=Gw) rfl rfl rfl ?_
 rw[an]
 unfold Gw yY
 have ht:(H++[bZ.box 43 [.int .i64 t.kind,.int .i64 t.n,.str t.name,.str t.field,.str t.wn,.slice (az t.wk) false,.slice (au t.kids) false,.slice (strs t.names) false]]).take H.length=H:=rO
 by_cases k5:t.kind=5
 ·rw[if_pos (.inl k5)]
  simp(disch:=omega)only[aP,aa,simprocAttr,cr,aq,ak,an3,an4,ab]
 by_cases k6:t.kind=6
 ·rw[if_pos (.inr (.inl k6))]
  simp(disch:=omega)only[aP,aa,simprocAttr,cr,aq,ak,an3,an4,ab]
 by_cases k12:t.kind=12
 ·rw[if_pos (.inr (.inr k12))]
  simp(disch:=omega)only[aP,aa,simprocAttr,cr,aq,ak,an3,an4,ab]
 rw[if_neg (by omega)]
 by_cases k4:t.kind=4
 ·rw[if_pos k4]
  simp(disch:=omega)only[aP,aa,simprocAttr,cr,hs,aq,ak,an3,an4,ab]
 ·rw[if_neg k4]
  simp(disch:=omega)only[aP,aa,simprocAttr,cr,aq,ak,an3,an4,ab]
theorem Lg{n:Int}(h:¬ (n<0\/11<n)):lq n=dF n:=by unfold lq;rw[if_neg h]
theorem yZ{t:Tm}(h:ai t=true):yY t=dL t:=by
 unfold yY dL
 split
 ·rfl
 ·split
  ·rename_i _ hk
   have hO:=xy h
   have:¬ (t.n<0\/11<t.n):=by
    intro hn
    have hs:(dF t.n).1=[]:=by unfold dF;rw[if_pos hn]
    have hc:bF t.kind t.n t.kids.length=(-2,0):=by
     unfold bF
     simp[hk,hs]
    exact (fO hO hc).1 rfl
   rw[Lg this]
  ·rfl
theorem fq{mm:Nat}{K:ah}(h:PW mm K)(ok:Bool)(l:List bq)(b:Bool):aD A 52 [.ref mm 0,.bool ok] (cm mm l b K)=some (.undef,some ⟨cm mm l (b || !ok) K,mm⟩):=by
 refine aB (fn:=Jx) rfl rfl rfl ?_
 unfold Jx
 have h0:=ff (l:=l) (b:=b) h
 unfold lB at h0
 have bf:=h.lt
 have ho:=fun b=>h.open l b
 have h1:∀ x:bZ,((cm mm l b K).set mm x)[mm]?=some x:=fun x=>List.getElem?_set_self (by rw[aA];exact bf)
 cases b<;>simp(disch:=omega)only[aP,aa,simprocAttr,h0,h1,aA,rz,fF,ho,aon,aoH,aq,ak,an3,an4,ab]
def gr(t:Tm)(k m:Int):Bool:=decide ((t.kids.length:Int)=k)&&decide ((t.names.length:Int)=m)
theorem qK{mm:Nat}{K:ah}(hP:PW mm K)(t:Tm)(k m:Int)(l:List bq)(b:Bool):aD A 93 [.ref mm 0,.agg (cE t),.int .i64 k,.int .i64 m] (cm mm l b K)=some (.bool (!(b || !gr t k m)),some ⟨cm mm l (b || !gr t k m) K,mm⟩):=by
 rw[an]
 obtain⟨K1,dQ,bX,da,hT,hO⟩:=lH hP t
 have bf:=hP.lt
 have e1:=fun ok=>fq dQ ok l b
 have qp:decide (K.length<K.length)=false:=by simp
 refine aB (fn:=Rl) rfl rfl rfl ?_
 unfold Rl gr
 by_cases h1:(t.kids.length:Int)=k
 ·by_cases h2:(t.names.length:Int)=m
  ·have e:=e1 true
   have ho:=hO l (b || !true)
   have h0:=ff (l:=l) (b:=b || !true) dQ
   unfold lB at h0
   rw[decide_eq_true h1,decide_eq_true h2]
   simp only[apb]
   generalize (b || !true)=b1 at *
   simp(disch:=omega)only[aP,aa,simprocAttr,bX,da,bB,aW,e,h0,hT,ho,ar,aoc,aob,an8,cond_true,aA,aq,ak,an3,an4,ab]
  ·have e:=e1 false
   have ho:=hO l (b || !false)
   have h0:=ff (l:=l) (b:=b || !false) dQ
   unfold lB at h0
   rw[decide_eq_true h1,ao1 h2]
   simp only[Bool.and_false]
   generalize (b || !false)=b1 at *
   simp(disch:=omega)only[aP,aa,simprocAttr,bX,da,bB,aW,e,h0,hT,ho,ar,aoc,aob,an8,cond_true,aA,aq,ak,an3,an4,ab]
 ·have e:=e1 false
  have ho:=hO l (b || !false)
  have h0:=ff (l:=l) (b:=b || !false) dQ
  unfold lB at h0
  rw[ao1 h1]
  simp only[aoq]
  generalize (b || !false)=b1 at *
  simp(disch:=omega)only[aP,aa,simprocAttr,bX,da,bB,aW,e,h0,hT,ho,ar,aoc,aob,an8,cond_true,aA,aq,ak,an3,an4,ab]
def jO(n:Nat)(t:Tm):Prop:=∀ (mm:Nat) (K:ah),PW mm K->rC mm K 55 [.ref mm 0,.agg (cE t)] (ai t) (ay t) n
theorem pk(b:Bool):(b || !true)=b:=by cases b<;>rfl
theorem tQ(s:bq):strs [s]=[[.str s]]:=rfl
theorem JE{n:Nat}{t:Tm}(ht:jO n t)(least:Int){mm:Nat}{K:ah}(hP:PW mm K):rC mm K 123 [.ref mm 0,.agg (cE t),.int .i64 least] (ai t) (oc (ay t,dL t) least) (n+2):=by
 intro l b hl
 have HX:=fun K=>Ry t K
 have ht':=fun mm K h=>ht mm K h
 rw[an] at HX ⊢
 unfold jO at ht
 rw[an] at ht
 obtain⟨K1,dQ,bX,da,hT,hO⟩:=lH hP t
 have bf:=hP.lt
 by_cases hc:yY t<least
 ·obtain⟨l1,e1,t1,n1⟩:=fi dQ [[40]] (by simp) l b (by simp only[an5,an6];omega)
  simp only[an5,an6] at n1
  rw[pk,tQ] at e1
  rw[pk] at t1
  obtain⟨l2,e2,t2,n2⟩:=ht mm K1 dQ l1 b (by omega)
  obtain⟨l3,e3,t3,n3⟩:=fi dQ [[41]] (by simp) l2 (b || !ai t) (by simp only[an5,an6];omega)
  simp only[an5,an6] at n3
  rw[pk,tQ] at e3
  rw[pk] at t3
  refine⟨l3,?_,fun hp=>?_,by omega⟩
  ·refine aB (fn:=yP) rfl rfl rfl ?_
   unfold yP
   have ho:=hO l3 (b || !ai t)
   generalize (b || !ai t)=b1 at *
   simp(disch:=omega)only[aP,aa,simprocAttr,bX,da,HX,e1,e2,e3,hT,ho,ar,aoc,aob,an8,cond_true,aA,aq,ak,an3,an4,ab]
  ·have hb:b=false:=by cases b<;>simp_all
   have hpt:ai t=true:=by cases h:ai t<;>simp_all
   rw[t3 hp,t2 hp,t1 hb]
   unfold oc
   simp only
   rw[if_pos (by rw[<- yZ hpt];exact hc)]
   simp
 ·obtain⟨l2,e2,t2,n2⟩:=ht mm K1 dQ l b (by omega)
  refine⟨l2,?_,fun hp=>?_,by omega⟩
  ·refine aB (fn:=yP) rfl rfl rfl ?_
   unfold yP
   have ho:=hO l2 (b || !ai t)
   generalize (b || !ai t)=b1 at *
   simp(disch:=omega)only[aP,aa,simprocAttr,bX,da,HX,e2,hT,ho,ar,aoc,aob,an8,cond_true,aA,aq,ak,an3,an4,ab]
  ·have hpt:ai t=true:=by cases h:ai t<;>simp_all
   rw[t2 hp]
   unfold oc
   simp only
   rw[if_neg (by rw[<- yZ hpt];exact hc)]
theorem RP{b ok1 ok2:Bool} : ((b || !ok1) || !ok2)=(b || !(ok1&&ok2)):=by cases b<;>cases ok1<;>cases ok2<;>rfl
theorem At{a c:Bool}(h:(a || c)=false):a=false:=by cases a<;>simp_all
def xc(ob:Nat->Bool)(ks:List Tm)(i:Nat):Bool:=(List.range i).all fun j=>ob j&&ai (ks.getD j j5)
def CM(tb:Nat->List bq)(ks:List Tm)(i:Nat):List (List bq):=(List.range i).map fun j=>tb j++ay (ks.getD j j5)
theorem GZ{ob:Nat->Bool}{ks:List Tm}{i:Nat} : xc ob ks (i+1)=(xc ob ks i&&(ob i&&ai (ks.getD i j5))):=by unfold xc;rw[List.range_succ,List.all_append];simp
theorem Gz{tb:Nat->List bq}{ks:List Tm}{i:Nat} : CM tb ks (i+1)=CM tb ks i++[tb i++ay (ks.getD i j5)]:=by unfold CM;rw[List.range_succ,List.map_append];rfl
theorem VX{tb:Nat->List bq}{ks:List Tm}{i:Nat} : (CM tb ks i).length=i:=by unfold CM;simp
def Bef(mm:Nat)(K:ah)(fb:FuncId)(cs:List AV)(i:Nat)(ok:Bool)(SS:List bq)(n:Nat):Prop :=
 ∀ l b,l.length+n<=1000000->∃ l' c,aD A fb (.int .i64 i :: cs) (cm mm l b K)=some (.undef,c)/\(c=some ⟨cm mm l' (b || !ok) K,mm⟩\/c=none/\l'=l/\ok=true)/\((b || !ok)=false->l'=l++SS)/\l'.length<=l.length+n
theorem C1{n nb:Nat}{ks:List Tm}{ob:Nat->Bool}{tb:Nat->List bq}{fb:FuncId}{cs:List AV}{mm:Nat}{K:ah}(hP:PW mm K)(fV:∀ u∈ks,jO n u)(mV:ks.length<=10)(vJ:0<ks.length)(hb:∀ i,i<ks.length->Bef mm K fb cs i (ob i) (tb i) nb)(hn:n+nb<=10000) :
  rC mm K 91 [.ref mm 0,.slice (au ks) false,.func (.func fb) [] cs] (xc ob ks ks.length) (aO (CM tb ks ks.length)) (ks.length*(n+nb+1)):=by
 intro l b hl
 have key:∃ r,aD A 91 [.ref mm 0,.slice (au ks) false,.func (.func fb) [] cs] (cm mm l b K)=some r/\∃ l',r=(.undef,some ⟨cm mm l' (b || !xc ob ks ks.length) K,mm⟩)/\((b || !xc ob ks ks.length)=false->l'=l++aO (CM tb ks ks.length))/\l'.length<=l.length+ks.length*(n+nb+1):=by
  have bf:=hP.lt
  refine xR (fn:=JB) rfl rfl rfl ?_
  unfold JB
  simp(disch:=omega)only[aP,aa,simprocAttr,bB,ar,aoc,aob,an8,cond_true,aA]
  refine bM ks.length 0 (fun i s=>∃ T l' lo g,s=⟨T,cm mm l' (b || !xc ob ks i) K,lo,g⟩/\(lo=mm\/lo=K.length)/\(i=0\/lo=mm)/\T 0=.ref mm 0/\T 2=.func (.func fb) [] cs/\T 8=.slice (au ks) false/\T 9=.int .i64 ks.length/\T 10=.int .i64 i/\((b || !xc ob ks i)=false->l'=l++aO (CM tb ks i))/\l'.length<=l.length+i*(n+nb+1)/\(i=0->l'=l))
   (fun s=>∃ T l' lo g,s=⟨T,cm mm l' (b || !xc ob ks ks.length) K,lo,g⟩/\lo=mm/\((b || !xc ob ks ks.length)=false->l'=l++aO (CM tb ks ks.length))/\l'.length<=l.length+ks.length*(n+nb+1)) (fun _=>False) ?_ ?_ (fun _ h=>h.elim) 0 _ (by omega) ?_
  ·rintro i s hi ⟨T,l',lo,g,rfl,qp,jh,q0,q2,q8,q9,xz,ht,zS,CD⟩
   by_cases yH:i<ks.length
   ·have hx:=an' yH
    have hm:=aoW yH
    have zR:ks.getD i j5=ks[i]:=by rw[List.getD,hx];rfl
    rw[GZ,Gz,zR]
    generalize ks[i]=u at hx hm
    have fE:=sM hx
    have hT:=fV u hm
    unfold jO at hT
    rw[an] at hT fE
    have hmul:(i+1)*(n+nb+1)<=ks.length*(n+nb+1):=aot _ (by omega)
    have afh:(i+1)*(n+nb+1)=i*(n+nb+1)+(n+nb+1):=by rw[aoT,ap8]
    have F8:(bif decide (mm<lo) then mm else lo)=mm:=by
     rcases qp with rfl|rfl
     ·simp
     ·simp[bf]
    have comma:∃ l1 YS,(0<i->aD A 41 [.ref mm 0,.slice [[.str [44]]] false] (cm mm l' (b || !xc ob ks i) K)=some (.undef,some ⟨cm mm l1 (b || !xc ob ks i) K,mm⟩))/\(i=0->l1=l'/\YS=lo)/\(0<i->YS=mm)/\((b || !xc ob ks i)=false->l1++(tb i++ay u)=l++aO (CM tb ks i++[tb i++ay u]))/\l1.length<=l'.length+1:=by
     by_cases h0:i=0
     ·subst h0
      refine⟨l',lo,fun h=>by omega,fun _=>⟨rfl,rfl⟩,fun h=>by omega,fun gm=>?_,by omega⟩
      rw[ht gm,show CM tb ks 0=[] from rfl]
      simp[aO]
     ·obtain⟨l1,e1,t1,n1⟩:=fi hP [[44]] (by simp) l' (b || !xc ob ks i) (by simp only[an5,an6];omega)
      simp only[an5,an6] at n1
      rw[pk,tQ] at e1
      rw[pk] at t1
      refine⟨l1,mm,fun _=>e1,fun h=>absurd h h0,fun _=>rfl,fun gm=>?_,n1⟩
      rw[t1 gm,ht gm,jK,if_neg (fun h=>by have:=apS List.length h;rw[VX] at this;simp at this;omega)]
      simp
    obtain⟨l1,YS,ec,Yn,elo,tc,nc⟩:=comma
    generalize zP:(b || !xc ob ks i)=bi at *
    obtain⟨l2,c2,e2,gR,t2,n2⟩:=hb i yH l1 bi (by omega)
    obtain⟨l3,e3,t3,n3⟩:=hT mm K hP l2 (bi || !ob i) (by omega)
    have aar:(b || !(xc ob ks i&&(ob i&&ai u)))=((bi || !ob i) || !ai u):=by rw[<- zP];cases b<;>cases xc ob ks i<;>cases ob i<;>cases ai u<;>rfl
    rw[aar]
    have nE:YS=mm\/YS=K.length:=by
     by_cases h0:i=0
     ·rw[(Yn h0).2];exact qp
     ·exact .inl (elo (by omega))
    have akc:(bif decide (mm<YS) then mm else YS)=mm:=by
     rcases nE with rfl|rfl
     ·simp
     ·simp[bf]
    have SQ:((bi || !ob i) || !ai u)=false->l3=l++aO (CM tb ks i++[tb i++ay u]):=fun h=>by
     have h1:=At h
     have h2:=At h1
     rw[t3 h,t2 h1,ao5,tc h2]
    have V6:l3.length<=l.length+(i+1)*(n+nb+1):=by omega
    rcases gR with rfl|⟨rfl,rfl,YH⟩
    ·by_cases h0:i=0
     ·obtain⟨rfl,rfl⟩:=Yn h0
      simp(disch:=omega)only[aP,aa,simprocAttr,q0,q2,q8,q9,xz,fE,e2,e3,F8,ar,aoc,aob,an8,cond_true,aA]
      refine⟨yH,_,l3,mm,_,rfl,.inl rfl,.inr rfl,?_,?_,?_,?_,?_,SQ,V6,fun h=>h.elim⟩
      all_goals simp(disch:=omega)only[aN,aa,simprocAttr,q0,q2,q8,q9]
     ·have ec:=ec (by omega)
      simp(disch:=omega)only[aP,aa,simprocAttr,q0,q2,q8,q9,xz,fE,ec,e2,e3,F8,ar,aoc,aob,an8,cond_true,aA]
      refine⟨yH,_,l3,mm,_,rfl,.inl rfl,.inr rfl,?_,?_,?_,?_,?_,SQ,V6,fun h=>h.elim⟩
      all_goals simp(disch:=omega)only[aN,aa,simprocAttr,q0,q2,q8,q9]
    ·have A2:(bi || !ob i)=bi:=by rw[YH,pk]
     rw[A2] at e3 SQ ⊢
     by_cases h0:i=0
     ·obtain⟨rfl,rfl⟩:=Yn h0
      simp(disch:=omega)only[aP,aa,simprocAttr,q0,q2,q8,q9,xz,fE,e2,e3,F8,ar,aoc,aob,an8,cond_true,aA]
      refine⟨yH,_,l3,mm,_,rfl,.inl rfl,.inr rfl,?_,?_,?_,?_,?_,SQ,V6,fun h=>h.elim⟩
      all_goals simp(disch:=omega)only[aN,aa,simprocAttr,q0,q2,q8,q9]
     ·have ec:=ec (by omega)
      simp(disch:=omega)only[aP,aa,simprocAttr,q0,q2,q8,q9,xz,fE,ec,e2,e3,F8,ar,aoc,aob,an8,cond_true,aA]
      refine⟨yH,_,l3,mm,_,rfl,.inl rfl,.inr rfl,?_,?_,?_,?_,?_,SQ,V6,fun h=>h.elim⟩
      all_goals simp(disch:=omega)only[aN,aa,simprocAttr,q0,q2,q8,q9]
   ·obtain rfl:i=ks.length:=by omega
    simp(disch:=omega)only[aP,aa,simprocAttr,q0,q2,q8,q9,xz,ar,aoc,aob,an8,cond_true,aA]
    refine⟨_,l',lo,_,rfl,?_,ht,by omega⟩
    rcases jh with h2|h2
    ·omega
    ·exact h2
  ·rintro s ⟨T,l',lo,g,rfl,rfl,ht,zS⟩
   have ho:=hP.open l' (b || !xc ob ks ks.length)
   simp(disch:=omega)only[aP,aa,simprocAttr,fF,ho,ar,aoc,aob,an8,cond_true,aA]
   exact⟨l',rfl,ht,zS⟩
  ·have e0:cm mm l b K=cm mm l (b || !xc ob ks 0) K:=by rw[show xc ob ks 0=true from rfl,pk]
   refine⟨_,l,K.length,_,apS (fun x=>AS.mk _ x _ _) e0,.inr rfl,.inl rfl,?_,?_,?_,?_,?_,fun _=>by simp[CM,aO],by omega,fun _=>rfl⟩
   all_goals simp(disch:=omega)only[aN,aa,simprocAttr,aoI]
 obtain⟨r,h1,l',rfl,h2,h3⟩:=key
 exact⟨l',h1,h2,h3⟩
theorem CZ{fb:FuncId}{cs:List AV}{mm:Nat}{K:ah} : aD A 91 [.ref mm 0,.slice [] false,.func (.func fb) [] cs] K=some (.undef,none):=by
 refine aB (fn:=JB) rfl rfl rfl ?_
 unfold JB
 simp(disch:=omega)only[aP,aa,simprocAttr,an6,aoI]
 refine bM 0 0 (fun i s=>∃ T g,s=⟨T,K,K.length,g⟩/\T 9=.int .i64 0/\T 10=.int .i64 0) (fun s=>∃ T g,s=⟨T,K,K.length,g⟩) (fun _=>False) ?_ ?_ (fun _ h=>h.elim) 0 _ (by omega) ?_
 ·rintro i s hi ⟨T,g,rfl,q9,xz⟩
  simp(disch:=omega)only[aP,aa,simprocAttr,q9,xz]
  exact⟨_,_,rfl⟩
 ·rintro s ⟨T,g,rfl⟩
  simp(disch:=omega)only[aP,aa,simprocAttr]
 ·exact⟨_,_,rfl,by simp(disch:=omega)only[aN,aa,simprocAttr],by simp(disch:=omega)only[aN,aa,simprocAttr]⟩
theorem Bp{mm:Nat}{K:ah}(i:Nat):Bef mm K 88 [] i true [] 0:=by
 intro l b hl
 refine⟨l,none,?_,.inr ⟨rfl,rfl,rfl⟩,fun _=>by simp,by omega⟩
 refine aB (fn:=Ri) rfl rfl rfl ?_
 unfold Ri
 simp(disch:=omega)only[aP,aa,simprocAttr]
def NH(ts:List bq)(ks:List Tm)(i:Nat):List bq:=((List.range i).map fun j=>[ts.getD j []]++ay (ks.getD j j5)).flatten
theorem RU{ts:List bq}{ks:List Tm}{i:Nat} : NH ts ks (i+1)=NH ts ks i++([ts.getD i []]++ay (ks.getD i j5)):=by unfold NH;rw[List.range_succ,List.map_append,List.flatten_append];simp
def xx(ks:List Tm)(i:Nat):Bool:=(List.range i).all fun j=>ai (ks.getD j j5)
theorem zb{ks:List Tm}{i:Nat} : xx ks (i+1)=(xx ks i&&ai (ks.getD i j5)):=by unfold xx;rw[List.range_succ,List.all_append];simp
theorem Dh{n:Nat}{ks:List Tm}{ts:List bq}{mm:Nat}{K:ah}(hP:PW mm K)(fV:∀ u∈ks,jO n u)(mV:ks.length<=10)(vJ:0<ks.length)(htl:ts.length=ks.length)(hn:n<=10000) :
  rC mm K 94 [.ref mm 0,.slice (au ks) false,.slice (strs ts) false] (xx ks ks.length) (NH ts ks ks.length) (ks.length*(n+1)):=by
 intro l b hl
 have key:∃ r,aD A 94 [.ref mm 0,.slice (au ks) false,.slice (strs ts) false] (cm mm l b K)=some r/\∃ l',r=(.undef,some ⟨cm mm l' (b || !xx ks ks.length) K,mm⟩)/\((b || !xx ks ks.length)=false->l'=l++NH ts ks ks.length)/\l'.length<=l.length+ks.length*(n+1):=by
  have bf:=hP.lt
  refine xR (fn:=Rm) rfl rfl rfl ?_
  unfold Rm
  simp(disch:=omega)only[aP,aa,simprocAttr,bB,ar,aoc,aob,an8,cond_true,aA]
  refine bM ks.length 0 (fun i s=>∃ T l' lo g,s=⟨T,cm mm l' (b || !xx ks i) K,lo,g⟩/\(lo=mm\/lo=K.length)/\(i=0\/lo=mm)/\T 0=.ref mm 0/\T 2=.slice (strs ts) false/\T 8=.slice (au ks) false/\T 9=.int .i64 ks.length/\T 10=.int .i64 i/\((b || !xx ks i)=false->l'=l++NH ts ks i)/\l'.length<=l.length+i*(n+1))
   (fun s=>∃ T l' lo g,s=⟨T,cm mm l' (b || !xx ks ks.length) K,lo,g⟩/\lo=mm/\((b || !xx ks ks.length)=false->l'=l++NH ts ks ks.length)/\l'.length<=l.length+ks.length*(n+1)) (fun _=>False) ?_ ?_ (fun _ h=>h.elim) 0 _ (by omega) ?_
  ·rintro i s hi ⟨T,l',lo,g,rfl,qp,jh,q0,q2,q8,q9,xz,ht,zS⟩
   by_cases yH:i<ks.length
   ·have hx:=an' yH
    have hm:=aoW yH
    have zR:ks.getD i j5=ks[i]:=by rw[List.getD,hx];rfl
    rw[zb,RU,zR]
    generalize ks[i]=u at hx hm
    have fE:=sM hx
    have jN:=iI (l:=ts) (i:=i) (by omega)
    generalize ts.getD i []=tk at jN
    have hT:=fV u hm
    unfold jO at hT
    rw[an] at hT fE
    have hmul:(i+1)*(n+1)<=ks.length*(n+1):=aot _ (by omega)
    have afh:(i+1)*(n+1)=i*(n+1)+(n+1):=by rw[aoT,ap8]
    have F8:(bif decide (mm<lo) then mm else lo)=mm:=by
     rcases qp with rfl|rfl
     ·simp
     ·simp[bf]
    generalize zP:(b || !xx ks i)=bi at *
    obtain⟨l1,e1,t1,n1⟩:=fi hP [tk] (by simp) l' bi (by simp only[an5,an6];omega)
    simp only[an5,an6] at n1
    rw[pk,tQ] at e1
    rw[pk] at t1
    obtain⟨l3,e3,t3,n3⟩:=hT mm K hP l1 bi (by omega)
    have aar:(b || !(xx ks i&&ai u))=(bi || !ai u):=by rw[<- zP];cases b<;>cases xx ks i<;>cases ai u<;>rfl
    rw[aar]
    simp(disch:=omega)only[aP,aa,simprocAttr,q0,q2,q8,q9,xz,fE,jN,e1,e3,F8,ar,aoc,aob,an8,cond_true,aA]
    refine⟨yH,_,l3,mm,_,rfl,.inl rfl,.inr rfl,?_,?_,?_,?_,?_,fun h=>?_,by omega⟩
    all_goals first|(simp(disch:=omega)only[aN,aa,simprocAttr,q0,q2,q8,q9];done)|skip
    have h2:=At h
    rw[t3 h,t1 h2,ht h2];simp
   ·obtain rfl:i=ks.length:=by omega
    simp(disch:=omega)only[aP,aa,simprocAttr,q0,q2,q8,q9,xz,ar,aoc,aob,an8,cond_true,aA]
    refine⟨_,l',lo,_,rfl,?_,ht,by omega⟩
    rcases jh with h2|h2
    ·omega
    ·exact h2
  ·rintro s ⟨T,l',lo,g,rfl,rfl,ht,zS⟩
   have ho:=hP.open l' (b || !xx ks ks.length)
   simp(disch:=omega)only[aP,aa,simprocAttr,fF,ho,ar,aoc,aob,an8,cond_true,aA]
   exact⟨l',rfl,ht,zS⟩
  ·have e0:cm mm l b K=cm mm l (b || !xx ks 0) K:=by rw[show xx ks 0=true from rfl,pk]
   refine⟨_,l,K.length,_,apS (fun x=>AS.mk _ x _ _) e0,.inr rfl,.inl rfl,?_,?_,?_,?_,?_,fun _=>by simp[NH],by omega⟩
   all_goals simp(disch:=omega)only[aN,aa,simprocAttr,aoI]
 obtain⟨r,h1,l',rfl,h2,h3⟩:=key
 exact⟨l',h1,h2,h3⟩
theorem agE{t:Tm}(hk:t.kind=0)(hu:bj t=true):True/\t.name=[]/\t.field=[]/\t.wn=[]/\t.wk=[]/\t.kids=[]/\t.names=[]:=by
 unfold bj at hu
 rw[hk] at hu
 rw[show dW 0=[110] from rfl] at hu
 simp only[mY,show cj [110] 110=false from rfl,show cj [110] 97=true from rfl,show cj [110] 102=true from rfl,show cj [110] 116=true from rfl,show cj [110] 107=true from rfl,show cj [110] 115=true from rfl,aou,aoq,aon,aow,ao7,apa,apn,ao3,apj,aoY,apQ,apH,aoG] at hu
 simp_all
theorem agF{t:Tm}(hk:t.kind=1)(hu:bj t=true):True/\t.name=[]/\t.field=[]/\t.wn=[]/\t.wk=[]/\t.kids=[]/\t.names=[]:=by
 unfold bj at hu
 rw[hk] at hu
 rw[show dW 1=[110] from rfl] at hu
 simp only[mY,show cj [110] 110=false from rfl,show cj [110] 97=true from rfl,show cj [110] 102=true from rfl,show cj [110] 116=true from rfl,show cj [110] 107=true from rfl,show cj [110] 115=true from rfl,aou,aoq,aon,aow,ao7,apa,apn,ao3,apj,aoY,apQ,apH,aoG] at hu
 simp_all
theorem agG{t:Tm}(hk:t.kind=2)(hu:bj t=true):True/\t.n=0/\t.field=[]/\t.wn=[]/\t.wk=[]/\t.kids=[]/\t.names=[]:=by
 unfold bj at hu
 rw[hk] at hu
 rw[show dW 2=[97] from rfl] at hu
 simp only[mY,show cj [97] 110=true from rfl,show cj [97] 97=false from rfl,show cj [97] 102=true from rfl,show cj [97] 116=true from rfl,show cj [97] 107=true from rfl,show cj [97] 115=true from rfl,aou,aoq,aon,aow,ao7,apa,apn,ao3,apj,aoY,apQ,apH,aoG] at hu
 simp_all
theorem agH{t:Tm}(hk:t.kind=3)(hu:bj t=true):True/\t.n=0/\t.field=[]/\t.wn=[]/\t.wk=[]/\t.names=[]:=by
 unfold bj at hu
 rw[hk] at hu
 rw[show dW 3=[97,107] from rfl] at hu
 simp only[mY,show cj [97,107] 110=true from rfl,show cj [97,107] 97=false from rfl,show cj [97,107] 102=true from rfl,show cj [97,107] 116=true from rfl,show cj [97,107] 107=false from rfl,show cj [97,107] 115=true from rfl,aou,aoq,aon,aow,ao7,apa,apn,ao3,apj,aoY,apQ,apH,aoG] at hu
 simp_all
theorem ac6{t:Tm}(hk:t.kind=4)(hu:bj t=true):True/\t.name=[]/\t.field=[]/\t.wn=[]/\t.wk=[]/\t.names=[]:=by
 unfold bj at hu
 rw[hk] at hu
 rw[show dW 4=[110,107] from rfl] at hu
 simp only[mY,show cj [110,107] 110=false from rfl,show cj [110,107] 97=true from rfl,show cj [110,107] 102=true from rfl,show cj [110,107] 116=true from rfl,show cj [110,107] 107=false from rfl,show cj [110,107] 115=true from rfl,aou,aoq,aon,aow,ao7,apa,apn,ao3,apj,aoY,apQ,apH,aoG] at hu
 simp_all
theorem agI{t:Tm}(hk:t.kind=5)(hu:bj t=true):True/\t.n=0/\t.name=[]/\t.field=[]/\t.wn=[]/\t.wk=[]/\t.names=[]:=by
 unfold bj at hu
 rw[hk] at hu
 rw[show dW 5=[107] from rfl] at hu
 simp only[mY,show cj [107] 110=true from rfl,show cj [107] 97=true from rfl,show cj [107] 102=true from rfl,show cj [107] 116=true from rfl,show cj [107] 107=false from rfl,show cj [107] 115=true from rfl,aou,aoq,aon,aow,ao7,apa,apn,ao3,apj,aoY,apQ,apH,aoG] at hu
 simp_all
theorem agJ{t:Tm}(hk:t.kind=6)(hu:bj t=true):True/\t.n=0/\t.name=[]/\t.field=[]/\t.wn=[]/\t.wk=[]:=by
 unfold bj at hu
 rw[hk] at hu
 rw[show dW 6=[107,115] from rfl] at hu
 simp only[mY,show cj [107,115] 110=true from rfl,show cj [107,115] 97=true from rfl,show cj [107,115] 102=true from rfl,show cj [107,115] 116=true from rfl,show cj [107,115] 107=false from rfl,show cj [107,115] 115=false from rfl,aou,aoq,aon,aow,ao7,apa,apn,ao3,apj,aoY,apQ,apH,aoG] at hu
 simp_all
theorem agK{t:Tm}(hk:t.kind=7)(hu:bj t=true):True/\t.n=0/\t.field=[]/\t.wn=[]/\t.wk=[]:=by
 unfold bj at hu
 rw[hk] at hu
 rw[show dW 7=[97,107,115] from rfl] at hu
 simp only[mY,show cj [97,107,115] 110=true from rfl,show cj [97,107,115] 97=false from rfl,show cj [97,107,115] 102=true from rfl,show cj [97,107,115] 116=true from rfl,show cj [97,107,115] 107=false from rfl,show cj [97,107,115] 115=false from rfl,aou,aoq,aon,aow,ao7,apa,apn,ao3,apj,aoY,apQ,apH,aoG] at hu
 simp_all
theorem ac7{t:Tm}(hk:t.kind=8)(hu:bj t=true):True/\t.n=0/\t.wn=[]/\t.wk=[]/\t.names=[]:=by
 unfold bj at hu
 rw[hk] at hu
 rw[show dW 8=[97,102,107] from rfl] at hu
 simp only[mY,show cj [97,102,107] 110=true from rfl,show cj [97,102,107] 97=false from rfl,show cj [97,102,107] 102=false from rfl,show cj [97,102,107] 116=true from rfl,show cj [97,102,107] 107=false from rfl,show cj [97,102,107] 115=true from rfl,aou,aoq,aon,aow,ao7,apa,apn,ao3,apj,aoY,apQ,apH,aoG] at hu
 simp_all
theorem ac8{t:Tm}(hk:t.kind=9)(hu:bj t=true):True/\t.n=0/\t.wn=[]/\t.wk=[]/\t.names=[]:=by
 unfold bj at hu
 rw[hk] at hu
 rw[show dW 9=[97,102,107] from rfl] at hu
 simp only[mY,show cj [97,102,107] 110=true from rfl,show cj [97,102,107] 97=false from rfl,show cj [97,102,107] 102=false from rfl,show cj [97,102,107] 116=true from rfl,show cj [97,102,107] 107=false from rfl,show cj [97,102,107] 115=true from rfl,aou,aoq,aon,aow,ao7,apa,apn,ao3,apj,aoY,apQ,apH,aoG] at hu
 simp_all
theorem Y9{t:Tm}(hk:t.kind=10)(hu:bj t=true):True/\t.n=0/\t.field=[]/\t.wn=[]/\t.wk=[]:=by
 unfold bj at hu
 rw[hk] at hu
 rw[show dW 10=[97,107,115] from rfl] at hu
 simp only[mY,show cj [97,107,115] 110=true from rfl,show cj [97,107,115] 97=false from rfl,show cj [97,107,115] 102=true from rfl,show cj [97,107,115] 116=true from rfl,show cj [97,107,115] 107=false from rfl,show cj [97,107,115] 115=false from rfl,aou,aoq,aon,aow,ao7,apa,apn,ao3,apj,aoY,apQ,apH,aoG] at hu
 simp_all
theorem Za{t:Tm}(hk:t.kind=11)(hu:bj t=true):True/\t.n=0/\t.name=[]/\t.field=[]/\t.names=[]:=by
 unfold bj at hu
 rw[hk] at hu
 rw[show dW 11=[116,107] from rfl] at hu
 simp only[mY,show cj [116,107] 110=true from rfl,show cj [116,107] 97=true from rfl,show cj [116,107] 102=true from rfl,show cj [116,107] 116=false from rfl,show cj [116,107] 107=false from rfl,show cj [116,107] 115=true from rfl,aou,aoq,aon,aow,ao7,apa,apn,ao3,apj,aoY,apQ,apH,aoG] at hu
 simp_all
theorem Zb{t:Tm}(hk:t.kind=12)(hu:bj t=true):True/\t.n=0/\t.name=[]/\t.field=[]/\t.wn=[]/\t.wk=[]:=by
 unfold bj at hu
 rw[hk] at hu
 rw[show dW 12=[107,115] from rfl] at hu
 simp only[mY,show cj [107,115] 110=true from rfl,show cj [107,115] 97=true from rfl,show cj [107,115] 102=true from rfl,show cj [107,115] 116=true from rfl,show cj [107,115] 107=false from rfl,show cj [107,115] 115=false from rfl,aou,aoq,aon,aow,ao7,apa,apn,ao3,apj,aoY,apQ,apH,aoG] at hu
 simp_all
theorem Lh{n:Int}(h:0<=n/\n<=11):(dF n).1≠[]:=by
 have:n=0\/n=1\/n=2\/n=3\/n=4\/n=5\/n=6\/n=7\/n=8\/n=9\/n=10\/n=11:=by omega
 rcases this with rfl|rfl|rfl|rfl|rfl|rfl|rfl|rfl|rfl|rfl|rfl|rfl<;>decide
theorem Hw{n:Int}(h:¬ (0<=n/\n<=11)):dF n=([],0):=by unfold dF;rw[if_pos (by omega)]
theorem afK{t:Tm}(hk:t.kind=0)(hu:bj t=true):ai t=decide (-1099511627776<=t.n/\t.n<=1099511627776):=by
 obtain⟨-,h0,h1,h2,h3,h4,h5⟩:=agE hk hu
 rw[fe,dp]
 unfold mr oS mb pI pJ oT oU pK
 simp[hk,h0,h1,h2,h3,h4,h5,bF,iJ]
 rw[Bool.eq_iff_iff]
 simp
theorem afL{t:Tm}(hk:t.kind=1)(hu:bj t=true):ai t=decide (t.n=0\/t.n=1):=by
 obtain⟨-,h0,h1,h2,h3,h4,h5⟩:=agF hk hu
 rw[fe,dp]
 unfold mr oS mb pI pJ oT oU pK
 simp[hk,h0,h1,h2,h3,h4,h5,bF,iJ]
theorem afM{t:Tm}(hk:t.kind=2)(hu:bj t=true):ai t=isWord t.name:=by
 obtain⟨-,h0,h1,h2,h3,h4,h5⟩:=agG hk hu
 rw[fe,dp]
 unfold mr oS mb pI pJ oT oU pK
 simp[hk,h0,h1,h2,h3,h4,h5,bF,iJ]
theorem afN{t:Tm}(hk:t.kind=3)(hu:bj t=true):ai t=(cD t.name&&t.kids.all ai):=by
 obtain⟨-,h0,h1,h2,h3,h4⟩:=agH hk hu
 rw[fe,dp]
 unfold mr oS mb pI pJ oT oU pK
 simp[hk,h0,h1,h2,h3,h4,bF,iJ]
theorem YX{t:Tm}(hk:t.kind=4)(hu:bj t=true):ai t=(decide (0<=t.n/\t.n<=11)&&gr t (if (dF t.n).2=7 then 1 else 2) 0&&t.kids.all ai):=by
 obtain⟨-,h0,h1,h2,h3,h4⟩:=ac6 hk hu
 rw[fe,dp]
 unfold mr oS mb pI pJ oT oU pK gr
 by_cases hn:0<=t.n/\t.n<=11
 ·have h9:=Lh hn
  obtain⟨Ug,hn2⟩:=hn
  by_cases h7:(dF t.n).2=7
  ·simp[hk,h0,h1,h2,h3,h4,bF,iJ,h9,h7,Ug,hn2]
  ·simp[hk,h0,h1,h2,h3,h4,bF,iJ,h9,h7,Ug,hn2]
 have h9:=Hw hn
 have hd:decide (0<=t.n/\t.n<=11)=false:=ao1 hn
 rw[hd]
 simp[hk,h0,h1,h2,h3,h4,bF,iJ,h9]
theorem afO{t:Tm}(hk:t.kind=5)(hu:bj t=true):ai t=(gr t 3 0&&t.kids.all ai):=by
 obtain⟨-,h0,h1,h2,h3,h4,h5⟩:=agI hk hu
 rw[fe,dp]
 unfold mr oS mb pI pJ oT oU pK gr
 simp[hk,h0,h1,h2,h3,h4,h5,bF,iJ]
theorem afP{t:Tm}(hk:t.kind=6)(hu:bj t=true):ai t=(gr t 2 1&&t.names.all isWord&&t.kids.all ai):=by
 obtain⟨-,h0,h1,h2,h3,h4⟩:=agJ hk hu
 rw[fe,dp]
 unfold mr oS mb pI pJ oT oU pK gr
 simp[hk,h0,h1,h2,h3,h4,bF,iJ]
theorem YY{t:Tm}(hk:t.kind=7)(hu:bj t=true):ai t=(decide ((t.names.length:Int)=t.kids.length)&&t.names.all isWord&&cD t.name&&t.kids.all ai):=by
 obtain⟨-,h0,h1,h2,h3⟩:=agK hk hu
 rw[fe,dp]
 unfold mr oS mb pI pJ oT oU pK
 simp[hk,h0,h1,h2,h3,bF,iJ]
theorem YZ{t:Tm}(hk:t.kind=8)(hu:bj t=true):ai t=(decide ((t.kids.length:Int)=1)&&cD t.name&&isWord t.field&&t.kids.all ai):=by
 obtain⟨-,h0,h1,h2,h3⟩:=ac7 hk hu
 rw[fe,dp]
 unfold mr oS mb pI pJ oT oU pK
 simp[hk,h0,h1,h2,h3,bF,iJ]
theorem Y0{t:Tm}(hk:t.kind=9)(hu:bj t=true):ai t=(decide ((t.kids.length:Int)=1)&&cD t.name&&isWord t.field&&t.kids.all ai):=by
 obtain⟨-,h0,h1,h2,h3⟩:=ac8 hk hu
 rw[fe,dp]
 unfold mr oS mb pI pJ oT oU pK
 simp[hk,h0,h1,h2,h3,bF,iJ]
theorem RT{t:Tm}(hk:t.kind=10)(hu:bj t=true):ai t=(decide (2<=t.kids.length)&&decide ((t.names.length:Int)=2*((t.kids.length:Int)-1))&&t.names.all isWord&&cD t.name&&t.kids.all ai):=by
 obtain⟨-,h0,h1,h2,h3⟩:=Y9 hk hu
 rw[fe,dp]
 unfold mr oS mb pI pJ oT oU pK
 by_cases h7:t.kids.length<2
 ·have h8:decide (2<=t.kids.length)=false:=ao1 (by omega)
  rw[h8]
  simp[hk,h0,h1,h2,h3,bF,iJ,h7]
 have h8:decide (2<=t.kids.length)=true:=decide_eq_true (by omega)
 rw[h8]
 simp[hk,h0,h1,h2,h3,bF,iJ,h7]
theorem abS{t:Tm}(hk:t.kind=11)(hu:bj t=true):ai t=(bc (.mk t.wn t.wk)&&t.kids.all ai):=by
 obtain⟨-,h0,h1,h2,h3⟩:=Za hk hu
 rw[fe,dp]
 unfold mr oS mb pI pJ oT oU pK
 simp[hk,h0,h1,h2,h3,bF,iJ]
theorem abT{t:Tm}(hk:t.kind=12)(hu:bj t=true):ai t=(gr t 3 2&&t.names.all isWord&&t.kids.all ai):=by
 obtain⟨-,h0,h1,h2,h3,h4⟩:=Zb hk hu
 rw[fe,dp]
 unfold mr oS mb pI pJ oT oU pK gr
 simp[hk,h0,h1,h2,h3,h4,bF,iJ]
section
theorem G0{ks:List Tm} : ∀ i,i<=ks.length->xx ks i=(ks.take i).all ai
 | 0,_=>by simp[xx]
 | i+1,h=>by
  have hx:=an' (show i<ks.length by omega)
  have hg:ks.getD i j5=ks[i]:=by rw[List.getD,hx];rfl
  rw[zb,G0 i (by omega),gE hx,List.all_append,hg];simp
theorem rV{ks:List Tm} : xx ks ks.length=ks.all ai:=by rw[G0 _ (aoa _),apm]
theorem uQ{ob:Nat->Bool}{ks:List Tm} : ∀ i,xc ob ks i=((List.range i).all ob&&xx ks i)
 | 0=>rfl
 | i+1=>by
  rw[GZ,zb,uQ i,List.range_succ,List.all_append]
  simp only[ao6,apd,Bool.and_true]
  cases (List.range i).all ob<;>cases xx ks i<;>cases ob i<;>cases ai (ks.getD i j5)<;>rfl
theorem uR{ks:List Tm} : xc (fun _=>true) ks ks.length=ks.all ai:=by
 rw[uQ,rV]
 have:(List.range ks.length).all (fun _=>true)=true:=by simp
 rw[this,aou]
theorem yQ{tb:Nat->List bq}{ks:List Tm} : ∀ i,i<=ks.length->CM tb ks i=((ks.take i).zipIdx.map fun p=>tb p.2++ay p.1)
 | 0,_=>by simp[CM]
 | i+1,h=>by
  have hx:=an' (show i<ks.length by omega)
  have hg:ks.getD i j5=ks[i]:=by rw[List.getD,hx];rfl
  have hl:(ks.take i).length=i:=by rw[List.length_take];omega
  rw[Gz,yQ i (by omega),gE hx,hg,List.zipIdx_append,List.map_append,hl];simp
theorem K0{ks:List Tm} : CM (fun _=>[]) ks ks.length=ks.map ay:=by
 rw[yQ _ (aoa _),apm]
 simp only[ao8]
 have:∀ (l:List Tm) (k:Nat),(l.zipIdx k).map (fun p=>ay p.1)=l.map ay:=by
  intro l;induction l with
  | nil=>intro k;rfl
  | cons a r ih=>intro k;simp only[List.zipIdx_cons,aoh,ih]
 exact this ks 0
theorem VY{ks:List Tm}{ns:List bq}(h:ns.length=ks.length):CM (fun j=>[ns.getD j [],[61]]) ks ks.length=List.zipWith (fun s (x:List bq × Int)=>[s,[61]]++x.1) ns (ks.map fun t=>(ay t,dL t)):=by
 rw[yQ _ (aoa _),apm]
 have:∀ (l:List Tm) (m:List bq) (k:Nat),m.length=l.length->(∀ j,j<l.length->ns.getD (k+j) []=m.getD j [])->(l.zipIdx k).map (fun p=>[ns.getD p.2 [],[61]]++ay p.1)=List.zipWith (fun s (x:List bq × Int)=>[s,[61]]++x.1) m (l.map fun t=>(ay t,dL t)):=by
  intro l;induction l with
  | nil=>intro m k hm _;cases m with|nil=>rfl|cons a r=>simp at hm
  | cons a r ih =>
   intro m k hm hg
   cases m with
   | nil=>simp at hm
   | cons b q =>
    have h0:=hg 0 (by simp)
    simp only[aps] at h0
    simp only[List.zipIdx_cons,aoh,List.zipWith_cons_cons,h0]
    rw[ih q (k+1) (by simpa using hm) (fun j hj=>by
     have:=hg (j+1) (by simp;omega)
     rw[show k+(j+1)=k+1+j by omega] at this
     rw[this];rfl)]
    rfl
 exact this ks ns 0 h (fun j _=>by rw[Nat.zero_add])
theorem M8{ns:List bq} : (List.range ns.length).all (fun j=>isWord (ns.getD j []))=ns.all isWord:=by
 rw[Bool.eq_iff_iff,aof,aof]
 constructor
 ·intro h x hx
  obtain⟨i,hi⟩:=aoM hx
  have hl:=(an9.1 hi).1
  have:=h i (by simpa using hl)
  rwa [List.getD,hi] at this
 ·intro h j hj
  have hl:j<ns.length:=by simpa using hj
  rw[getD_at hl]
  exact h _ (aoW hl)
section
variable {n:Int}{a f p q r u:bq}{w:Wd}{ns:List bq}{tl:List (List bq × Int)}{x y z:List bq × Int}
theorem b0:fz 0 n a f w ns tl=if n<0 then [[45],mF (-n).toNat] else [mF n.toNat]:=rfl
theorem b1:fz 1 n a f w ns tl=[if n=0 then [102,97,108,115,101] else [116,114,117,101]]:=rfl
theorem b2:fz 2 n a f w ns tl=[a]:=rfl
theorem b3:fz 3 n a f w ns tl=cA a++[[40]]++aO (tl.map (·.1))++[[41]]:=rfl
theorem b4a:fz 4 n a f w ns [x]=[(dF n).1]++oc x 7:=rfl
theorem b4b:fz 4 n a f w ns [x,y]=oc x (if (dF n).2=3 then 4 else (dF n).2)++[(dF n).1]++oc y ((dF n).2+1):=rfl
theorem b5:fz 5 n a f w ns [x,y,z]=[[105,102]]++x.1++[[116,104,101,110]]++y.1++[[101,108,115,101]]++z.1:=rfl
theorem b6:fz 6 n a f w [p] [x,y]=[[108,101,116],p,[61]]++x.1++[[105,110]]++y.1:=rfl
theorem b7:fz 7 n a f w ns tl=cA a++[[123]]++aO (List.zipWith (fun s (x:List bq × Int)=>[s,[61]]++x.1) ns tl)++[[125]]:=rfl
theorem b8:fz 8 n a f w ns [x]=cA a++[[58],f]++[[91]]++x.1++[[93]]:=rfl
theorem b9:fz 9 n a f w ns [x]=cA a++[[58],f]++[[40]]++x.1++[[41]]:=rfl
theorem ahx:fz 10 n a f w [p,q] [x,y]=[[109,97,116,99,104]]++cA a++[[40]]++x.1++[[41]]++[[123]]++([p,q,[45,62]]++y.1)++[[125]]:=rfl
theorem ahy:fz 10 n a f w [p,q,r,u] [x,y,z]=[[109,97,116,99,104]]++cA a++[[40]]++x.1++[[41]]++[[123]]++([p,q,[45,62]]++y.1++[[44]]++[r,u,[45,62]]++z.1)++[[125]]:=rfl
theorem b11:fz 11 n a f w ns tl=[fL]++[[40]]++dh w++[[41]]++[[91]]++aO (tl.map (·.1))++[[93]]:=rfl
theorem b12:fz 12 n a f w [p,q] [x,y,z]=[[102,111,108,100],p,[44],q,[61]]++y.1++[[111,118,101,114]]++x.1++[[100,111]]++z.1:=rfl
end
theorem pt2{a b:bq}{x y:Tm} : NH [a,b] [x,y] 2=[a]++ay x++[b]++ay y:=by simp[NH,List.range_succ]
theorem pt3{a b c:bq}{x y z:Tm} : NH [a,b,c] [x,y,z] 3=[a]++ay x++[b]++ay y++[c]++ay z:=by simp[NH,List.range_succ]
end
theorem PW.Lb{mm:Nat}{K:ah}(h:PW mm K){a b:bZ}(ha:∀ cs,a≠.cS cs)(hb:∀ cs,b≠.cS cs):PW mm (K++[a,b]):=by
 have:=(h.push ha).push hb
 rwa [ao5] at this
theorem xE{mm:Nat}{l:List bq}{b:Bool}{K:ah}(h:PW mm K){x y:bZ} : (cm mm l b (K++[x,y]))[K.length]?=some x:=by rw[Dr (by have:=h.lt;omega)];exact CA
theorem xF{mm:Nat}{l:List bq}{b:Bool}{K:ah}(h:PW mm K){x y:bZ} : (cm mm l b (K++[x,y]))[K.length+1]?=some y:=by rw[Dr (by have:=h.lt;omega)];exact HS
theorem BY{A:AP}{T:aQ}{H:ah}{lo gen t ty l off:Nat}{os:List aM}{K:AS->Prop}(h:l<=H.length):Is A ty (.ref l off) t os T H lo gen K=WO A false os ⟨T.put t (.ref H.length 0),H++[.box ty [.ref l off]],cond (Nat.blt H.length lo) H.length lo,gen⟩ K:=by
 simp only[Is,AV.drop,AV.cells,aoe,ao6,apd,bo,aoR h,Bool.and_true,cond_true]
 exact aH
theorem RO{b x y:Bool}(h:(b || !(x&&y))=false):(b || !x)=false:=by cases b<;>cases x<;>simp_all
structure TyH (mm:Nat) (t:Tm) (n:Nat) (K:ah):Prop where
 p:PW mm K
 w:∀ l b,(cm mm l b K)[n]?=some (.box 94 [.ref mm 0])
 t:∀ l b,(cm mm l b K)[n+1]?=some (.box 43 [.int .i64 t.kind,.int .i64 t.n,.str t.name,.str t.field,.str t.wn,.slice (az t.wk) false,.slice (au t.kids) false,.slice (strs t.names) false])
theorem Zr{mm n:Nat}{t:Tm}{K:ah}(h:TyH mm t n K)(i:Nat)(hi:i<t.names.length)(zT:∀ s∈t.names,s.length<=20):Bef mm K 125 [.ref n 0,.ref (n+1) 0] i (isWord (t.names.getD i [])) [t.names.getD i [],[61]] 2:=by
 intro l b hl
 have fE:=iI hi
 have uD:=nB zT i
 generalize t.names.getD i []=s at fE uD ⊢
 obtain⟨l1,e1,t1,n1⟩:=iY h.p s (by omega) l b (by omega)
 obtain⟨l2,e2,t2,n2⟩:=fi h.p [[61]] (by simp) l1 (b || !isWord s) (by simp only[an5,an6];omega)
 simp only[an5,an6] at n2
 rw[pk,tQ] at e2
 rw[pk] at t2
 refine⟨l2,_,?_,.inl rfl,fun hp=>by rw[t2 hp,t1 hp];simp,by omega⟩
 refine aB (fn:=Gr) rfl rfl rfl ?_
 unfold Gr
 have hw:=h.w
 have ht:=h.t
 have bf:=h.p.lt
 have ho:=h.p.open l2 (b || !isWord s)
 generalize (b || !isWord s)=b1 at *
 simp(disch:=omega)only[aP,aa,simprocAttr,hw,ht,fE,e1,e2,fF,ho,ar,aoc,aob,an8,cond_true,aA,aq,ak,an3,an4,ab]
theorem Zq{mm n:Nat}{t:Tm}{K:ah}(h:TyH mm t n K)(i:Nat)(hi:2*i+1<t.names.length)(qk:t.names.length<=100)(zT:∀ s∈t.names,s.length<=20) :
  Bef mm K 124 [.ref n 0,.ref (n+1) 0] i (isWord (t.names.getD (2*i) [])&&isWord (t.names.getD (2*i+1) [])) [t.names.getD (2*i) [],t.names.getD (2*i+1) [],[45,62]] 3:=by
 intro l b hl
 have fE:=iI (show 2*i<t.names.length by omega)
 have O4:=iI hi
 have uD:=nB zT (2*i)
 have aiM:=nB zT (2*i+1)
 generalize t.names.getD (2*i) []=s at fE uD ⊢
 generalize t.names.getD (2*i+1) []=s2 at O4 aiM ⊢
 obtain⟨l1,e1,t1,n1⟩:=iY h.p s (by omega) l b (by omega)
 obtain⟨l2,e2,t2,n2⟩:=iY h.p s2 (by omega) l1 (b || !isWord s) (by omega)
 rw[RP] at e2 t2
 obtain⟨l3,e3,t3,n3⟩:=fi h.p [[45,62]] (by simp) l2 (b || !(isWord s&&isWord s2)) (by simp only[an5,an6];omega)
 simp only[an5,an6] at n3
 rw[pk,tQ] at e3
 rw[pk] at t3
 refine⟨l3,_,?_,.inl rfl,fun hp=>?_,by omega⟩
 ·refine aB (fn:=Gq) rfl rfl rfl ?_
  unfold Gq
  have hw:=h.w
  have ht:=h.t
  have bf:=h.p.lt
  have ho:=h.p.open l3 (b || !(isWord s&&isWord s2))
  have en:asNat (.int .i64 (2*(i:Int)))=some (2*i):=by rw[fX (by omega)];congr 1
  have ZF:asNat (.int .i64 (2*(i:Int)+1))=some (2*i+1):=by rw[fX (by omega)];congr 1
  generalize (b || !(isWord s&&isWord s2))=b2 at *
  generalize (b || !isWord s)=b1 at *
  simp(disch:=omega)only[aP,aa,simprocAttr,hw,ht,fE,O4,en,ZF,e1,e2,e3,fF,ho,ar,aoc,aob,an8,cond_true,aA,aq,ak,an3,an4,ab]
 ·have h1:(b || !isWord s)=false:=RO hp
  rw[t3 hp,t2 hp,t1 h1];simp
def oM(mm:Nat)(K:ah)(f:FuncId)(args:List AV)(ok:Bool)(SS:List bq)(n:Nat):Prop :=
 ∀ l,l.length+n<=1000000->∃ l',aD A f args (cm mm l false K)=some (.undef,some ⟨cm mm l' (!ok) K,mm⟩)/\(ok=true->l'=l++SS)/\l'.length<=l.length+n
theorem SX{n:Nat}(hn:n<=10000){t:Tm}(hk:t.kind=8)(hu:bj t=true)(A6:t.name.length<=20)(yF:t.field.length<=20)(fV:∀ u∈t.kids,jO n u){mm:Nat}{K:ah}(hP:PW mm K):oM mm K 95 [.ref mm 0,.agg (cE t)] (ai t) (ay t) (n+7):=by
 intro l hl
 have lM:=YZ hk hu
 have hF:=ac7 hk hu
 rw[lM]
 rw[an]
 have dQ:PW mm (K++[.box 94 [.ref mm 0],.box 43 [.int .i64 t.kind,.int .i64 t.n,.str t.name,.str t.field,.str t.wn,.slice (az t.wk) false,.slice (au t.kids) false,.slice (strs t.names) false]]):=hP.Lb (fun cs e=>by cases e) (fun cs e=>by cases e)
 have hH:TyH mm t K.length (K++[.box 94 [.ref mm 0],.box 43 [.int .i64 t.kind,.int .i64 t.n,.str t.name,.str t.field,.str t.wn,.slice (az t.wk) false,.slice (au t.kids) false,.slice (strs t.names) false]]):=⟨dQ,fun l b=>xE hP,fun l b=>xF hP⟩
 have bX:=lS (l:=l) (b:=false) hP (L:=[.box 94 [.ref mm 0],.box 43 [.int .i64 t.kind,.int .i64 t.n,.str t.name,.str t.field,.str t.wn,.slice (az t.wk) false,.slice (au t.kids) false,.slice (strs t.names) false]])
 have hT:=fun l b=>kE (l:=l) (b:=b) hP (L:=[.box 94 [.ref mm 0],.box 43 [.int .i64 t.kind,.int .i64 t.n,.str t.name,.str t.field,.str t.wn,.slice (az t.wk) false,.slice (au t.kids) false,.slice (strs t.names) false]])
 have hO:=fun l b=>hP.Br (L:=[.box 94 [.ref mm 0],.box 43 [.int .i64 t.kind,.int .i64 t.n,.str t.name,.str t.field,.str t.wn,.slice (az t.wk) false,.slice (au t.kids) false,.slice (strs t.names) false]]) l b
 have bf:=hP.lt
 have vF:=fun (ty off t:Nat) (os:List aM) (T:aQ) (lo gen:Nat) (Q:AS->Prop)=>BY (A:=A) (T:=T) (H:=cm mm l false K) (lo:=lo) (gen:=gen) (t:=t) (ty:=ty) (l:=mm) (off:=off) (os:=os) (K:=Q) (by rw[aA];omega)
 have nE:decide (K.length+1<K.length)=false:=by simp
 generalize K++[.box 94 [.ref mm 0],.box 43 [.int .i64 t.kind,.int .i64 t.n,.str t.name,.str t.field,.str t.wn,.slice (az t.wk) false,.slice (au t.kids) false,.slice (strs t.names) false]]=K1 at dQ hH bX hT hO
 have hw:=hH.w
 have ht:=hH.t
 obtain⟨l1,e1,t1,n1⟩:=pw dQ t.name (by omega) l false (by omega)
 rw[aon] at e1 t1
 have hv:=qK dQ t 1 0 l1 (!cD t.name)
 rw[an] at hv
 have hn0:(t.names.length:Int)=0:=by rw[show t.names=[] from by simp_all];rfl
 have Pf:gr t 1 0=decide ((t.kids.length:Int)=1):=by unfold gr;rw[decide_eq_true hn0,Bool.and_true]
 rw[Pf] at hv
 by_cases hg:(decide ((t.kids.length:Int)=1)&&cD t.name)=true
 ·rw[hg,aou]
  simp only[aod,aov] at hg
  obtain⟨g1,g2⟩:=hg
  obtain⟨x,hx⟩:∃ x,t.kids=[x]:=by
   have:t.kids.length=1:=by omega
   exact GP this
  have Jm:=fV x (by rw[hx];simp)
  have fE:(au t.kids)[0]?=some (cE x):=by rw[hx];simp[au]
  unfold jO at Jm
  rw[an x] at fE Jm
  rw[decide_eq_true g1,g2] at hv
  rw[g2] at e1 t1
  simp only[aom,ao4,aoj] at e1 t1 hv
  obtain⟨l2,e2,t2,n2⟩:=fi dQ [[58]] (by simp) l1 false (by simp only[an5,an6];omega)
  obtain⟨l3,e3,t3,n3⟩:=iY dQ t.field (by omega) l2 false (by simp only[an5,an6] at n2;omega)
  obtain⟨l4,e4,t4,n4⟩:=fi dQ [[91]] (by simp) l3 (!isWord t.field) (by simp only[an5,an6] at n2 ⊢;omega)
  simp only[an5,an6] at n2 n4
  obtain⟨l5,e5,t5,n5⟩:=Jm mm K1 dQ l4 (!isWord t.field) (by omega)
  obtain⟨l6,e6,t6,n6⟩:=fi dQ [[93]] (by simp) l5 (!isWord t.field || !ai x) (by simp only[an5,an6];omega)
  simp only[an5,an6] at n6
  simp only[pk,tQ,aon] at e2 e3 e4 e5 e6 t2 t3 t4 t5 t6
  have dA:t.kids.all ai=ai x:=by rw[hx];simp
  rw[dA]
  have eo:(!isWord t.field || !ai x)=!(isWord t.field&&ai x):=by cases isWord t.field<;>cases ai x<;>rfl
  rw[eo] at e5 e6 t5 t6
  refine⟨l6,?_,fun hp=>?_,by omega⟩
  ·refine aB (fn:=nL) rfl rfl rfl ?_
   unfold nL
   have ho:=hO l6 (!(isWord t.field&&ai x))
   generalize (!(isWord t.field&&ai x))=b6 at *
   generalize (!isWord t.field)=b3 at *
   simp(disch:=omega)only[aP,aa,simprocAttr,bX,vF,hw,ht,fE,hv,e1,e2,e3,e4,e5,e6,hT,ho,nE,ar,aoc,aob,an8,cond_true,aA,aq,ak,an3,an4,ab]
  ·have hf:isWord t.field=true:=by cases h:isWord t.field<;>simp_all
   have Pu:ai x=true:=by cases h:ai x<;>simp_all
   rw[t6 (by simp[hf,Pu]),t5 (by simp[hf,Pu]),t4 (by simp[hf]),t3 (by simp[hf]),t2 (by trivial),t1 (by trivial),cu t,hx,hk]
   simp[b8]
 ·have hg' : (decide ((t.kids.length:Int)=1)&&cD t.name)=false:=by cases h:(decide ((t.kids.length:Int)=1)&&cD t.name)<;>simp_all
  rw[hg',aoq,aoq]
  have eb:(!cD t.name || !decide ((t.kids.length:Int)=1))=true:=by cases h1:decide ((t.kids.length:Int)=1)<;>cases h2:cD t.name<;>simp_all
  rw[eb] at hv
  refine⟨l1,?_,(fun h=>by cases h),by omega⟩
  refine aB (fn:=nL) rfl rfl rfl ?_
  unfold nL
  have ho:=hO l1 true
  generalize (!cD t.name)=b1 at *
  simp(disch:=omega)only[aP,aa,simprocAttr,bX,vF,hw,ht,hv,e1,hT,ho,nE,aom,aoj,ar,aoc,aob,an8,cond_true,aA,aq,ak,an3,an4,ab]
theorem SY{n:Nat}(hn:n<=10000){t:Tm}(hk:t.kind=9)(hu:bj t=true)(A6:t.name.length<=20)(yF:t.field.length<=20)(fV:∀ u∈t.kids,jO n u){mm:Nat}{K:ah}(hP:PW mm K):oM mm K 95 [.ref mm 0,.agg (cE t)] (ai t) (ay t) (n+7):=by
 intro l hl
 have lM:=Y0 hk hu
 have hF:=ac8 hk hu
 rw[lM]
 rw[an]
 have dQ:PW mm (K++[.box 94 [.ref mm 0],.box 43 [.int .i64 t.kind,.int .i64 t.n,.str t.name,.str t.field,.str t.wn,.slice (az t.wk) false,.slice (au t.kids) false,.slice (strs t.names) false]]):=hP.Lb (fun cs e=>by cases e) (fun cs e=>by cases e)
 have hH:TyH mm t K.length (K++[.box 94 [.ref mm 0],.box 43 [.int .i64 t.kind,.int .i64 t.n,.str t.name,.str t.field,.str t.wn,.slice (az t.wk) false,.slice (au t.kids) false,.slice (strs t.names) false]]):=⟨dQ,fun l b=>xE hP,fun l b=>xF hP⟩
 have bX:=lS (l:=l) (b:=false) hP (L:=[.box 94 [.ref mm 0],.box 43 [.int .i64 t.kind,.int .i64 t.n,.str t.name,.str t.field,.str t.wn,.slice (az t.wk) false,.slice (au t.kids) false,.slice (strs t.names) false]])
 have hT:=fun l b=>kE (l:=l) (b:=b) hP (L:=[.box 94 [.ref mm 0],.box 43 [.int .i64 t.kind,.int .i64 t.n,.str t.name,.str t.field,.str t.wn,.slice (az t.wk) false,.slice (au t.kids) false,.slice (strs t.names) false]])
 have hO:=fun l b=>hP.Br (L:=[.box 94 [.ref mm 0],.box 43 [.int .i64 t.kind,.int .i64 t.n,.str t.name,.str t.field,.str t.wn,.slice (az t.wk) false,.slice (au t.kids) false,.slice (strs t.names) false]]) l b
 have bf:=hP.lt
 have vF:=fun (ty off t:Nat) (os:List aM) (T:aQ) (lo gen:Nat) (Q:AS->Prop)=>BY (A:=A) (T:=T) (H:=cm mm l false K) (lo:=lo) (gen:=gen) (t:=t) (ty:=ty) (l:=mm) (off:=off) (os:=os) (K:=Q) (by rw[aA];omega)
 have nE:decide (K.length+1<K.length)=false:=by simp
 generalize K++[.box 94 [.ref mm 0],.box 43 [.int .i64 t.kind,.int .i64 t.n,.str t.name,.str t.field,.str t.wn,.slice (az t.wk) false,.slice (au t.kids) false,.slice (strs t.names) false]]=K1 at dQ hH bX hT hO
 have hw:=hH.w
 have ht:=hH.t
 obtain⟨l1,e1,t1,n1⟩:=pw dQ t.name (by omega) l false (by omega)
 rw[aon] at e1 t1
 have hv:=qK dQ t 1 0 l1 (!cD t.name)
 rw[an] at hv
 have hn0:(t.names.length:Int)=0:=by rw[show t.names=[] from by simp_all];rfl
 have Pf:gr t 1 0=decide ((t.kids.length:Int)=1):=by unfold gr;rw[decide_eq_true hn0,Bool.and_true]
 rw[Pf] at hv
 by_cases hg:(decide ((t.kids.length:Int)=1)&&cD t.name)=true
 ·rw[hg,aou]
  simp only[aod,aov] at hg
  obtain⟨g1,g2⟩:=hg
  obtain⟨x,hx⟩:∃ x,t.kids=[x]:=by
   have:t.kids.length=1:=by omega
   exact GP this
  have Jm:=fV x (by rw[hx];simp)
  have fE:(au t.kids)[0]?=some (cE x):=by rw[hx];simp[au]
  unfold jO at Jm
  rw[an x] at fE Jm
  rw[decide_eq_true g1,g2] at hv
  rw[g2] at e1 t1
  simp only[aom,ao4,aoj] at e1 t1 hv
  obtain⟨l2,e2,t2,n2⟩:=fi dQ [[58]] (by simp) l1 false (by simp only[an5,an6];omega)
  obtain⟨l3,e3,t3,n3⟩:=iY dQ t.field (by omega) l2 false (by simp only[an5,an6] at n2;omega)
  obtain⟨l4,e4,t4,n4⟩:=fi dQ [[40]] (by simp) l3 (!isWord t.field) (by simp only[an5,an6] at n2 ⊢;omega)
  simp only[an5,an6] at n2 n4
  obtain⟨l5,e5,t5,n5⟩:=Jm mm K1 dQ l4 (!isWord t.field) (by omega)
  obtain⟨l6,e6,t6,n6⟩:=fi dQ [[41]] (by simp) l5 (!isWord t.field || !ai x) (by simp only[an5,an6];omega)
  simp only[an5,an6] at n6
  simp only[pk,tQ,aon] at e2 e3 e4 e5 e6 t2 t3 t4 t5 t6
  have dA:t.kids.all ai=ai x:=by rw[hx];simp
  rw[dA]
  have eo:(!isWord t.field || !ai x)=!(isWord t.field&&ai x):=by cases isWord t.field<;>cases ai x<;>rfl
  rw[eo] at e5 e6 t5 t6
  refine⟨l6,?_,fun hp=>?_,by omega⟩
  ·refine aB (fn:=nL) rfl rfl rfl ?_
   unfold nL
   have ho:=hO l6 (!(isWord t.field&&ai x))
   generalize (!(isWord t.field&&ai x))=b6 at *
   generalize (!isWord t.field)=b3 at *
   simp(disch:=omega)only[aP,aa,simprocAttr,bX,vF,hw,ht,fE,hv,e1,e2,e3,e4,e5,e6,hT,ho,nE,ar,aoc,aob,an8,cond_true,aA,aq,ak,an3,an4,ab]
  ·have hf:isWord t.field=true:=by cases h:isWord t.field<;>simp_all
   have Pu:ai x=true:=by cases h:ai x<;>simp_all
   rw[t6 (by simp[hf,Pu]),t5 (by simp[hf,Pu]),t4 (by simp[hf]),t3 (by simp[hf]),t2 (by trivial),t1 (by trivial),cu t,hx,hk]
   simp[b9]
 ·have hg' : (decide ((t.kids.length:Int)=1)&&cD t.name)=false:=by cases h:(decide ((t.kids.length:Int)=1)&&cD t.name)<;>simp_all
  rw[hg',aoq,aoq]
  have eb:(!cD t.name || !decide ((t.kids.length:Int)=1))=true:=by cases h1:decide ((t.kids.length:Int)=1)<;>cases h2:cD t.name<;>simp_all
  rw[eb] at hv
  refine⟨l1,?_,(fun h=>by cases h),by omega⟩
  refine aB (fn:=nL) rfl rfl rfl ?_
  unfold nL
  have ho:=hO l1 true
  generalize (!cD t.name)=b1 at *
  simp(disch:=omega)only[aP,aa,simprocAttr,bX,vF,hw,ht,hv,e1,hT,ho,nE,aom,aoj,ar,aoc,aob,an8,cond_true,aA,aq,ak,an3,an4,ab]
theorem RX{mm:Nat}{K:ah}(h:PW mm K)(xs l:List bq)(b:Bool)(hx:xs.length<=1000)(hl:l.length+xs.length<=1000000):aD A 41 [.ref mm 0,.slice (strs xs) false] (cm mm l b K)=some (.undef,some ⟨cm mm (l++xs) b K,mm⟩):=by
 refine aB (fn:=CI) rfl rfl rfl ?_
 unfold CI
 have h0:=ff (l:=l) (b:=b) h
 unfold lB at h0
 have a1:aC false 1 16 (.slice (strs l) true) (.slice (strs xs) false)=some (.slice (strs (l++xs)) true):=cb (by omega)
 have bf:=h.lt
 have ho:=h.open (l++xs) b
 have h1:∀ x:bZ,((cm mm l b K).set mm x)[mm]?=some x:=fun x=>List.getElem?_set_self (by rw[aA];exact bf)
 simp(disch:=omega)only[aP,aa,simprocAttr,h0,h1,a1,aA,rz,List.set_set,fF,ho,aq,ak,an3,an4,ab]
theorem Sx(n:Int):0<=(dF n).2/\(dF n).2<=7:=by
 by_cases h:0<=n/\n<=11
 ·have:n=0\/n=1\/n=2\/n=3\/n=4\/n=5\/n=6\/n=7\/n=8\/n=9\/n=10\/n=11:=by omega
  rcases this with rfl|rfl|rfl|rfl|rfl|rfl|rfl|rfl|rfl|rfl|rfl|rfl<;>decide
 ·rw[Hw h];decide
theorem abP{n:Nat}(hn:n<=9000){t:Tm}(hk:t.kind=4)(hu:bj t=true)(fV:∀ u∈t.kids,jO n u){mm:Nat}{K:ah}(hP:PW mm K):oM mm K 92 [.ref mm 0,.agg (cE t)] (ai t) (ay t) (2*n+5):=by
 intro l hl
 have lM:=YX hk hu
 have hF:=ac6 hk hu
 rw[lM]
 have ou:=cu t
 rw[hk] at ou
 rw[an]
 obtain⟨K1,dQ,bX,da,hT,hO⟩:=lH hP t
 have bf:=hP.lt
 have hs:=fun K=>Hx t.n K
 have hn0:(t.names.length:Int)=0:=by rw[show t.names=[] from by simp_all];rfl
 have hc:=fun ok=>fq dQ ok l false
 have hv:=fun k b=>qK dQ t k 0 l b
 rw[an] at hv
 have Pf:∀ k,gr t k 0=decide ((t.kids.length:Int)=k):=fun k=>by unfold gr;rw[decide_eq_true hn0,Bool.and_true]
 rw[Pf]
 by_cases hr:0<=t.n/\t.n<=11
 ·have hsw:lq t.n=dF t.n:=Lg (by omega)
  have dn:=Lh hr
  obtain⟨v0,v7⟩:=Sx t.n
  rw[hsw] at hs
  rw[decide_eq_true hr,aou]
  generalize hsg:dF t.n=sg at *
  obtain⟨s,lv⟩:=sg
  simp only at dn v0 v7 hs ⊢
  have hse:(s==[])=false:=by simpa using dn
  by_cases h7:lv=7
  ·subst h7
   rw[if_pos rfl]
   have hc:=hc true
   have hv:=hv 1 false
   rw[Pf] at hv
   simp only[aom,aow,aon] at hc hv
   by_cases g1:(t.kids.length:Int)=1
   ·rw[decide_eq_true g1] at hv ⊢
    rw[aou]
    simp only[aom,aoj] at hv
    obtain⟨x,hx⟩:∃ x,t.kids=[x]:=GP (by omega)
    have Jm:=fV x (by rw[hx];simp)
    have fE:(au t.kids)[0]?=some (cE x):=by rw[hx];simp[au]
    obtain⟨l1,e1,t1,n1⟩:=fi dQ [s] (by simp) l false (by simp only[an5,an6];omega)
    simp only[an5,an6] at n1
    obtain⟨l2,e2,t2,n2⟩:=JE Jm 7 dQ l1 false (by omega)
    simp only[pk,tQ,aon] at e1 e2 t1 t2
    rw[an x] at fE e2
    have dA:t.kids.all ai=ai x:=by rw[hx];simp
    rw[dA]
    refine⟨l2,?_,fun hp=>?_,by omega⟩
    ·refine aB (fn:=vO) rfl rfl rfl ?_
     unfold vO
     have ho:=hO l2 (!ai x)
     generalize (!ai x)=b2 at *
     simp(disch:=omega)only[aP,aa,simprocAttr,bX,da,hs,bne,hse,hc,hv,fE,e1,e2,hT,ho,aoj,ar,aoc,aob,an8,cond_true,aA,aq,ak,an3,an4,ab]
    ·rw[t2 (by simp[hp]),t1 (by trivial),ou,hx]
     simp[b4a,b4b,hsg]
   ·rw[ao1 g1] at hv ⊢
    simp only[aoj,aom,aoq] at hv ⊢
    refine⟨l,?_,(fun h=>by cases h),by omega⟩
    refine aB (fn:=vO) rfl rfl rfl ?_
    unfold vO
    have ho:=hO l true
    simp(disch:=omega)only[aP,aa,simprocAttr,bX,da,hs,bne,hse,hc,hv,hT,ho,aoj,ar,aoc,aob,an8,cond_true,aA,aq,ak,an3,an4,ab]
  ·rw[if_neg h7]
   have hv:=hv 2 false
   rw[Pf] at hv
   simp only[aon] at hv
   by_cases g1:(t.kids.length:Int)=2
   ·rw[decide_eq_true g1] at hv ⊢
    rw[aou]
    simp only[aom,aoj] at hv
    obtain⟨x,y,hx⟩:∃ x y,t.kids=[x,y]:=GQ (by omega)
    have Jm:=fV x (by rw[hx];simp)
    have hky:=fV y (by rw[hx];simp)
    have fE:(au t.kids)[0]?=some (cE x):=by rw[hx];simp[au]
    have aaf:(au t.kids)[1]?=some (cE y):=by rw[hx];simp[au]
    obtain⟨l1,e1,t1,n1⟩:=JE Jm (if lv=3 then 4 else lv) dQ l false (by omega)
    obtain⟨l2,e2,t2,n2⟩:=fi dQ [s] (by simp) l1 (!ai x) (by simp only[an5,an6];omega)
    simp only[an5,an6] at n2
    obtain⟨l3,e3,t3,n3⟩:=JE hky (lv+1) dQ l2 (!ai x) (by omega)
    simp only[pk,tQ,aon] at e1 e2 e3 t1 t2 t3
    rw[an x] at fE e1
    rw[an y] at aaf e3
    have dA:t.kids.all ai=(ai x&&ai y):=by rw[hx];simp
    rw[dA]
    have eo:(!ai x || !ai y)=!(ai x&&ai y):=by cases ai x<;>cases ai y<;>rfl
    rw[eo] at e3 t3
    refine⟨l3,?_,fun hp=>?_,by omega⟩
    ·refine aB (fn:=vO) rfl rfl rfl ?_
     unfold vO
     have ho:=hO l3 (!(ai x&&ai y))
     generalize (!(ai x&&ai y))=b3 at *
     generalize (!ai x)=b2 at *
     by_cases h3:lv=3
     ·subst h3
      rw[if_pos rfl] at e1
      rw[show (3:Int)+1=4 from rfl] at e3
      simp(disch:=omega)only[aP,aa,simprocAttr,bX,da,hs,hv,fE,aaf,e1,e2,e3,hT,ho,aom,ar,aoc,aob,an8,cond_true,aA,aq,ak,an3,an4,ab]
     ·rw[if_neg h3] at e1
      simp(disch:=omega)only[aP,aa,simprocAttr,bX,da,hs,hv,fE,aaf,e1,e2,e3,hT,ho,aom,ar,aoc,aob,an8,cond_true,aA,aq,ak,an3,an4,ab]
    ·have Pu:ai x=true:=by cases h:ai x<;>simp_all
     rw[t3 (by simp[hp]),t2 (by simp[Pu]),t1 (by simp[Pu]),ou,hx]
     simp[b4a,b4b,hsg]
   ·rw[ao1 g1] at hv ⊢
    simp only[aoj,aom,aoq] at hv ⊢
    refine⟨l,?_,(fun h=>by cases h),by omega⟩
    refine aB (fn:=vO) rfl rfl rfl ?_
    unfold vO
    have ho:=hO l true
    simp(disch:=omega)only[aP,aa,simprocAttr,bX,da,hs,hv,hT,ho,aoj,ar,aoc,aob,an8,cond_true,aA,aq,ak,an3,an4,ab]
 ·have hsw:lq t.n=([],7):=by unfold lq;rw[if_pos (by omega)]
  rw[hsw] at hs
  rw[ao1 hr,aoq,aoq]
  have hc:=hc false
  have hv:=hv 1 true
  simp only[aoj,aoL,aoH,aom] at hc hv
  refine⟨l,?_,(fun h=>by cases h),by omega⟩
  refine aB (fn:=vO) rfl rfl rfl ?_
  unfold vO
  have ho:=hO l true
  simp(disch:=omega)only[aP,aa,simprocAttr,bX,da,hs,bne,hc,hv,hT,ho,aoj,aom,aqu,ar,aoc,aob,an8,cond_true,aA,aq,ak,an3,an4,ab]
theorem XZ{t:Tm}(h:ai t=true):bj t=true:=by
 have hO:=xy h
 obtain⟨k0,k12⟩:=zd hO
 have b1:=hO.b1
 have b2:=hO.b2
 have b3:=hO.b3
 have b4:=hO.b4
 have b6:=hO.b6
 unfold oS mb at b1
 unfold pI iJ at b2
 unfold pJ at b3
 unfold oT at b4
 unfold pK at b6
 unfold bj
 rcases tv t.kind with e|e|e|e|e|e|e|e|e|e|e|e|e|e
 ·rw[e,show dW 0=[110] from rfl]
  simp[e,bF] at b1 b2 b3 b4 b6
  simp only[mY,show cj [110] 110=false from rfl,show cj [110] 97=true from rfl,show cj [110] 102=true from rfl,show cj [110] 116=true from rfl,show cj [110] 107=true from rfl,show cj [110] 115=true from rfl]
  simp_all
 ·rw[e,show dW 1=[110] from rfl]
  simp[e,bF] at b1 b2 b3 b4 b6
  simp only[mY,show cj [110] 110=false from rfl,show cj [110] 97=true from rfl,show cj [110] 102=true from rfl,show cj [110] 116=true from rfl,show cj [110] 107=true from rfl,show cj [110] 115=true from rfl]
  simp_all
 ·rw[e,show dW 2=[97] from rfl]
  simp[e,bF] at b1 b2 b3 b4 b6
  simp only[mY,show cj [97] 110=true from rfl,show cj [97] 97=false from rfl,show cj [97] 102=true from rfl,show cj [97] 116=true from rfl,show cj [97] 107=true from rfl,show cj [97] 115=true from rfl]
  simp_all
 ·rw[e,show dW 3=[97,107] from rfl]
  simp[e,bF] at b1 b2 b3 b4 b6
  simp only[mY,show cj [97,107] 110=true from rfl,show cj [97,107] 97=false from rfl,show cj [97,107] 102=true from rfl,show cj [97,107] 116=true from rfl,show cj [97,107] 107=false from rfl,show cj [97,107] 115=true from rfl]
  simp_all
 ·rw[e,show dW 4=[110,107] from rfl]
  simp[e,bF] at b1 b2 b3 b4 b6
  simp only[mY,show cj [110,107] 110=false from rfl,show cj [110,107] 97=true from rfl,show cj [110,107] 102=true from rfl,show cj [110,107] 116=true from rfl,show cj [110,107] 107=false from rfl,show cj [110,107] 115=true from rfl]
  by_cases q1:(dF t.n).1=[]
  ·simp[q1] at b1
  ·by_cases q2:(dF t.n).2=7
   ·simp[q1,q2] at b1;simp_all
   ·simp[q1,q2] at b1;simp_all
 ·rw[e,show dW 5=[107] from rfl]
  simp[e,bF] at b1 b2 b3 b4 b6
  simp only[mY,show cj [107] 110=true from rfl,show cj [107] 97=true from rfl,show cj [107] 102=true from rfl,show cj [107] 116=true from rfl,show cj [107] 107=false from rfl,show cj [107] 115=true from rfl]
  simp_all
 ·rw[e,show dW 6=[107,115] from rfl]
  simp[e,bF] at b1 b2 b3 b4 b6
  simp only[mY,show cj [107,115] 110=true from rfl,show cj [107,115] 97=true from rfl,show cj [107,115] 102=true from rfl,show cj [107,115] 116=true from rfl,show cj [107,115] 107=false from rfl,show cj [107,115] 115=false from rfl]
  simp_all
 ·rw[e,show dW 7=[97,107,115] from rfl]
  simp[e,bF] at b1 b2 b3 b4 b6
  simp only[mY,show cj [97,107,115] 110=true from rfl,show cj [97,107,115] 97=false from rfl,show cj [97,107,115] 102=true from rfl,show cj [97,107,115] 116=true from rfl,show cj [97,107,115] 107=false from rfl,show cj [97,107,115] 115=false from rfl]
  simp_all
 ·rw[e,show dW 8=[97,102,107] from rfl]
  simp[e,bF] at b1 b2 b3 b4 b6
  simp only[mY,show cj [97,102,107] 110=true from rfl,show cj [97,102,107] 97=false from rfl,show cj [97,102,107] 102=false from rfl,show cj [97,102,107] 116=true from rfl,show cj [97,102,107] 107=false from rfl,show cj [97,102,107] 115=true from rfl]
  simp_all
 ·rw[e,show dW 9=[97,102,107] from rfl]
  simp[e,bF] at b1 b2 b3 b4 b6
  simp only[mY,show cj [97,102,107] 110=true from rfl,show cj [97,102,107] 97=false from rfl,show cj [97,102,107] 102=false from rfl,show cj [97,102,107] 116=true from rfl,show cj [97,102,107] 107=false from rfl,show cj [97,102,107] 115=true from rfl]
  simp_all
 ·rw[e,show dW 10=[97,107,115] from rfl]
  simp[e,bF] at b1 b2 b3 b4 b6
  simp only[mY,show cj [97,107,115] 110=true from rfl,show cj [97,107,115] 97=false from rfl,show cj [97,107,115] 102=true from rfl,show cj [97,107,115] 116=true from rfl,show cj [97,107,115] 107=false from rfl,show cj [97,107,115] 115=false from rfl]
  simp_all
 ·rw[e,show dW 11=[116,107] from rfl]
  simp[e,bF] at b1 b2 b3 b4 b6
  simp only[mY,show cj [116,107] 110=true from rfl,show cj [116,107] 97=true from rfl,show cj [116,107] 102=true from rfl,show cj [116,107] 116=false from rfl,show cj [116,107] 107=false from rfl,show cj [116,107] 115=true from rfl]
  simp_all
 ·rw[e,show dW 12=[107,115] from rfl]
  simp[e,bF] at b1 b2 b3 b4 b6
  simp only[mY,show cj [107,115] 110=true from rfl,show cj [107,115] 97=true from rfl,show cj [107,115] 102=true from rfl,show cj [107,115] 116=true from rfl,show cj [107,115] 107=false from rfl,show cj [107,115] 115=false from rfl]
  simp_all
 ·omega
theorem XK{t:Tm}{n h:Nat}(hn:n<=9000)(hF:u9 h t)(hk:t.kind=0)(hu:bj t=true)(fV:∀ u∈t.kids,jO n u){mm:Nat}{K:ah}(hP:PW mm K):oM mm K 55 [.ref mm 0,.agg (cE t)] (ai t) (ay t) (3*(n+4)+20):=by
 have lM:=afK hk hu
 have hU:=agE hk hu
 have ou:=cu t
 rw[hk] at ou
 have A6:=hF.a
 have mV:=hF.kl
 rw[an]
 intro l hl
 obtain⟨K1,dQ,bX,da,hT,hO⟩:=lH hP t
 have bf:=hP.lt
 have ja:=fun K=>gx t K
 rw[hu,an] at ja
 have dR:=fun ok l b=>fq dQ ok l b
 have h0:=fun l b=>ff (l:=l) (b:=b) dQ
 unfold lB at h0
 obtain⟨nn0,nn1⟩:=hF.n
 have DH:=fun K=>Rq t.n K ⟨by omega,by omega⟩
 have Ud:(ql t.n).length<=1000000:=by
  by_cases h:t.n<0
  ·rw[itoa_neg h];have:=qE (n:=(-t.n).toNat) (by omega);simp;omega
  ·rw[CN (by omega)];have:=qE (n:=t.n.toNat) (by omega);omega
 have Um:=fun K=>ac0 (ql t.n) 45 K Ud
 rw[Nl] at Um
 rw[lM]
 have main:∀ (ok:Bool),(ok=decide (-1099511627776<=t.n/\t.n<=1099511627776))->(∃ l',(t.n<0->aD A 41 [.ref mm 0,.slice [[.str [45]]] false] (cm mm l (!ok) K1)=some (.undef,some ⟨cm mm (l++[[45]]) (!ok) K1,mm⟩)/\aD A 41 [.ref mm 0,.slice [[.str (mF (-t.n).toNat)]] false] (cm mm (l++[[45]]) (!ok) K1)=some (.undef,some ⟨cm mm l' (!ok) K1,mm⟩)) /\
   (¬ t.n<0->aD A 41 [.ref mm 0,.slice [[.str (mF t.n.toNat)]] false] (cm mm l (!ok) K1)=some (.undef,some ⟨cm mm l' (!ok) K1,mm⟩))/\l'=l++ay t/\l'.length<=l.length+2):=by
  intro ok lL
  have px:∀ (xs l:List bq) (b:Bool),xs.length<=10->l.length+xs.length<=1000000->aD A 41 [.ref mm 0,.slice (strs xs) false] (cm mm l b K1)=some (.undef,some ⟨cm mm (l++xs) b K1,mm⟩):=fun xs l b hx hl=>RX dQ xs l b (by omega) hl
  by_cases qQ:t.n<0
  ·refine⟨l++[[45]]++[mF (-t.n).toNat],fun _=>⟨px [[45]] l _ (by simp) (by simp;omega),px [mF (-t.n).toNat] (l++[[45]]) _ (by simp) (by simp;omega)⟩,fun h=>absurd qQ h,?_,by simp⟩
   rw[ou];simp[b0,qQ]
  ·refine⟨l++[mF t.n.toNat],fun h=>absurd h qQ,fun _=>px [mF t.n.toNat] l _ (by simp) (by simp;omega),?_,by simp⟩
   rw[ou];simp[b0,qQ]
 by_cases r1:-1099511627776<=t.n
 ·by_cases r2:t.n<=1099511627776
  ·obtain⟨l',p1,p2,p3,p4⟩:=main true (by simp[r1,r2])
   rw[decide_eq_true (show -1099511627776<=t.n/\t.n<=1099511627776 from ⟨r1,r2⟩)]
   simp only[aom] at p1 p2 ⊢
   refine⟨l',?_,fun _=>p3,by omega⟩
   by_cases qQ:t.n<0
   ·obtain⟨e1,e2⟩:=p1 qQ
    rw[if_pos qQ] at Um
    refine aB (fn:=fZ) rfl rfl rfl ?_
    unfold fZ
    have ho:=hO l' false
    simp(disch:=omega)only[aP,aa,simprocAttr,bX,da,ja,dR,h0,hT,aom,aoj,aow,aon,ao4,aoH,aoL,ar,aoc,aob,an8,cond_true,aA,aq,ak,an3,an4,ab,ho,DH,Um,e1,e2]
   ·have e1:=p2 qQ
    rw[if_neg qQ] at Um
    refine aB (fn:=fZ) rfl rfl rfl ?_
    unfold fZ
    have ho:=hO l' false
    simp(disch:=omega)only[aP,aa,simprocAttr,bX,da,ja,dR,h0,hT,aom,aoj,aow,aon,ao4,aoH,aoL,ar,aoc,aob,an8,cond_true,aA,aq,ak,an3,an4,ab,ho,DH,Um,e1]
  ·obtain⟨l',p1,p2,p3,p4⟩:=main false (by simp[r2])
   rw[ao1 (show ¬ (-1099511627776<=t.n/\t.n<=1099511627776) from fun h=>r2 h.2)]
   simp only[aoj] at p1 p2 ⊢
   refine⟨l',?_,(fun h=>by cases h),by omega⟩
   by_cases qQ:t.n<0
   ·omega
   ·have e1:=p2 qQ
    rw[if_neg qQ] at Um
    refine aB (fn:=fZ) rfl rfl rfl ?_
    unfold fZ
    have ho:=hO l' true
    simp(disch:=omega)only[aP,aa,simprocAttr,bX,da,ja,dR,h0,hT,aom,aoj,aow,aon,ao4,aoH,aoL,ar,aoc,aob,an8,cond_true,aA,aq,ak,an3,an4,ab,ho,DH,Um,e1]
 ·obtain⟨l',p1,p2,p3,p4⟩:=main false (by simp[r1])
  rw[ao1 (show ¬ (-1099511627776<=t.n/\t.n<=1099511627776) from fun h=>r1 h.1)]
  simp only[aoj] at p1 p2 ⊢
  refine⟨l',?_,(fun h=>by cases h),by omega⟩
  have qQ:t.n<0:=by omega
  obtain⟨e1,e2⟩:=p1 qQ
  rw[if_pos qQ] at Um
  refine aB (fn:=fZ) rfl rfl rfl ?_
  unfold fZ
  have ho:=hO l' true
  simp(disch:=omega)only[aP,aa,simprocAttr,bX,da,ja,dR,h0,hT,aom,aoj,aow,aon,ao4,aoH,aoL,ar,aoc,aob,an8,cond_true,aA,aq,ak,an3,an4,ab,ho,DH,Um,e1,e2]
theorem XL{t:Tm}{n h:Nat}(hn:n<=9000)(hF:u9 h t)(hk:t.kind=1)(hu:bj t=true)(fV:∀ u∈t.kids,jO n u){mm:Nat}{K:ah}(hP:PW mm K):oM mm K 55 [.ref mm 0,.agg (cE t)] (ai t) (ay t) (3*(n+4)+20):=by
 have lM:=afL hk hu
 have hU:=agF hk hu
 have ou:=cu t
 rw[hk] at ou
 have A6:=hF.a
 have mV:=hF.kl
 rw[an]
 intro l hl
 obtain⟨K1,dQ,bX,da,hT,hO⟩:=lH hP t
 have bf:=hP.lt
 have ja:=fun K=>gx t K
 rw[hu,an] at ja
 have dR:=fun ok l b=>fq dQ ok l b
 have h0:=fun l b=>ff (l:=l) (b:=b) dQ
 unfold lB at h0
 have px:∀ (xs l:List bq) (b:Bool),xs.length<=10->l.length+xs.length<=1000000->aD A 41 [.ref mm 0,.slice (strs xs) false] (cm mm l b K1)=some (.undef,some ⟨cm mm (l++xs) b K1,mm⟩):=fun xs l b hx hl=>RX dQ xs l b (by omega) hl
 have e1:=fun s b=>px [s] l b (by simp) (by simp only[an5,an6];omega)
 simp only[tQ] at e1
 have fb:=fun b K=>aab b K
 rw[lM,ou]
 by_cases z0:t.n=0
 ·rw[decide_eq_true (Or.inl z0:t.n=0\/t.n=1)]
  refine⟨l++[[102,97,108,115,101]],?_,fun _=>by simp[b1,z0],by simp⟩
  refine aB (fn:=fZ) rfl rfl rfl ?_
  unfold fZ
  have ho:=hO (l++[[102,97,108,115,101]]) false
  simp(disch:=omega)only[aP,aa,simprocAttr,bX,da,ja,dR,h0,hT,aom,aoj,aow,aon,ao4,aoH,aoL,ar,aoc,aob,an8,cond_true,aA,aq,ak,an3,an4,ab,ho,fb,e1]
 by_cases z1:t.n=1
 ·rw[decide_eq_true (Or.inr z1:t.n=0\/t.n=1)]
  refine⟨l++[[116,114,117,101]],?_,fun _=>by simp[b1,z1],by simp⟩
  refine aB (fn:=fZ) rfl rfl rfl ?_
  unfold fZ
  have ho:=hO (l++[[116,114,117,101]]) false
  simp(disch:=omega)only[aP,aa,simprocAttr,bX,da,ja,dR,h0,hT,aom,aoj,aow,aon,ao4,aoH,aoL,ar,aoc,aob,an8,cond_true,aA,aq,ak,an3,an4,ab,ho,fb,e1]
 ·rw[ao1 (fun h=>h.elim z0 z1:¬ (t.n=0\/t.n=1))]
  refine⟨l++[[102,97,108,115,101]],?_,(fun h=>by cases h),by simp⟩
  refine aB (fn:=fZ) rfl rfl rfl ?_
  unfold fZ
  have ho:=hO (l++[[102,97,108,115,101]]) true
  simp(disch:=omega)only[aP,aa,simprocAttr,bX,da,ja,dR,h0,hT,aom,aoj,aow,aon,ao4,aoH,aoL,ar,aoc,aob,an8,cond_true,aA,aq,ak,an3,an4,ab,ho,fb,e1]
theorem XM{t:Tm}{n h:Nat}(hn:n<=9000)(hF:u9 h t)(hk:t.kind=2)(hu:bj t=true)(fV:∀ u∈t.kids,jO n u){mm:Nat}{K:ah}(hP:PW mm K):oM mm K 55 [.ref mm 0,.agg (cE t)] (ai t) (ay t) (3*(n+4)+20):=by
 have lM:=afM hk hu
 have hU:=agG hk hu
 have ou:=cu t
 rw[hk] at ou
 have A6:=hF.a
 have mV:=hF.kl
 rw[an]
 intro l hl
 obtain⟨K1,dQ,bX,da,hT,hO⟩:=lH hP t
 have bf:=hP.lt
 have ja:=fun K=>gx t K
 rw[hu,an] at ja
 have dR:=fun ok l b=>fq dQ ok l b
 have h0:=fun l b=>ff (l:=l) (b:=b) dQ
 unfold lB at h0
 obtain⟨l1,e1,t1,n1⟩:=iY dQ t.name (by omega) l false (by omega)
 rw[aon] at e1 t1
 rw[lM,ou]
 refine⟨l1,?_,fun hp=>by rw[t1 (by simp[hp])];simp[b2],by omega⟩
 refine aB (fn:=fZ) rfl rfl rfl ?_
 unfold fZ
 have ho:=hO l1 (!isWord t.name)
 generalize (!isWord t.name)=b1 at *
 simp(disch:=omega)only[aP,aa,simprocAttr,bX,da,ja,dR,h0,hT,aom,aoj,aow,aon,ao4,aoH,aoL,ar,aoc,aob,an8,cond_true,aA,aq,ak,an3,an4,ab,ho,e1]
end Go.Proofs.YtbdnnjjcdcacnaaGreatDoor
