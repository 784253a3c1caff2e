/-
  A part of the proof of ScopeNames: V1, V2, V3, V4, V5, V6, V7, V8, V9, V10, V11, V12, V13, V14, V15, V16, V17, V18, V19, V20.
-/
import Derived.KernelRfl
import Derived.Test.YthbncinhhdogpaaGreatDoorP10
set_option linter.unusedSimpArgs false
set_option linter.unusedVariables false
set_option linter.defProp false
set_option maxHeartbeats 2000000
set_option maxRecDepth 100000
namespace Go.Proofs.YthbncinhhdogpaaGreatDoor
open Go Go.Abs Go.Proofs
abbrev ga:=List UInt8
def sS(n k:Int):Int:=(if n<0 then -(n+1) else n).tmod k
def Yv(l:List Int)(i k:Int):Int:=if i<0\/(l.length:Int)<=i then 0 else sS (l.getD i.toNat 0) k
theorem N8(n k:Int)(H:ah)(hn:pr n)(hk:0<k):aE A 41 [.int .i64 n,.int .i64 k] H=some (.int .i64 (sS n k),none):=by
 obtain⟨h1,h2⟩:=hn
 have iV:k≠0:=by omega
 refine cc (fn:=RL) rfl rfl rfl ?_
 unfold RL
 simp(disch:=omega)only[Tp,aa,simprocAttr]
 refine Lt ?_ ?_<;>intro h
 ·simp(disch:=omega)only[Tp,aa,simprocAttr,iV,sS,if_pos h]
  simp only[show 0-(n+1)=-(n+1) by omega]
 ·simp(disch:=omega)only[Tp,aa,simprocAttr,iV,sS,if_neg h]
theorem HC(l:List Int)(i k:Int)(H:ah)(hl:∀ n∈l,pr n)(hk:0<k):aE A 15 [.slice (ints l) false,.int .i64 i,.int .i64 k] H=some (.int .i64 (Yv l i k),none):=by
 refine cc (fn:=Rm) rfl rfl rfl ?_
 unfold Rm
 by_cases h0:i<0
 ·simp(disch:=omega)only[Tp,aa,simprocAttr,h0,Yv,true_or,ap4]
 by_cases h1:(l.length:Int)<=i
 ·simp(disch:=omega)only[Tp,aa,simprocAttr,h0,h1,lP,ge_iff_le,Yv,or_true,ap4]
 ·have hi:i.toNat<l.length:=by omega
  have hg:l[i.toNat]?=some (l.getD i.toNat 0):=by rw[apg,aoT hi];rfl
  have hr:pr (l.getD i.toNat 0):=hl _ (by rw[apg,aoT hi];exact aqy hi)
  simp(disch:=omega)only[Tp,aa,simprocAttr,h0,h1,lP,ge_iff_le,Yv,false_or,ap2,qE (show 0<=i by omega),ints_at hg,N8 _ _ H hr hk]
theorem By{n k:Int}(hk:0<k):0<=sS n k/\sS n k<k:=by
 unfold sS
 have h:∀ m:Int,0<=m->0<=m.tmod k/\m.tmod k<k:=fun m hm=>⟨Int.tmod_nonneg _ hm,Int.tmod_lt_of_pos _ hk⟩
 split
 ·exact h _ (by omega)
 ·exact h _ (by omega)
theorem fN{l:List Int}{i k:Int}(hk:0<k):0<=Yv l i k/\Yv l i k<k:=by
 unfold Yv
 split
 ·omega
 ·exact By hk
def dh(x:AV):Bool:=(match x with|.slice _ o=>!o|_=>true)&&x.plain&&Jn x
theorem bL{x:AV}(h:dh x=true):x.drop=x:=by
 cases x<;>simp_all [dh,AV.drop]
theorem bH{x:AV}(h:dh x=true):x.plain=true:=by
 simp only[dh,Bool.and_eq_true] at h;exact h.1.2
theorem bU{x:AV}(h:dh x=true):al x=true:=by
 have:=bH h
 cases x<;>simp_all [al,AV.plain]
theorem Aa{x:AV}(h:dh x=true):Jn x=true:=by
 simp only[dh,Bool.and_eq_true] at h;exact h.2
structure Cells (n:Nat) where
 l:List AV
 len:l.length=n
 ok:l.all dh=true
theorem jH{l:List AV}(h:l.all dh=true):l.map AV.drop=l:=by
 rw[aoV] at h
 conv=>rhs;rw[<- List.map_id l]
 exact aph fun x hx=>bL (h x hx)
theorem uB{l:List AV}(h:l.all dh=true):l.all AV.plain=true:=by
 rw[aoV] at *;exact fun x hx=>bH (h x hx)
theorem lU{l:List AV}(h:l.all dh=true):l.all al=true:=by
 rw[aoV] at *;exact fun x hx=>bU (h x hx)
theorem dU{x:AV}(h:x.plain=true)(b:Nat):x.aG b=true:=by
 cases x<;>simp_all [AV.aG,AV.plain]
theorem CM{l:List AV}(h:l.all dh=true)(b:Nat):l.all (AV.aG b)=true:=by
 rw[aoV] at *;exact fun x hx=>dU (bH (h x hx)) b
theorem Su{l:List AV}(h:l.all dh=true):MV l=true:=by
 induction l with
 | nil=>rfl
 | cons x l ih =>
  simp only[List.all_cons,Bool.and_eq_true] at h
  have hx:=Aa h.1
  have:=ih h.2
  simp[MV,hx,this]
structure Id where
 bN:Int
 seq:Int
 index:Int
 deriving DecidableEq
def av(i:Id):List AV:=[.int .i64 i.bN,.int .i64 i.seq,.int .i64 i.index]
def aF(l:List Id):List (List AV):=l.map av
theorem cZ{l:List Id} : (aF l).length=l.length:=by simp[aF]
theorem ou{l:List Id}{i:Nat}{e:Id}(h:l[i]?=some e):(aF l)[i]?=some (av e):=by simp[aF,h]
theorem Kw{i:Id} : (av i).all dh=true:=rfl
theorem ib{i j:Id} : bI [.i,.i,.i] [.int .i64 i.bN,.int .i64 i.seq,.int .i64 i.index] [.int .i64 j.bN,.int .i64 j.seq,.int .i64 j.index]=some (i==j):=by
 obtain⟨a,b,c⟩:=i
 obtain⟨x,y,z⟩:=j
 simp only[bI,arz,cond_true,Option.map_some,Bool.and_true,aoQ]
 rw[Bool.eq_iff_iff]
 simp
theorem fT{op:BinOp}{ks:List CK}{c:Bool}{xs ys:List AV} : vJ op (.flat ks) c (.agg xs) (.agg ys)=(bI ks xs ys).bind fun b=>j9 op b:=rfl
theorem FY{l:List Id} : zW 3 (aF l) :=
 ⟨fun r hr=>by simp only[aF,apu] at hr;obtain⟨n,_,rfl⟩:=hr;rfl,CJ fun r hr=>by simp only[aF,apu] at hr;obtain⟨n,_,rfl⟩:=hr;rfl⟩
theorem Bu{l m:List Id}{o:Bool}(h:l.length+m.length<=1099511627776):bw false 3 24 (.slice (aF l) true) (.slice (aF m) o)=some (.slice (aF (l++m)) true):=by
 rw[Bv FY FY (by rw[cZ,cZ];omega) (by rw[cZ,cZ];omega)];simp[aF]
theorem Bt{l:List Id}{i:Id}{o:Bool}(h:l.length<=1099511627775) :
  bw false 3 24 (.slice (aF l) true) (.slice [[.int .i64 i.bN,.int .i64 i.seq,.int .i64 i.index]] o)=some (.slice (aF (l++[i])) true):=Bu (m:=[i]) (by simp;omega)
theorem sV:aF []=[]:=rfl
def dO(z:Nat)(e:List (List AV)):Prop:=∀ r∈e,r.length=z/\r.all dh=true
theorem dO.rows{z:Nat}{e:List (List AV)}(h:dO z e):zW z e:=⟨fun r hr=>(h r hr).1,CJ fun r hr=>Su (h r hr).2⟩
theorem dO.nil{z:Nat} : dO z []:=fun r hr=>by simp at hr
theorem dO.one{z:Nat}{r:List AV}(h:r.length=z)(ho:r.all dh=true):dO z [r]:=fun x hx=>by rw[ao3.1 hx];exact⟨h,ho⟩
theorem x8{l:List Id} : dO 3 (aF l):=fun r hr=>by simp only[aF,apu] at hr;obtain⟨n,_,rfl⟩:=hr;exact⟨rfl,rfl⟩
theorem na{z b:Nat}{e f:List (List AV)}{o:Bool}(h1:dO z e)(h2:dO z f)(hb:b<=1000)(hl:e.length+f.length<=1000000000):bw false z b (.slice e true) (.slice f o)=some (.slice (e++f) true) :=
 Bv h1.rows h2.rows (by have:=Nat.mul_le_mul hl hb;omega) (by omega)
theorem uE{z:Nat}{e:List (List AV)}(h:dO z e):cC e=true:=by
 unfold cC
 rw[aoV]
 exact fun r hr=>uB (h r hr).2
theorem dO.flat{z:Nat}{e:List (List AV)}(h:dO z e):e.flatten.all dh=true:=by
 rw[aoV]
 intro x hx
 obtain⟨r,hr,hx⟩:=aqY.1 hx
 exact aoV.1 (h r hr).2 x hx
theorem dO.wide{z:Nat}{e:List (List AV)}(h:dO z e):∀ r∈e,r.length=z:=fun r hr=>(h r hr).1
inductive Ex where
 | mk (id:Id) (WD:Cells 10) (kids:List Ex) (names:List ga)
def Ex.id:Ex->Id|.mk i _ _ _=>i
def Ex.WD:Ex->Cells 10|.mk _ m _ _=>m
def Ex.kids:Ex->List Ex|.mk _ _ k _=>k
def Ex.names:Ex->List ga|.mk _ _ _ n=>n
mutual
def bj:Ex->List AV
 | .mk i m ks ns=>av i++m.l++[.slice (bz ks) false,.slice (strs ns) false]
def bz:List Ex->List (List AV)
 | []=>[]
 | e :: r=>bj e :: bz r
end
theorem lj:∀ l:List Ex,bz l=l.map bj
 | []=>by simp[bz]
 | t :: r=>by simp[bz,lj r]
theorem qM(e:Ex):bj e=av e.id++e.WD.l++[.slice (bz e.kids) false,.slice (strs e.names) false]:=by
 cases e;simp only[bj,Ex.id,Ex.WD,Ex.kids,Ex.names]
theorem pJ{l:List Ex} : (bz l).length=l.length:=by rw[lj];simp
theorem O4{l:List Ex}{i:Nat}{e:Ex}(h:l[i]?=some e):(bz l)[i]?=some (bj e):=by rw[lj];simp[h]
theorem bS{e:Ex} : (bj e).length=15:=by rw[qM];simp[av,e.WD.len]
theorem nq{e:Ex} : (bj e).all dh=true:=by rw[qM];simp[Kw,e.WD.ok,dh,AV.plain,Jn]
theorem bV{e:Ex} : (bj e).map AV.drop=bj e:=jH nq
theorem bu{e:Ex} : (bj e).all AV.plain=true:=uB nq
theorem bA{e:Ex} : (bj e).all al=true:=lU nq
theorem dL{e:Ex} : MV (bj e)=true:=Su nq
theorem bW{e:Ex} : (bj e).take 15=bj e:=apM (ap0 bS)
theorem cH{e:Ex}{base:Nat} : (bj e).all (AV.aG base)=true:=CM nq base
theorem Il{l:List Ex} : dO 15 (bz l):=fun r hr=>by rw[lj,apu] at hr;obtain⟨e,_,rfl⟩:=hr;exact⟨bS,nq⟩
theorem Fu{l:List Ex}{e:Ex} : bz l++[bj e]=bz (l++[e]):=by simp[lj]
theorem dg:bz []=[]:=by simp[bz]
theorem HA{l:List Ex}{e:Ex}{o:Bool}(h:l.length<=10000000):bw false 15 168 (.slice (bz l) true) (.slice [bj e] o)=some (.slice (bz (l++[e])) true):=by
 rw[na Il (dO.one bS nq) (by omega) (by rw[pJ];simp;omega),Fu]
structure Slot where
 id:Id
 name:ga
 ty:Cells 5
 MS:Int
 place:Int
structure Def where
 id:Id
 kind:Int
 mod:Id
 name:ga
 aZ:List Slot
 res:Cells 5
 body:Cells 15
 tl:Cells 2
structure Mod where
 id:Id
 name:ga
 fX:List Id
 dc:Cells 1
structure Prog where
 mods:List Mod
 defs:List Def
def dW(s:Slot):List AV:=av s.id++[.str s.name]++s.ty.l++[.int .i64 s.MS,.int .i64 s.place]
def bs(l:List Slot):List (List AV):=l.map dW
def bg(d:Def):List AV:=av d.id++[.int .i64 d.kind]++av d.mod++[.str d.name,.slice (bs d.aZ) false]++d.res.l++d.body.l++d.tl.l
def cn(l:List Def):List (List AV):=l.map bg
def sW(l:List Id):AV:=match l with|[]=>.ae|_=>.slice (aF l) false
def dK(m:Mod):List AV:=av m.id++[.str m.name,sW m.fX]++m.dc.l
def cx(l:List Mod):List (List AV):=l.map dK
def aR(p:Prog):List AV:=[.slice (cx p.mods) false,.slice (cn p.defs) false]
theorem fh{l:List Slot} : (bs l).length=l.length:=by simp[bs]
theorem dm{l:List Def} : (cn l).length=l.length:=by simp[cn]
theorem gO{l:List Mod} : (cx l).length=l.length:=by simp[cx]
theorem G4{l:List Slot}{i:Nat}{e:Slot}(h:l[i]?=some e):(bs l)[i]?=some (dW e):=by simp[bs,h]
theorem tV{l:List Def}{i:Nat}{e:Def}(h:l[i]?=some e):(cn l)[i]?=some (bg e):=by simp[cn,h]
theorem CG{l:List Mod}{i:Nat}{e:Mod}(h:l[i]?=some e):(cx l)[i]?=some (dK e):=by simp[cx,h]
theorem lX{s:Slot} : (dW s).length=11:=by simp[dW,av,s.ty.len]
theorem sf{s:Slot} : (dW s).all dh=true:=by simp[dW,Kw,s.ty.ok,dh,AV.plain,Jn]
theorem vy{s:Slot} : (dW s).map AV.drop=dW s:=jH sf
theorem uL{l:List Slot} : dO 11 (bs l):=fun r hr=>by simp only[bs,apu] at hr;obtain⟨e,_,rfl⟩:=hr;exact⟨lX,sf⟩
theorem JN{l:List Slot}{s:Slot} : bs l++[dW s]=bs (l++[s]):=by simp[bs]
theorem cJ{d:Def} : (bg d).length=31:=by simp[bg,av,d.res.len,d.body.len,d.tl.len]
theorem BV{d:Def} : (bg d).all dh=true:=by simp[bg,Kw,d.res.ok,d.body.ok,d.tl.ok,dh,AV.plain,Jn]
theorem cQ{d:Def} : (bg d).map AV.drop=bg d:=jH BV
theorem cv{d:Def} : (bg d).all al=true:=lU BV
theorem cS{d:Def} : (bg d).take 31=bg d:=apM (ap0 cJ)
theorem dH{d:Def}{base:Nat} : (bg d).all (AV.aG base)=true:=CM BV base
theorem wT{l:List Def} : dO 31 (cn l):=fun r hr=>by simp only[cn,apu] at hr;obtain⟨e,_,rfl⟩:=hr;exact⟨cJ,BV⟩
theorem Lz{l:List Def} : ∀ r∈cn l,r.length=31:=wT.wide
theorem aeR{d:Def} : ((bg d).drop 0).take 3=av d.id:=by simp[bg,av]
theorem xw{d:Def} : (bg d).take 3=av d.id:=by simp[bg,av]
theorem aeS{d:Def} : (bg d)[3]?=some (.int .i64 d.kind):=by simp[bg,av]
theorem Aj{d:Def} : ((bg d).drop 4).take 3=av d.mod:=by simp[bg,av]
theorem DZ{d:Def} : (bg d)[7]?=some (.str d.name):=by simp[bg,av]
theorem Ow{d:Def} : (bg d)[8]?=some (.slice (bs d.aZ) false):=by simp[bg,av]
theorem ZK{d:Def} : ((bg d).drop 14).take 15=d.body.l:=by
 have h1:=d.res.len
 have h2:=d.body.len
 have:(bg d).drop 14=d.body.l++d.tl.l:=by
  have e:bg d=(av d.id++[.int .i64 d.kind]++av d.mod++[.str d.name,.slice (bs d.aZ) false]++d.res.l)++(d.body.l++d.tl.l):=by simp[bg]
  rw[e,List.drop_left' (by simp[av,h1])]
 rw[this,List.take_left' h2]
theorem OA{d:Def}{n:ga} : List.take 7 (bg d)++[.str n]++List.drop 8 (bg d)=bg { d with name:=n }:=by simp[bg,av]
theorem Ly{d:Def}{b:Cells 15} : List.take 14 (bg d)++b.l++List.drop 29 (bg d)=bg { d with body:=b }:=by
 have h1:=d.res.len
 have h2:=d.body.len
 have e:bg d=(av d.id++[.int .i64 d.kind]++av d.mod++[.str d.name,.slice (bs d.aZ) false]++d.res.l)++(d.body.l++d.tl.l):=by simp[bg]
 have e2:List.take 14 (bg d)=av d.id++[.int .i64 d.kind]++av d.mod++[.str d.name,.slice (bs d.aZ) false]++d.res.l:=by rw[e,List.take_left' (by simp[av,h1])]
 have e3:List.drop 29 (bg d)=d.tl.l:=by
  rw[e,show (29:Nat)=14+15 by rfl,<- aqr,List.drop_left' (by simp[av,h1]),List.drop_left' h2]
 rw[e2,e3];simp[bg]
theorem TZ{l:List Id} : dh (sW l)=true:=by cases l<;>rfl
theorem iJ{m:Mod} : (dK m).length=6:=by simp[dK,av,m.dc.len]
theorem CF{m:Mod} : (dK m).all dh=true:=by
 have:=TZ (l:=m.fX)
 simp[dK,Kw,m.dc.ok,this];rfl
theorem iP{m:Mod} : (dK m).map AV.drop=dK m:=jH CF
theorem gI{m:Mod} : (dK m).all al=true:=lU CF
theorem iQ{m:Mod} : (dK m).take 6=dK m:=apM (ap0 iJ)
theorem j0{m:Mod}{base:Nat} : (dK m).all (AV.aG base)=true:=CM CF base
theorem KI{l:List Mod} : dO 6 (cx l):=fun r hr=>by simp only[cx,apu] at hr;obtain⟨e,_,rfl⟩:=hr;exact⟨iJ,CF⟩
theorem agl{m:Mod} : ((dK m).drop 0).take 3=av m.id:=by simp[dK,av]
theorem Sh{m:Mod} : (dK m).take 3=av m.id:=by simp[dK,av]
theorem Y9{m:Mod} : (dK m)[3]?=some (.str m.name):=by simp[dK,av]
theorem Si{m:Mod} : (dK m)[4]?=some (sW m.fX):=by simp[dK,av]
end Go.Proofs.YthbncinhhdogpaaGreatDoor
namespace Go.Proofs.YthbncinhhdogpaaGreatDoor
def th(a b:Id):Bool:=if a.bN=b.bN then (if a.seq=b.seq then decide (a.index<b.index) else decide (a.seq<b.seq)) else decide (a.bN<b.bN)
theorem aaY{a b:Id}(h1:a.bN=b.bN)(h2:a.seq=b.seq)(h3:a.index=b.index):a=b:=by
 cases a;cases b;simp_all
theorem tj(a:Id):th a a=false:=by simp[th]
theorem vn{a b c:Id}(h1:th a b=true)(h2:th b c=true):th a c=true:=by
 simp only[th] at *
 repeat' split at h1
 all_goals repeat' split at h2
 all_goals simp only[apc] at h1 h2
 all_goals repeat' split
 all_goals simp only[apc]
 all_goals omega
theorem vm{a b:Id}(h1:th a b=false)(h2:th b a=false):a=b:=by
 simp only[th] at *
 repeat' split at h1
 all_goals repeat' split at h2
 all_goals simp only[apL] at h1 h2
 all_goals first|(exfalso;omega)|(exact aaY (by omega) (by omega) (by omega))
theorem AX{a b:Id}(h1:th a b=true):th b a=false:=by
 cases h:th b a with
 | false=>rfl
 | true=>have:=vn h1 h;rw[tj] at this;cases this
def Up:List Id->Prop
 | []=>True
 | a :: l=>(∀ b∈l,th a b=true)/\Up l
theorem Ha:∀ {l m:List Id},Up l->Up m->(∀ x,x∈l↔x∈m)->l=m
 | [],[],_,_,_=>rfl
 | [],b :: m,_,_,h=>by have:=(h b).2 (by simp);simp at this
 | a :: l,[],_,_,h=>by have:=(h a).1 (by simp);simp at this
 | a :: l,b :: m,hl,hm,h=>by
  have hab:a=b:=by
   rcases ao8.1 ((h a).1 (by simp)) with e|e
   ·exact e
   ·rcases ao8.1 ((h b).2 (by simp)) with e'|e'
    ·exact e'.symm
    ·have h1:=hm.1 a e
     have h2:=hl.1 b e'
     rw[AX h1] at h2
     exact absurd h2 (by simp)
  subst hab
  congr 1
  refine Ha hl.2 hm.2 fun x=>?_
  constructor
  ·intro hx
   rcases ao8.1 ((h x).1 (apd _ hx)) with e|e
   ·have:=hl.1 x hx;rw[e,tj] at this;exact absurd this (by simp)
   ·exact e
  ·intro hx
   rcases ao8.1 ((h x).2 (apd _ hx)) with e|e
   ·have:=hm.1 x hx;rw[e,tj] at this;exact absurd this (by simp)
   ·exact e
def zH:List Id->Id->List Id
 | [],x=>[x]
 | a :: l,x=>if th a x then a :: zH l x else if a==x then a :: l else x :: a :: l
theorem uo{x:Id} : ∀ {l:List Id} {y:Id},y∈zH l x↔y∈l\/y=x
 | [],y=>by simp[zH]
 | a :: l,y=>by
  simp only[zH]
  split
  ·rw[ao8,uo,ao8];simp only[or_assoc]
  ·split
   ·rename_i h
    have:=eq_of_beq h
    subst this
    rw[ao8]
    constructor
    ·exact .inl
    ·rintro (h|h)
     ·exact h
     ·exact .inl h
   ·simp only[ao8];constructor
    ·rintro (h|h|h)<;>simp[h]
    ·rintro ((h|h)|h)<;>simp[h]
theorem Ct{x:Id} : ∀ {l:List Id},Up l->Up (zH l x)
 | [],_=>⟨by simp,trivial⟩
 | a :: l,h=>by
  simp only[zH]
  split
  ·rename_i l5
   refine⟨fun b hb=>?_,Ct h.2⟩
   rcases uo.1 hb with e|e
   ·exact h.1 b e
   ·rw[e];exact l5
  ·rename_i l5
   split
   ·exact h
   ·rename_i bB
    have UX:th x a=true:=by
     cases hh:th x a with
     | true=>rfl
     | false=>exact absurd (by rw[vm (by simpa using l5) hh];simp) bB
    refine⟨fun b hb=>?_,h⟩
    rcases ao8.1 hb with e|e
    ·rw[e];exact UX
    ·exact vn UX (h.1 b e)
def Ll:Nat->List Id->List Id
 | 0,l=>l
 | j+1,l=>match l[j+1]?,l[j]? with
  | some x,some y=>if th x y then Ll j ((l.set (j+1) y).set j x) else l
  | _,_=>l
theorem DG:∀ {j:Nat} {l:List Id},(Ll j l).Perm l
 | 0,l=>List.Perm.refl _
 | j+1,l=>by
  simp only[Ll]
  split
  ·rename_i x y hx hy
   split
   ·refine DG.trans ?_
    obtain⟨h1,e1⟩:=aoR.1 hx
    obtain⟨h2,e2⟩:=aoR.1 hy
    have hd:l=l.take j++y :: x :: l.drop (j+2):=by
     rw[<- e1,<- e2,<- apG h1,<- apG h2,List.take_append_drop]
    have hs:(l.set (j+1) y).set j x=l.take j++x :: y :: l.drop (j+2):=by
     have hl:(l.take j).length=j:=by rw[aqW];omega
     conv=>lhs;rw[hd]
     rw[apx _ _ (by omega),apx _ _ (by omega),hl]
     simp
    rw[hs]
    conv=>rhs;rw[hd]
    exact List.Perm.append_left _ (List.Perm.swap ..)
   ·exact List.Perm.refl _
  ·exact List.Perm.refl _
def Zn(l:List Id):Prop:=∀ (i k:Nat) (a b:Id),i<k->l[i]?=some a->l[k]?=some b->th b a=false
theorem xf:∀ {j k:Nat} {l:List Id},j<=k->k<l.length ->
  (∀ (i m:Nat) (a b:Id),i<m->m<=k->i≠j->m≠j->l[i]?=some a->l[m]?=some b->th b a=false) ->
  (∀ (m:Nat) (a b:Id),j<m->m<=k->l[j]?=some a->l[m]?=some b->th b a=false) ->
  ∀ (i m:Nat) (a b:Id),i<m->m<=k->(Ll j l)[i]?=some a->(Ll j l)[m]?=some b->th b a=false
 | 0,k,l,hj,hk,h1,h2,i,m,a,b,YL,hm,ha,hb=>by
  simp only[Ll] at ha hb
  by_cases hi:i=0
  ·subst hi;exact h2 m a b YL hm ha hb
  ·exact h1 i m a b YL hm hi (by omega) ha hb
 | j+1,k,l,hj,hk,h1,h2,i,m,a,b,YL,hm,ha,hb=>by
  have g1:j+1<l.length:=by omega
  have g0:j<l.length:=by omega
  simp only[Ll,aoT g1,aoT g0] at ha hb
  have ex:=aoT g1
  have ey:=aoT g0
  generalize l[j+1]=x at ha hb ex
  generalize l[j]=y at ha hb ey
  by_cases aU:th x y=true
  ·rw[if_pos aU] at ha hb
   refine xf (j:=j) (k:=k) (by omega) (by simpa using hk) ?_ ?_ i m a b YL hm ha hb
   ·intro i' m' a' b' h3 h4 h5 h6 h7 h8
    rw[apk (fun e=>h5 e.symm)] at h7
    rw[apk (fun e=>h6 e.symm)] at h8
    by_cases e1:i'=j+1
    ·subst e1
     rw[apo g1] at h7
     rw[apk (by omega)] at h8
     cases apA h7
     exact h1 j m' _ _ (by omega) h4 (by omega) (by omega) ey h8
    ·rw[apk (fun e=>e1 e.symm)] at h7
     by_cases e2:m'=j+1
     ·subst e2
      rw[apo g1] at h8
      cases apA h8
      exact h1 i' j _ _ (by omega) (by omega) e1 (by omega) h7 ey
     ·rw[apk (fun e=>e2 e.symm)] at h8
      exact h1 i' m' _ _ h3 h4 e1 e2 h7 h8
   ·intro m' a' b' h3 h4 h7 h8
    rw[apo (by simpa using g0)] at h7
    rw[apk (by omega)] at h8
    cases apA h7
    by_cases e2:m'=j+1
    ·subst e2
     rw[apo g1] at h8
     cases apA h8
     exact AX aU
    ·rw[apk (fun e=>e2 e.symm)] at h8
     exact h2 m' _ _ (by omega) h4 ex h8
  ·rw[if_neg aU] at ha hb
   have gW:th x y=false:=by simpa using aU
   by_cases e1:i=j+1
   ·subst e1;exact h2 m a b YL hm ha hb
   ·by_cases e2:m=j+1
    ·subst e2
     rw[ex] at hb
     cases apA hb
     by_cases e3:i=j
     ·subst e3;rw[ey] at ha;cases apA ha;exact gW
     ·
      have h5:=h1 i j a y (by omega) (by omega) e1 (by omega) ha ey
      cases h6:th b a with
      | false=>rfl
      | true =>
       exfalso
       cases h7:th a y with
       | true=>have:=vn h6 h7;rw[gW] at this;exact absurd this (by simp)
       | false=>have:=vm h7 h5;subst this;rw[gW] at h6;exact absurd h6 (by simp)
    ·exact h1 i m a b YL hm e1 e2 ha hb
def lp:Nat->List Id->List Id
 | 0,l=>l
 | n+1,l=>Ll n (lp n l)
theorem nY:∀ {n:Nat} {l:List Id},(lp n l).Perm l
 | 0,l=>List.Perm.refl _
 | n+1,l=>DG.trans nY
theorem lD{n:Nat}{l:List Id} : (lp n l).length=l.length:=nY.length_eq
theorem sH:∀ {n:Nat} {l:List Id},n<=l.length->∀ (i m:Nat) (a b:Id),i<m->m<n->(lp n l)[i]?=some a->(lp n l)[m]?=some b->th b a=false
 | 0,l,_,i,m,a,b,_,h,_,_=>by omega
 | n+1,l,hn,i,m,a,b,YL,hm,ha,hb=>by
  refine xf (j:=n) (k:=n) (aoU _) (by rw[lD];omega) ?_ ?_ i m a b YL (by omega) ha hb
  ·intro i' m' a' b' h1 h2 h3 h4 h5 h6
   exact sH (n:=n) (by omega) i' m' a' b' h1 (by omega) h5 h6
  ·intro m' a' b' h1 h2;omega
def ku(l:List Id):List Id:=lp l.length l
theorem MD{l:List Id}{x:Id} : x∈ku l↔x∈l:=nY.mem_iff
theorem pR{l:List Id} : (ku l).length=l.length:=lD
theorem uP:∀ {l:List Id},l.Nodup->Zn l->Up l
 | [],_,_=>trivial
 | a :: l,hn,hs=>by
  refine⟨fun b hb=>?_,uP (ap5.1 hn).2 fun i k x y h1 h2 h3=>hs (i+1) (k+1) x y (by omega) (by simpa using h2) (by simpa using h3)⟩
  obtain⟨k,hk,e⟩:=List.mem_iff_getElem.1 hb
  have h1:=hs 0 (k+1) a b (by omega) (by simp) (by simp[hk,e])
  cases h2:th a b with
  | true=>rfl
  | false =>
   have:=vm h2 h1
   subst this
   exact absurd hb (ap5.1 hn).1
theorem R1{l:List Id}(h:l.Nodup):Up (ku l):=by
 refine uP (nY.nodup_iff.2 h) fun i k a b h1 h2 h3=>?_
 have hk:=(aoR.1 h3).1
 rw[ku,lD] at hk
 exact sH (aoU _) i k a b h1 hk h2 h3
def fM(p:Prog)(x:Id):Option Mod:=p.mods.find? fun m=>m.id==x
def oJ(p:Prog)(x:Id):Option Def:=p.defs.find? fun d=>d.id==x
theorem Pd{l:List Def}{x:Id}{d:Def}(h:l.find? (fun d=>d.id==x)=some d):d.id=x:=by
 have:=List.find?_some h
 simpa using this
theorem Z6{l:List Mod}{x:Id}{d:Mod}(h:l.find? (fun d=>d.id==x)=some d):d.id=x:=by
 have:=List.find?_some h
 simpa using this
def nQ(q:Def->Bool)(ds:List Def):Nat->List Id
 | 0=>[]
 | n+1=>nQ q ds n++(match ds[n]? with
  | some d=>if !((ds.take n).any fun e=>e.id==d.id)&&q d then [d.id] else []
  | none=>[])
theorem yK(q:Def->Bool)(ds:List Def)(x:Id):∀ n,x∈nQ q ds n↔∃ d,(ds.take n).find? (fun d=>d.id==x)=some d/\q d=true
 | 0=>by simp[nQ]
 | n+1=>by
  rw[nQ,aoX,yK q ds x n,List.take_add_one,List.find?_append]
  cases hf:(ds.take n).find? (fun d=>d.id==x) with
  | some d =>
   simp only[Option.some_or,aoQ,exists_eq_left']
   constructor
   ·rintro (h|h)
    ·exact h
    ·exfalso
     cases hd:ds[n]? with
     | none=>rw[hd] at h;simp at h
     | some e =>
      rw[hd] at h
      simp only at h
      split at h
      ·rename_i hc
       have hx:=ao3.1 h
       simp only[Bool.and_eq_true,apB,List.any_eq_false] at hc
       have:=hc.1 d (List.mem_of_find?_eq_some hf)
       have h2:=List.find?_some hf
       rw[hx] at h2
       exact this h2
      ·simp at h
   ·exact .inl
  | none =>
   simp only[Option.none_or,reduceCtorEq,false_and,aq7,false_or]
   cases hd:ds[n]? with
   | none=>simp
   | some e =>
    simp only[Option.toList_some,List.find?_cons,List.find?_nil]
    constructor
    ·intro h
     split at h
     ·rename_i hc
      have hx:=ao3.1 h
      subst hx
      simp only[Bool.and_eq_true] at hc
      exact⟨e,by simp,hc.2⟩
     ·simp at h
    ·rintro ⟨d,h1,h2⟩
     split at h1
     ·rename_i he
      cases apA h1
      have hx:=eq_of_beq he
      subst hx
      have hc:((ds.take n).any fun e'=>e'.id==e.id)=false:=by
       rw[List.any_eq_false]
       intro y hy
       exact List.find?_eq_none.1 hf y hy
      rw[hc,h2]
      simp
     ·simp at h1
theorem pW(q:Def->Bool)(ds:List Def):∀ n,(nQ q ds n).Nodup
 | 0=>by simp[nQ]
 | n+1=>by
  rw[nQ]
  cases hd:ds[n]? with
  | none=>simpa using pW q ds n
  | some e =>
   simp only
   split
   ·rename_i hc
    rw[List.nodup_append]
    refine⟨pW q ds n,by simp,fun a ha b hb=>?_⟩
    rw[ao3.1 hb]
    rintro rfl
    obtain⟨d,h1,_⟩:=(yK q ds _ n).1 ha
    simp only[Bool.and_eq_true,apB,List.any_eq_false] at hc
    exact hc.1 d (List.mem_of_find?_eq_some h1) (by rw[Pd h1];simp)
   ·simpa using pW q ds n
theorem uD(q:Def->Bool)(ds:List Def):∀ n,(nQ q ds n).length<=n
 | 0=>by simp[nQ]
 | n+1=>by
  rw[nQ,ao6]
  have:=uD q ds n
  cases hd:ds[n]? with
  | none=>simp;omega
  | some e=>simp only;split<;>simp<;>omega
def iW(mods:List Id)(name:ga)(d:Def):Bool:=d.name==name&&mods.contains d.mod
def dZ(p:Prog)(mods:List Id)(name:ga):List Id:=ku (nQ (iW mods name) p.defs p.defs.length)
theorem nA{p:Prog}{mods:List Id}{name:ga}{x:Id} : x∈dZ p mods name↔∃ d,oJ p x=some d/\d.name=name/\d.mod∈mods:=by
 rw[dZ,MD,yK,aq0]
 constructor
 ·rintro ⟨d,h1,h2⟩
  simp only[iW,Bool.and_eq_true,ap1,List.contains_iff_mem] at h2
  exact⟨d,h1,h2⟩
 ·rintro ⟨d,h1,h2⟩
  exact⟨d,h1,by simpa [iW,Bool.and_eq_true,ap1,List.contains_iff_mem] using h2⟩
theorem rY{p:Prog}{mods:List Id}{name:ga} : Up (dZ p mods name):=R1 (pW _ _ _)
def qL:ga->Option (ga × ga)
 | []=>none
 | c :: s=>if c=46 then some ([],s) else (qL s).map fun r=>(c :: r.1,r.2)
def kM(p:Prog)(k:ga)(x:Id):Bool:=match fM p x with|some m=>m.name==k|none=>false
def dC(p:Prog)(mod:Id)(name:ga):List Id :=
 match fM p mod with
 | none=>[]
 | some m=>match qL name with
  | some r=>dZ p ((mod :: m.fX).filter (kM p r.1)) r.2
  | none=>if dZ p [mod] name≠[] then dZ p [mod] name else dZ p (m.fX.filter fun x=>(fM p x).isSome) name
def vD(p:Prog)(mod:Id)(name:ga)(out:List Id)(e:Def):List Id :=
 match oJ p e.id with
 | some d=>if d.mod=mod/\d.name=name then zH out d.id else out
 | none=>out
def U0(p:Prog)(mod:Id)(name:ga):List Id:=p.defs.foldl (vD p mod name) []
theorem Ir(p:Prog)(mod:Id)(name:ga):∀ (l:List Def) (out:List Id),Up out->Up (l.foldl (vD p mod name) out) /\
  ∀ x,x∈l.foldl (vD p mod name) out↔x∈out\/∃ e∈l,∃ d,oJ p e.id=some d/\d.mod=mod/\d.name=name/\x=d.id
 | [],out,h=>⟨h,fun x=>by simp⟩
 | e :: l,out,h=>by
  rw[aqt]
  have h1:Up (vD p mod name out e)/\∀ x,x∈vD p mod name out e↔x∈out\/∃ d,oJ p e.id=some d/\d.mod=mod/\d.name=name/\x=d.id:=by
   rw[vD]
   cases hd:oJ p e.id with
   | none=>exact⟨h,fun x=>by simp⟩
   | some d =>
    simp only
    split
    ·rename_i hc
     refine⟨Ct h,fun x=>?_⟩
     rw[uo]
     constructor
     ·rintro (h|h)
      ·exact .inl h
      ·exact .inr ⟨d,rfl,hc.1,hc.2,h⟩
     ·rintro (h|⟨d',h1,h2,h3,h4⟩)
      ·exact .inl h
      ·cases apA h1;exact .inr h4
    ·rename_i hc
     refine⟨h,fun x=>?_⟩
     constructor
     ·exact .inl
     ·rintro (h|⟨d',h1,h2,h3,h4⟩)
      ·exact h
      ·cases apA h1;exact absurd ⟨h2,h3⟩ hc
  obtain⟨h2,h3⟩:=Ir p mod name l _ h1.1
  refine⟨h2,fun x=>?_⟩
  rw[h3,h1.2]
  simp only[ao8,exists_eq_or_imp,or_assoc]
theorem wS{p:Prog}{x:Id}{d:Def}(h:oJ p x=some d):d.id=x:=Pd h
theorem xu{p:Prog}{x:Id}{d:Def}(h:oJ p x=some d):d∈p.defs:=List.mem_of_find?_eq_some h
theorem aaZ{p:Prog}{mod:Id}{name:ga} : Up (U0 p mod name):=(Ir p mod name p.defs [] trivial).1
theorem uj{p:Prog}{mod:Id}{name:ga}{x:Id} : x∈U0 p mod name↔∃ d,oJ p x=some d/\d.name=name/\d.mod=mod:=by
 rw[U0,(Ir p mod name p.defs [] trivial).2 x]
 constructor
 ·rintro (h|⟨e,h1,d,h2,h3,h4,h5⟩)
  ·simp at h
  ·have:=wS h2
   rw[<- this] at h2
   rw[h5]
   exact⟨d,h2,h4,h3⟩
 ·rintro ⟨d,h1,h2,h3⟩
  exact .inr ⟨d,xu h1,d,by rw[wS h1];exact h1,h3,h2,(wS h1).symm⟩
theorem Mx{p:Prog}{mod:Id}{name:ga} : U0 p mod name=dZ p [mod] name :=
 Ha aaZ rY fun x=>by rw[uj,nA];simp
def sj(p:Prog)(out:List Id)(x:Id):List Id:=if (fM p x).isSome&&!(out.contains x) then out++[x] else out
def KW(p:Prog)(mod:Id):List Id :=
 match fM p mod with
 | none=>[]
 | some m=>m.fX.foldl (sj p) [mod]
theorem Ci(p:Prog):∀ (l out:List Id),(∃ more,l.foldl (sj p) out=out++more/\(∀ x∈more,x∉out)/\(∀ x∈more,x∈l/\(fM p x).isSome)/\∀ x∈l,(fM p x).isSome->x∈out\/x∈more)
 | [],out=>⟨[],by simp,by simp,by simp,by simp⟩
 | a :: l,out=>by
  rw[aqt]
  by_cases hc:((fM p a).isSome&&!(out.contains a))=true
  ·have hs:sj p out a=out++[a]:=by rw[sj,if_pos hc]
   rw[hs]
   obtain⟨more,h1,h2,h3,h4⟩:=Ci p l (out++[a])
   simp only[Bool.and_eq_true,apB,aqm,apL] at hc
   refine⟨a :: more,by rw[h1];simp,?_,?_,?_⟩
   ·intro x hx
    rcases ao8.1 hx with e|e
    ·rw[e];exact hc.2
    ·have:=h2 x e;simp at this;exact this.1
   ·intro x hx
    rcases ao8.1 hx with e|e
    ·rw[e];exact⟨by simp,hc.1⟩
    ·exact⟨apd _ (h3 x e).1,(h3 x e).2⟩
   ·intro x hx hm
    rcases ao8.1 hx with e|e
    ·exact .inr (by rw[e];simp)
    ·rcases h4 x e hm with h|h
     ·rcases aoX.1 h with h|h
      ·exact .inl h
      ·exact .inr (by rw[ao3.1 h];simp)
     ·exact .inr (apd _ h)
  ·have hs:sj p out a=out:=by rw[sj,if_neg hc]
   rw[hs]
   obtain⟨more,h1,h2,h3,h4⟩:=Ci p l out
   refine⟨more,h1,h2,fun x hx=>⟨apd _ (h3 x hx).1,(h3 x hx).2⟩,?_⟩
   intro x hx hm
   rcases ao8.1 hx with e|e
   ·subst e
    by_cases hx:x∈out
    ·exact .inl hx
    ·exact absurd (by simp[hm,hx]) hc
   ·exact h4 x e hm
def rD(p:Prog)(k:Option ga)(f:ga)(out:List Id)(x:Id):List Id :=
 if k.all (fun k=>((fM p x).map (·.name)).getD []==k) then (U0 p x f).foldl zH out else out
def YE(p:Prog)(mod:Id)(name:ga):List Id :=
 match qL name with
 | some r=>(KW p mod).foldl (rD p (some r.1) r.2) []
 | none=>if 0<(KW p mod).length/\U0 p mod name≠[] then U0 p mod name else ((KW p mod).drop 1).foldl (rD p none name) []
theorem Kd:∀ (l out:List Id),Up out->Up (l.foldl zH out)/\∀ x,x∈l.foldl zH out↔x∈out\/x∈l
 | [],out,h=>⟨h,by simp⟩
 | a :: l,out,h=>by
  rw[aqt]
  obtain⟨h1,h2⟩:=Kd l _ (Ct (x:=a) h)
  refine⟨h1,fun x=>?_⟩
  rw[h2,uo,ao8,or_assoc]
theorem ub(p:Prog)(k:Option ga)(f:ga):∀ (l out:List Id),Up out->Up (l.foldl (rD p k f) out) /\
  ∀ x,x∈l.foldl (rD p k f) out↔x∈out\/∃ y∈l,k.all (fun k=>((fM p y).map (·.name)).getD []==k)=true/\x∈U0 p y f
 | [],out,h=>⟨h,by simp⟩
 | a :: l,out,h=>by
  rw[aqt,rD]
  by_cases hc:k.all (fun k=>((fM p a).map (·.name)).getD []==k)=true
  ·rw[if_pos hc]
   obtain⟨g1,g2⟩:=Kd (U0 p a f) out h
   obtain⟨h1,h2⟩:=ub p k f l _ g1
   refine⟨h1,fun x=>?_⟩
   rw[h2,g2]
   simp only[ao8,exists_eq_or_imp,hc,aq8,or_assoc]
  ·rw[if_neg hc]
   obtain⟨h1,h2⟩:=ub p k f l _ h
   refine⟨h1,fun x=>?_⟩
   rw[h2]
   simp only[ao8,exists_eq_or_imp,hc,false_and,false_or]
   simp
theorem find_eq(p:Prog)(mod:Id)(name:ga):dC p mod name=YE p mod name:=by
 rw[dC,YE,KW]
 cases hm:fM p mod with
 | none=>cases qL name<;>simp
 | some m =>
  simp only
  obtain⟨more,h1,h2,h3,h4⟩:=Ci p m.fX [mod]
  rw[h1]
  cases amo:qL name with
  | some r =>
   simp only
   obtain⟨g1,g2⟩:=ub p (some r.1) r.2 ([mod]++more) [] trivial
   refine Ha rY g1 fun x=>?_
   rw[nA,g2]
   constructor
   ·rintro ⟨d,e1,e2,e3⟩
    rw[apK] at e3
    have e4:=e3.2
    rw[kM] at e4
    cases hy:fM p d.mod with
    | none=>rw[hy] at e4;simp at e4
    | some y =>
     rw[hy] at e4
     refine .inr ⟨d.mod,?_,by simpa [hy] using e4,uj.2 ⟨d,e1,e2,rfl⟩⟩
     rcases ao8.1 e3.1 with e|e
     ·rw[e];simp
     ·rcases h4 d.mod e (by rw[hy];rfl) with h|h
      ·rw[ao3.1 h];simp
      ·simp[h]
   ·rintro (h|⟨y,e1,e2,e3⟩)
    ·simp at h
    ·obtain⟨d,e4,e5,e6⟩:=uj.1 e3
     refine⟨d,e4,e5,?_⟩
     subst e6
     have hs:(fM p d.mod).isSome/\d.mod∈mod :: m.fX:=by
      rcases aoX.1 e1 with e|e
      ·rw[ao3.1 e];exact⟨by rw[hm];rfl,by simp⟩
      ·exact⟨(h3 _ e).2,apd _ (h3 _ e).1⟩
     refine apK.2 ⟨hs.2,?_⟩
     cases hy:fM p d.mod with
     | none=>rw[hy] at hs;simp at hs
     | some y =>
      rw[kM,hy]
      simpa [hy] using e2
  | none =>
   simp only
   rw[Mx]
   by_cases ho:dZ p [mod] name=[]
   ·rw[if_neg (by simpa using ho),if_neg (by simp[ho])]
    obtain⟨g1,g2⟩:=ub p none name (([mod]++more).drop 1) [] trivial
    refine Ha rY g1 fun x=>?_
    rw[nA,g2]
    constructor
    ·rintro ⟨d,e1,e2,e3⟩
     rw[apK] at e3
     refine .inr ⟨d.mod,?_,by simp,uj.2 ⟨d,e1,e2,rfl⟩⟩
     rcases h4 d.mod e3.1 e3.2 with h|h
     ·exfalso
      have:=(nA (p:=p) (mods:=[mod]) (name:=name) (x:=x)).2 ⟨d,e1,e2,h⟩
      rw[ho] at this
      simp at this
     ·simpa using h
    ·rintro (h|⟨y,e1,e2,e3⟩)
     ·simp at h
     ·obtain⟨d,e4,e5,e6⟩:=uj.1 e3
      subst e6
      have e1' : d.mod∈more:=by simpa using e1
      exact⟨d,e4,e5,apK.2 (h3 _ e1')⟩
   ·rw[if_pos (by simpa using ho),if_pos ⟨by simp,by simpa using ho⟩]
def gP(f:Prog->Id->ga->List Id)(p:Prog)(mod id:Id):ga :=
 match oJ p id with
 | none=>[]
 | some d =>
  if f p mod d.name=[id] then d.name
  else if f p mod (((fM p d.mod).map (·.name)).getD []++[46]++d.name)=[id] then ((fM p d.mod).map (·.name)).getD []++[46]++d.name
  else []
theorem Jm{p:Prog}{mod id:Id}(h:gP dC p mod id≠[]):dC p mod (gP dC p mod id)=[id]:=by
 rw[gP] at *
 cases hd:oJ p id with
 | none=>rw[hd] at h;simp at h
 | some d =>
  rw[hd] at h
  simp only at *
  split at h
  ·rename_i h1;rw[if_pos h1];exact h1
  ·rename_i h1
   split at h
   ·rename_i h2;rw[if_neg h1,if_pos h2];exact h2
   ·simp at h
theorem Ah:∀ {a b:ga},46∉a->qL (a++[46]++b)=some (a,b)
 | [],b,_=>by simp[qL]
 | c :: a,b,h=>by
  simp only[ao8,not_or] at h
  simp only[apj,qL]
  rw[if_neg (fun e=>h.1 e.symm),Ah h.2]
  rfl
structure NU (p:Prog):Prop where
 mods:∀ m∈p.mods,fM p m.id=some m
 defs:∀ d∈p.defs,oJ p d.id=some d
 names:∀ m∈p.mods,∀ n∈p.mods,m.name=n.name->m.id=n.id
 pm:∀ m∈p.mods,46∉m.name
 pd:∀ d∈p.defs,46∉d.name
 home:∀ d∈p.defs,∃ m∈p.mods,m.id=d.mod
theorem Nu{l:List Id}{x:Id}(hu:Up l)(h:∀ y,y∈l↔y=x):l=[x] :=
 Ha hu ⟨by simp,trivial⟩ fun y=>by rw[h];simp
theorem MT{p:Prog}(hp:NU p){m:Mod}(hm:m∈p.mods){d:Def}(hd:d∈p.defs)(hn:d.name≠[])
  (hs:d.mod=m.id\/d.mod∈m.fX) (ha:∀ e∈p.defs,e.name=d.name->e.mod=d.mod->e.id=d.id):gP dC p m.id d.id≠[]:=by
 have hdf:=hp.defs d hd
 have hmf:=hp.mods m hm
 rw[gP,hdf]
 simp only
 by_cases h1:dC p m.id d.name=[d.id]
 ·rw[if_pos h1];exact hn
 ·rw[if_neg h1]
  obtain⟨k,hk,hkd⟩:=hp.home d hd
  have YP:=hp.mods k hk
  rw[hkd] at YP
  have afG:dC p m.id (((fM p d.mod).map (·.name)).getD []++[46]++d.name)=[d.id]:=by
   rw[YP]
   simp only[Option.map_some,Option.getD_some]
   rw[dC,hmf]
   simp only
   rw[Ah (hp.pm k hk)]
   simp only
   refine Nu rY fun y=>?_
   rw[nA]
   constructor
   ·rintro ⟨e,e1,e2,e3⟩
    rw[apK] at e3
    have e4:=e3.2
    rw[kM] at e4
    cases hy:fM p e.mod with
    | none=>rw[hy] at e4;simp at e4
    | some z =>
     rw[hy] at e4
     have hz:z∈p.mods:=List.mem_of_find?_eq_some hy
     have hzi:z.id=e.mod:=Z6 hy
     have:=hp.names z hz k hk (eq_of_beq e4)
     have e5:=ha e (xu e1) e2 (by rw[<- hzi,this,hkd])
     rw[<- e5,wS e1]
   ·rintro rfl
    refine⟨d,hdf,rfl,apK.2 ⟨?_,by rw[kM,YP];simp⟩⟩
    rcases hs with e|e
    ·rw[e];simp
    ·exact apd _ e
  rw[if_pos afG,YP]
  simp
end Go.Proofs.YthbncinhhdogpaaGreatDoor
namespace Go.Proofs.YthbncinhhdogpaaGreatDoor
open Go Go.Abs Go.Proofs
theorem Zb(x:Int)(H:ah):aE A 98 [.int .i64 x] H=some (.bool false,none):=by
 refine cc (fn:=RZ) rfl rfl rfl ?_
 unfold RZ
 simp(disch:=omega)only[aL,aa,simprocAttr,bne_self_eq_false]
def xr(x y:Int):Int:=if x<y then -1 else if x>y then 1 else 0
theorem u3(x y:Int)(H:ah):aE A 65 [.int .i64 x,.int .i64 y] H=some (.int .i64 (xr x y),none):=by
 refine cc (fn:=RX) rfl rfl rfl ?_
 unfold RX
 have h1:=Zb x H
 have h2:=Zb y H
 by_cases c1:x<y
 ·simp(disch:=omega)only[aL,aa,simprocAttr,h1,h2,c1,xr,ap4]
 ·by_cases c2:x>y
  ·simp(disch:=omega)only[aL,aa,simprocAttr,h1,h2,c1,c2,xr,ap4,ap2]
  ·simp(disch:=omega)only[aL,aa,simprocAttr,h1,h2,c1,c2,xr,ap2]
def Zc:List Int->Int
 | []=>0
 | x :: l=>if x≠0 then x else Zc l
theorem aj5(l:List Int)(H:ah)(hl:l.length<=1000000):aE A 64 [.slice (ints l) false] H=some (.int .i64 (Zc l),none):=by
 refine cc (fn:=RW) rfl rfl rfl ?_
 unfold RW
 simp(disch:=omega)only[aL,aa,simprocAttr,lP]
 refine wO l.length (fun i=>Hd (fun T=>T 3=.int .i64 0/\T 6=.slice (ints l) false/\T 7=.int .i64 l.length/\T 8=.int .i64 i/\Zc l=Zc (l.drop i)) H H.length 0) ?_ 0 _ (apZ _) ?_
 ·rintro i s hi hs
  obtain⟨T,rfl,h3,h6,h7,h8,hc⟩:=hs.out
  by_cases h:i<l.length
  ·have hg:=ints_at (aoT h)
   rw[apG h,Zc] at hc
   generalize l[i]=e at hg hc
   by_cases he:e=0
   ·subst he
    rw[if_neg (by simp)] at hc
    simp(disch:=omega)only[aL,aa,simprocAttr,h3,h6,h7,h8,hg,bne_self_eq_false]
    exact⟨h,hc⟩
   ·rw[if_pos he] at hc
    simp(disch:=omega)only[aL,aa,simprocAttr,h3,h6,h7,h8,hg,he,hc]
  ·have:i=l.length:=by omega
   subst this
   simp only[aqp,Zc] at hc
   simp(disch:=omega)only[aL,aa,simprocAttr,h3,h6,h7,h8,hc]
 ·simp(disch:=omega)only[aL,aa,simprocAttr,apN,apb]
def W3(a b:Id):Int:=Zc [xr a.bN b.bN,xr a.seq b.seq,xr a.index b.index]
theorem acj(a b:Id):decide (W3 a b<0)=th a b:=by
 simp only[W3,Zc,xr,th]
 rcases Int.lt_trichotomy a.bN b.bN with h|h|h
 ·simp[h,show a.bN≠b.bN by omega]
 ·simp only[h,Int.lt_irrefl,ap2,ap4]
  rcases Int.lt_trichotomy a.seq b.seq with h|h|h
  ·simp[h,show a.seq≠b.seq by omega]
  ·simp only[h,Int.lt_irrefl,ap2,ap4]
   rcases Int.lt_trichotomy a.index b.index with h|h|h
   ·simp[h]
   ·simp[h]
   ·simp[h,show ¬ a.index<b.index by omega]
  ·simp[h,show ¬ a.seq<b.seq by omega,show a.seq≠b.seq by omega]
 ·simp[h,show ¬ a.bN<b.bN by omega,show a.bN≠b.bN by omega]
theorem W4(a b:Id)(H:ah):aE A 49 [.agg (av a),.agg (av b)] H=some (.int .i64 (W3 a b),none):=by
 refine cc (fn:=RP) rfl rfl rfl ?_
 unfold RP
 have h1:=u3 a.bN b.bN H
 have h2:=u3 a.seq b.seq H
 have h3:=u3 a.index b.index H
 have h4:=aj5 [xr a.bN b.bN,xr a.seq b.seq,xr a.index b.index] H (by simp)
 simp only[ints,apm,apz] at h4
 rw[av,av]
 simp(disch:=omega)only[aL,aa,simprocAttr,h1,h2,h3,h4,W3]
theorem dp{z:Nat} : ∀ {rows:List (List AV)},(∀ r∈rows,r.length=z)->rows.flatten.length=rows.length*z
 | [],_=>by simp
 | r :: rows,h=>by
  rw[apJ,ao6,dp (fun r hr=>h r (apd _ hr)),h r (ao9 ..),List.length_cons,apy,aqE,aq5]
theorem FD{z:Nat} : ∀ {rows:List (List AV)} {i:Nat} {r:List AV},(∀ r∈rows,r.length=z)->rows[i]?=some r->(rows.flatten.drop (i*z)).take z=r
 | [],i,r,_,hi=>by simp at hi
 | a :: rows,0,r,h,hi=>by
  simp only[ao4,aoQ] at hi
  subst hi
  have ha:=h a (ao9 ..)
  rw[aqI,apN,apJ,<- ha,List.take_left']
  rfl
 | a :: rows,i+1,r,h,hi=>by
  have ha:=h a (ao9 ..)
  rw[apJ,apy,aqE,aq5,<- ha,<- aqr,List.drop_left' rfl,ha]
  exact FD (fun r hr=>h r (apd _ hr)) (by simpa using hi)
theorem oQ{l:List Id} : ∀ r∈aF l,r.length=3:=fun r hr=>by
 simp only[aF,apu] at hr
 obtain⟨i,_,rfl⟩:=hr
 rfl
theorem FX{l:List Id}{i:Nat}{d:Id}(h:l[i]?=some d):ag false true 3 (i*3) (aF l).flatten=some (.agg (av d)):=by
 have aU:=(aoR.1 h).1
 have hl:(aF l).flatten.length=l.length*3:=by rw[dp oQ,cZ]
 simp only[ag,cond_true,hl,apD (show i*3+3<=l.length*3 by omega)]
 rw[FD (i:=i) oQ (ou h)]
 rfl
theorem vg{z:Nat} : ∀ {rows:List (List AV)} {i:Nat} {r:List AV} (j:Nat),(∀ r∈rows,r.length=z)->rows[i]?=some r->j<=z->rows.flatten.drop (i*z+j)=r.drop j++(rows.drop (i+1)).flatten
 | [],i,r,j,_,hi,_=>by simp at hi
 | a :: rows,0,r,j,h,hi,hj=>by
  simp only[ao4,aoQ] at hi
  subst hi
  have ha:=h a (ao9 ..)
  rw[aqI,Nat.zero_add,apJ,List.drop_append_of_le_length (by omega)]
  rfl
 | a :: rows,i+1,r,j,h,hi,hj=>by
  have ha:=h a (ao9 ..)
  have e:(i+1)*z+j=a.length+(i*z+j):=by rw[apy,aqE,ha];omega
  rw[e,apJ,<- aqr,List.drop_left' rfl,vg j (fun r hr=>h r (apd _ hr)) (by simpa using hi) hj]
  rfl
theorem Au{z:Nat}{rows:List (List AV)}{i j:Nat}{r:List AV}(h:∀ r∈rows,r.length=z)(hi:rows[i]?=some r)(hj:j<z):rows.flatten[i*z+j]?=r[j]?:=by
 have hr:=h r (ao0 hi)
 have:=vg j h hi (aqS hj)
 have e:rows.flatten[i*z+j]?=(rows.flatten.drop (i*z+j))[0]?:=by rw[apq];rfl
 rw[e,this,ao7 (by rw[aqV];omega),apq]
 rfl
theorem gp{z:Nat}{rows:List (List AV)}{i j sz:Nat}{r:List AV}{agg:Bool}(h:∀ r∈rows,r.length=z)(hi:rows[i]?=some r)(hz:0<z)(hj:j+sz<=z)(hjz:j<z) :
  ag false agg sz (i*z+j) rows.flatten=ag false agg sz j r:=by
 have hr:=h r (ao0 hi)
 have aU:=(aoR.1 hi).1
 have hl:rows.flatten.length=rows.length*z:=dp h
 have hb:i*z+z<=rows.length*z:=by rw[<- Nat.succ_mul];exact apl _ aU
 cases agg with
 | true =>
  simp only[ag,cond_true,hl,hr,apD (show i*z+j+sz<=rows.length*z by omega),apD hj]
  rw[vg j h hi (by omega),arh (by rw[aqV];omega)]
 | false =>
  simp only[ag,aoZ]
  rw[Au h hi hjz]
theorem nu{z:Nat} : ∀ {rows:List (List AV)} {i j:Nat} {r cs:List AV},(∀ r∈rows,r.length=z)->rows[i]?=some r->j+cs.length<=z->putAt rows.flatten (i*z+j) cs=(rows.set i (putAt r j cs)).flatten
 | [],i,j,r,cs,_,hi,_=>by simp at hi
 | a :: rows,0,j,r,cs,h,hi,hj=>by
  simp only[ao4,aoQ] at hi
  subst hi
  have ha:=h a (ao9 ..)
  simp only[putAt,aqI,Nat.zero_add,apJ,List.set_cons_zero]
  rw[arh (by omega),List.drop_append_of_le_length (by omega)]
  simp only[ap']
 | a :: rows,i+1,j,r,cs,h,hi,hj=>by
  have ha:=h a (ao9 ..)
  have ih:=nu (j:=j) (cs:=cs) (fun r hr=>h r (apd _ hr)) (by simpa using hi) hj
  have e:(i+1)*z+j=a.length+(i*z+j):=by rw[apy,aqE,ha];omega
  simp only[apJ,List.set_cons_succ,<- ih]
  simp only[putAt,e]
  rw[List.take_length_add_append,aqu,List.drop_length_add_append]
  simp only[ap']
theorem Kx{l:List Id}{q:Nat}{x:Id}(h:q<l.length):List.take (q*3) (aF l).flatten++[.int .i64 x.bN,.int .i64 x.seq,.int .i64 x.index]++List.drop (q*3+3) (aF l).flatten=(aF (l.set q x)).flatten:=by
 have h0:l[q]?=some l[q]:=aoT h
 have:=nu (z:=3) (j:=0) (cs:=av x) oQ (ou h0) (by simp[av])
 rw[ap6] at this
 rw[show aF (l.set q x)=(aF l).set q (putAt (av l[q]) 0 (av x)) by simp[aF,List.map_set,putAt,av],<- this]
 simp only[putAt,av,List.length_cons,List.length_nil]
theorem agk{mm lo n:Nat}(h:lo=n\/lo=mm)(aU:mm<n):(bif decide (mm<lo) then mm else lo)=mm:=by
 rcases h with rfl|rfl
 ·rw[decide_eq_true aU];rfl
 ·simp
theorem se{H:ah}{i:Nat}{o:cj} : (H.set i o).take H.length=H.set i o:=apM (ap0 apX)
theorem yX{H:ah}{i:Nat}{o:cj} : (H.set i o).length=H.length:=apX
def Bj(H:ah)(loc:Nat)(ty:TypeId)(q:List Id):ah:=H.set loc (.box ty (aF q).flatten)
theorem Dg{H:ah}{loc:Nat}{ty:TypeId}{q:List Id}(h:loc<H.length):(Bj H loc ty q)[loc]?=some (.box ty (aF q).flatten):=apo h
theorem uN{H:ah}{loc:Nat}{ty:TypeId}{q:List Id} : (Bj H loc ty q).length=H.length:=apX
theorem rC{H:ah}{loc:Nat}{ty:TypeId}{q:List Id} : (Bj H loc ty q).take H.length=Bj H loc ty q:=se
theorem Yf{H:ah}{loc:Nat}{ty:TypeId}{q:List Id}{o:cj} : (Bj H loc ty q).set loc o=H.set loc o:=by unfold Bj;rw[List.set_set]
def wN(H:ah)(loc:Nat)(ty:TypeId)(l q:List Id)(c:Option fQ):Prop:=(c=none/\q=l)\/c=some ⟨Bj H loc ty q,loc⟩
theorem F1(l:List Id)(H:ah)(loc:Nat)(ty:TypeId)(hH:H[loc]?=some (.box ty (aF l).flatten))(hl:l.length<=1000)(cy:∀ q,jW H.length loc (Bj H loc ty q)=true) :
  ∃ c,aE A 88 [.sref loc 0 l.length 3,.int .i64 0,.int .i64 l.length,.func (.func 49) [] []] H=some (.tuple [],c)/\wN H loc ty l (ku l) c:=by
 have aU:loc<H.length:=(aoR.1 hH).1
 have qo:Bj H loc ty l=H:=by
  unfold Bj
  refine aqa fun j=>?_
  rw[apr]
  split
  ·rename_i hj;subst hj;exact hH.symm
  ·rfl
 have key:∃ r,aE A 88 [.sref loc 0 l.length 3,.int .i64 0,.int .i64 l.length,.func (.func 49) [] []] H=some r/\r.1=.tuple []/\wN H loc ty l (ku l) r.2:=by
  refine tI (fn:=I6) rfl rfl rfl ?_
  unfold I6
  simp(disch:=omega)only[aL,aa,simprocAttr]
  refine bQ (l.length-1) 0 (fun i s=>∃ T lo,s=⟨T,Bj H loc ty (lp (i+1) l),lo,0⟩/\((lo=H.length/\lp (i+1) l=l)\/lo=loc)/\T 0=.sref loc 0 l.length 3/\T 1=.int .i64 0/\T 2=.int .i64 l.length/\T 3=.func (.func 49) [] []/\T 8=.int .i64 (i+1))
   (fun s=>∃ T lo,s=⟨T,Bj H loc ty (ku l),lo,0⟩/\((lo=H.length/\ku l=l)\/lo=loc)) (fun _=>False) ?_ ?_ (fun _ h=>h.elim) 0 _ (by omega) ?_
  ·rintro i s hi ⟨T,lo,rfl,qn,e0,e1,e2,e3,e8⟩
   by_cases jT:i<l.length-1
   ·simp(disch:=omega)only[aL,aa,simprocAttr,e0,e1,e2,e3,e8,show ((i:Int)+1<l.length)=True by simp;omega]
    refine TE 2 (fun k s=>∃ T lo q,s=⟨T,Bj H loc ty q,lo,0⟩/\q.length=l.length/\k<=i+1/\Ll k q=lp (i+1+1) l/\((lo=H.length/\q=l)\/lo=loc)/\T 0=.sref loc 0 l.length 3/\T 1=.int .i64 0/\T 2=.int .i64 l.length/\T 3=.func (.func 49) [] []/\T 8=.int .i64 (i+1)/\T 9=.int .i64 k)
     (fun s=>∃ T lo,s=⟨T,Bj H loc ty (lp (i+1+1) l),lo,0⟩/\((lo=H.length/\lp (i+1+1) l=l)\/lo=loc)/\T 0=.sref loc 0 l.length 3/\T 1=.int .i64 0/\T 2=.int .i64 l.length/\T 3=.func (.func 49) [] []/\T 8=.int .i64 (i+1)) (fun _=>False) ?_ ?_ (fun _ h=>h.elim) (i+1) _ ?_
    ·rintro k s ⟨T,lo,q,rfl,hq,hk,hb,qn,e0,e1,e2,e3,e8,e9⟩
     cases k with
     | zero =>
      simp(disch:=omega)only[aL,aa,simprocAttr,e0,e1,e2,e3,e8,e9,apb]
      simp only[Ll] at hb
      subst hb
      exact⟨_,_,rfl,qn,by simp(disch:=omega)only[aL,aa,simprocAttr,e0,e1,e2,e3,e8]⟩
     | succ k =>
      have g1:k+1<q.length:=by omega
      have g0:k<q.length:=by omega
      have q1:=FX (aoT g1)
      have q0:=FX (aoT g0)
      have cX:=W4 q[k+1] q[k] (Bj H loc ty q)
      have wG:=acj q[k+1] q[k]
      have fE:=Dg (ty:=ty) (q:=q) aU
      have aiI:Ll (k+1) q=if th q[k+1] q[k] then Ll k ((q.set (k+1) q[k]).set k q[k+1]) else q:=by
       simp only[Ll,aoT g1,aoT g0]
      rw[aiI] at hb
      have sE:((k:Int)+1-1)=k:=by omega
      have ht:((k:Int)+1).toNat=k+1:=by omega
      have e9' : T 9=.int .i64 ((k:Int)+1):=by rw[e9];simp
      have AF:decide (k+1<l.length)=true:=by simp;omega
      have afA:decide (k<l.length)=true:=by simp;omega
      cases hc:th q[k+1] q[k] with
      | false =>
       rw[hc] at wG hb
       simp only[apC,ap2] at hb
       generalize q[k+1]=x at *
       generalize q[k]=y at *
       rw[av] at q1 q0
       rw[av,av] at cX
       simp(disch:=omega)only[aL,aa,simprocAttr,e0,e1,e2,e3,e8,e9',fE,q1,q0,cX,wG,sE,ht,AF,afA]
       exact⟨_,_,by rw[hb],by rw[<- hb];exact qn,by simp(disch:=omega)only[aL,aa,simprocAttr,e0,e1,e2,e3,e8]⟩
      | true =>
       rw[hc] at wG hb
       simp only[ap4] at hb
       generalize q[k+1]=x at *
       generalize q[k]=y at *
       have aaz:(lo=H.length\/lo=loc):=by rcases qn with h|h;exact .inl h.1;exact .inr h
       have p1:=Kx (l:=q) (q:=k+1) (x:=y) g1
       have p0:=Kx (l:=q.set (k+1) y) (q:=k) (x:=x) (by simpa using g0)
       rw[av] at q1 q0
       rw[av,av] at cX
       have aiG:decide ((k+1)*3+3<=(aF q).flatten.length)=true:=by rw[dp oQ,cZ];simp;omega
       have aiF:decide (k*3+3<=(aF (q.set (k+1) y)).flatten.length)=true:=by rw[dp oQ,cZ];simp;omega
       have afu:=fun o=>apo (a:=o) (l:=H) (i:=loc) aU
       have Tu:=agk aaz aU
       have fY:(bif decide (loc<loc) then loc else loc)=loc:=by simp
       simp(disch:=omega)only[aL,aa,simprocAttr,e0,e1,e2,e3,e8,e9',fE,afu,q1,q0,cX,wG,sE,ht,AF,afA,p1,p0,aiG,aiF,Yf,List.set_set,Tu,fY]
       exact⟨k,by omega,_,loc,(q.set (k+1) y).set k x,rfl,by simp[hq],by omega,hb,.inr rfl,by simp(disch:=omega)only[aL,aa,simprocAttr,e0,e1,e2,e3,e8]⟩
    ·rintro s ⟨T,lo,rfl,qn,e0,e1,e2,e3,e8⟩
     simp(disch:=omega)only[aL,aa,simprocAttr,e0,e1,e2,e3,e8]
     exact⟨jT,_,_,rfl,qn,by simp(disch:=omega)only[aL,aa,simprocAttr,e0,e1,e2,e3]⟩
    ·exact⟨_,_,_,rfl,lD,aoU _,rfl,qn,by simp(disch:=omega)only[aL,aa,simprocAttr,e0,e1,e2,e3,e8]⟩
   ·have UF:lp (i+1) l=ku l:=by
     unfold ku
     by_cases h0:l.length=0
     ·have:i=0:=by omega
      subst this
      rw[h0];rfl
     ·rw[show l.length=i+1 by omega]
    rw[UF] at qn ⊢
    simp(disch:=omega)only[aL,aa,simprocAttr,e0,e1,e2,e3,e8,show ((i:Int)+1<l.length)=False by simp;omega]
    exact⟨_,_,rfl,qn⟩
  ·rintro s ⟨T,lo,rfl,qn⟩
   rcases qn with ⟨rfl,h⟩|rfl
   ·simp(disch:=omega)only[aL,aa,simprocAttr,uN,rC]
    exact .inl ⟨rfl,h⟩
   ·have bB:Nat.beq lo H.length=false:=by simp[dR];omega
    simp(disch:=omega)only[aL,aa,simprocAttr,uN,rC,bB,cy]
    exact .inr rfl
  ·refine⟨_,_,by rw[show lp (0+1) l=l from rfl,qo],.inl ⟨rfl,rfl⟩,by simp(disch:=omega)only[aL,aa,simprocAttr,apb,Int.zero_add]⟩
 obtain⟨r,h1,h2,h3⟩:=key
 obtain⟨r1,c⟩:=r
 simp only at h2 h3
 subst h2
 exact⟨c,h1,h3⟩
theorem Ww(n:Nat)(hn:n<=12)(H:ah):aE A 97 [.int .u64 n] H=some (.int .i64 (([0,1,2,2,3,3,3,3,4,4,4,4,4]:List Int).getD n 0),none):=by
 refine cc (fn:=RY) rfl rfl rfl ?_
 unfold RY
 have h:n=0\/n=1\/n=2\/n=3\/n=4\/n=5\/n=6\/n=7\/n=8\/n=9\/n=10\/n=11\/n=12:=by omega
 have w:∀ k:Nat,k<=12->IntKind.u8.wrap (k:Int)=k:=fun k hk=>by
  have:k=0\/k=1\/k=2\/k=3\/k=4\/k=5\/k=6\/k=7\/k=8\/k=9\/k=10\/k=11\/k=12:=by omega
  rcases this with rfl|rfl|rfl|rfl|rfl|rfl|rfl|rfl|rfl|rfl|rfl|rfl|rfl<;>decide
 have hw:=w n hn
 have g:∀ k:Nat,k<=12->asNat (.int .u8 (k:Int))=some k:=fun k hk=>by simp[asNat]
 have hg:=g n hn
 simp(disch:=omega)only[aL,aa,simprocAttr,hw,hg]
 rcases h with rfl|rfl|rfl|rfl|rfl|rfl|rfl|rfl|rfl|rfl|rfl|rfl|rfl
 all_goals
  simp(disch:=omega)only[aL,aa,simprocAttr]
  rfl
theorem Y8(n:Nat)(hn:n<=12):∃ z:Int,∀ H,aE A 63 [.int .u64 n] H=some (.int .i64 z,none):=by
 refine⟨([0,1,2,2,3,3,3,3,4,4,4,4,4]:List Int).getD n 0,fun H=>?_⟩
 refine cc (fn:=RV) rfl rfl rfl ?_
 unfold RV
 have h:=Ww n hn H
 simp(disch:=omega)only[aL,aa,simprocAttr,h]
theorem Cu(H:ah):aE A 88 [.slice [] false,.int .i64 0,.int .i64 0,.func (.func 49) [] []] H=some (.tuple [],none):=by
 refine cc (fn:=I6) rfl rfl rfl ?_
 unfold I6
 simp(disch:=omega)only[aL,aa,simprocAttr]
 refine bQ 0 0 (fun i=>Hd (fun T=>T 2=.int .i64 0/\T 8=.int .i64 1) H H.length 0) (Hd (fun T=>True) H H.length 0) (fun _=>False) ?_ ?_ (fun _ h=>h.elim) 0 _ (by omega) ?_
 ·rintro i s hi hs
  obtain⟨T,rfl,e2,e8⟩:=hs.out
  simp(disch:=omega)only[aL,aa,simprocAttr,e2,e8]
 ·rintro s hs
  obtain⟨T,rfl,_⟩:=hs.out
  simp(disch:=omega)only[aL,aa,simprocAttr]
 ·simp(disch:=omega)only[aL,aa,simprocAttr]
theorem acv(H:ah)(z:Int):aE A 62 [.slice [] false,.int .i64 0,.int .i64 0,.int .i64 z,.func (.func 49) [] []] H=some (.tuple [],none):=by
 refine cc (fn:=I5) rfl rfl rfl ?_
 unfold I5
 have h:=Cu H
 simp(disch:=omega)only[aL,aa,simprocAttr]
 refine bQ 0 0 (fun i=>Hd (fun T=>T 0=.slice [] false/\T 1=.int .i64 0/\T 2=.int .i64 0/\T 4=.func (.func 49) [] []) H H.length 0) (fun _=>False) (Hd (fun T=>True) H H.length 0) ?_ (fun _ h=>h.elim) ?_ 0 _ (by omega) ?_
 ·rintro i s hi hs
  obtain⟨T,rfl,e0,e1,e2,e4⟩:=hs.out
  simp(disch:=omega)only[aL,aa,simprocAttr,e0,e1,e2,e4,h]
 ·rintro s hs
  obtain⟨T,rfl,_⟩:=hs.out
  simp(disch:=omega)only[aL,aa,simprocAttr]
 ·simp(disch:=omega)only[aL,aa,simprocAttr]
theorem Yb(H:ah):aE A 48 [.slice [] false,.func (.func 49) [] []] H=some (.tuple [],none):=by
 refine cc (fn:=I4) rfl rfl rfl ?_
 unfold I4
 obtain⟨z,hz⟩:=Y8 0 (by omega)
 have h:=acv H z
 have IV:=hz H
 simp only[apb] at IV
 have hw:IntKind.u64.wrap 0=0:=by decide
 simp(disch:=omega)only[aL,aa,simprocAttr,h,IV,hw]
theorem agv(l:List Id)(H:ah)(loc:Nat)(ty:TypeId)(z:Int)(hH:H[loc]?=some (.box ty (aF l).flatten))(hl:l.length<=12)(cy:∀ q,jW H.length loc (Bj H loc ty q)=true) :
  ∃ c,aE A 62 [.sref loc 0 l.length 3,.int .i64 0,.int .i64 l.length,.int .i64 z,.func (.func 49) [] []] H=some (.tuple [],c)/\wN H loc ty l (ku l) c:=by
 obtain⟨c,h,hc⟩:=F1 l H loc ty hH (by omega) cy
 have aU:loc<H.length:=(aoR.1 hH).1
 refine⟨c,?_,hc⟩
 refine cc (fn:=I5) rfl rfl rfl ?_
 unfold I5
 simp(disch:=omega)only[aL,aa,simprocAttr]
 rcases hc with ⟨rfl,hq⟩|rfl
 ·refine bQ 0 0 (fun i=>Hd (fun T=>T 0=.sref loc 0 l.length 3/\T 1=.int .i64 0/\T 2=.int .i64 l.length/\T 4=.func (.func 49) [] []) H H.length 0) (fun _=>False) (Hd (fun T=>True) H H.length 0) ?_ (fun _ h=>h.elim) ?_ 0 _ (by omega) ?_
  ·rintro i s hi hs
   obtain⟨T,rfl,e0,e1,e2,e4⟩:=hs.out
   simp(disch:=omega)only[aL,aa,simprocAttr,e0,e1,e2,e4,h,show ((l.length:Int)<=12)=True by simp;omega,Int.sub_zero]
  ·rintro s hs
   obtain⟨T,rfl,_⟩:=hs.out
   simp(disch:=omega)only[aL,aa,simprocAttr]
  ·simp(disch:=omega)only[aL,aa,simprocAttr]
 ·have bB:Nat.beq loc H.length=false:=by simp[dR];omega
  refine bQ 0 0 (fun i=>Hd (fun T=>T 0=.sref loc 0 l.length 3/\T 1=.int .i64 0/\T 2=.int .i64 l.length/\T 4=.func (.func 49) [] []) H H.length 0) (fun _=>False) (Hd (fun T=>True) (Bj H loc ty (ku l)) loc 0) ?_ (fun _ h=>h.elim) ?_ 0 _ (by omega) ?_
  ·rintro i s hi hs
   obtain⟨T,rfl,e0,e1,e2,e4⟩:=hs.out
   simp(disch:=omega)only[aL,aa,simprocAttr,e0,e1,e2,e4,h,show ((l.length:Int)<=12)=True by simp;omega,Int.sub_zero]
  ·rintro s hs
   obtain⟨T,rfl,_⟩:=hs.out
   simp(disch:=omega)only[aL,aa,simprocAttr,uN,rC,bB,cy]
  ·simp(disch:=omega)only[aL,aa,simprocAttr]
theorem adx(l:List Id)(H:ah)(loc:Nat)(ty:TypeId)(hH:H[loc]?=some (.box ty (aF l).flatten))(hl:l.length<=12)(cy:∀ q,jW H.length loc (Bj H loc ty q)=true) :
  ∃ c,aE A 48 [.sref loc 0 l.length 3,.func (.func 49) [] []] H=some (.tuple [],c)/\wN H loc ty l (ku l) c:=by
 obtain⟨z,hz⟩:=Y8 l.length hl
 obtain⟨c,h,hc⟩:=agv l H loc ty z hH hl cy
 have aU:loc<H.length:=(aoR.1 hH).1
 refine⟨c,?_,hc⟩
 refine cc (fn:=I4) rfl rfl rfl ?_
 unfold I4
 have hw:IntKind.u64.wrap (l.length:Int)=l.length:=by
  have:(l.length:Int)<=12:=by omega
  have h0:(0:Int)<=l.length:=by omega
  generalize (l.length:Int)=x at *
  have:x=0\/x=1\/x=2\/x=3\/x=4\/x=5\/x=6\/x=7\/x=8\/x=9\/x=10\/x=11\/x=12:=by omega
  rcases this with rfl|rfl|rfl|rfl|rfl|rfl|rfl|rfl|rfl|rfl|rfl|rfl|rfl<;>decide
 rcases hc with ⟨rfl,hq⟩|rfl
 ·simp(disch:=omega)only[aL,aa,simprocAttr,hz,h,hw]
 ·have bB:Nat.beq loc H.length=false:=by simp[dR];omega
  simp(disch:=omega)only[aL,aa,simprocAttr,hz,h,hw,uN,rC,bB,cy]
def zM:List AV:=[.int .i64 0,.int .i64 0,.int .i64 0,.str [],.ae,.ae]
def zD:List AV:=[.int .i64 0,.int .i64 0,.int .i64 0,.int .i64 0,.int .i64 0,.int .i64 0,.int .i64 0,.str [],.ae,.int .i64 0,.int .i64 0,.int .i64 0,.int .i64 0,.ae,.int .i64 0,.int .i64 0,.int .i64 0,.int .i64 0,.int .i64 0,.int .i64 0,.int .i64 0,.int .i64 0,.int .i64 0,.int .i64 0,.int .i64 0,.int .i64 0,.ae,.ae,.ae,.int .i64 0,.ae]
def qv(p:Prog)(i:Id):AV:=match fM p i with|some m=>.tuple [.agg (dK m),.bool true]|none=>.tuple [.agg zM,.bool false]
def Ov(p:Prog)(i:Id):AV:=match oJ p i with|some m=>.tuple [.agg (bg m),.bool true]|none=>.tuple [.agg zD,.bool false]
theorem oU(p:Prog)(i:Id)(H:ah)(hp:p.mods.length<=1000000):aE A 23 [.agg (aR p),.agg (av i)] H=some (qv p i,none):=by
 refine cc (fn:=RB) rfl rfl rfl ?_
 unfold RB
 rw[aR,av]
 have hz:zM.map AV.drop=zM:=rfl
 simp(disch:=omega)only[aL,aa,simprocAttr,gO,dm]
 refine bQ p.mods.length 0 (fun k=>w6 (fun T=>T 2=.lbox 0 [.slice (cx p.mods) false,.slice (cn p.defs) false]/\T 3=.lbox 1 [.int .i64 i.bN,.int .i64 i.seq,.int .i64 i.index]/\T 4=.lbox 2 zM/\T 9=.slice (cx p.mods) false/\T 10=.int .i64 p.mods.length/\T 11=.int .i64 k/\fM p i=(p.mods.drop k).find? (fun m=>m.id==i)) H H.length)
  (w6 (fun T=>T 4=.lbox 2 zM/\fM p i=none) H H.length) (w6 (fun T=>∃ m,T 4=.lbox 2 (dK m)/\T 5=.bool true/\fM p i=some m) H H.length) ?_ ?_ ?_ 0 _ (by omega) ?_
 ·rintro k s hk hs
  obtain⟨T,g,rfl,e2,e3,e4,e9,qs,mE,hc⟩:=hs.out
  by_cases iV:k<p.mods.length
  ·have hm:=CG (aoT iV)
   rw[apG iV,List.find?_cons] at hc
   generalize p.mods[k]=m at hm hc
   have h0:=Sh (m:=m)
   rw[av] at h0
   rw[zM] at e4
   cases hb:(m.id==i) with
   | true =>
    rw[hb] at hc
    simp(disch:=omega)only[aL,aa,simprocAttr,gO,dm,e2,e3,e4,e9,qs,mE,hm,iJ,iP,iQ,gI,j0,h0,apm,fT,ib,hb]
    exact⟨m,rfl,hc⟩
   | false =>
    rw[hb] at hc
    simp(disch:=omega)only[aL,aa,simprocAttr,gO,dm,e2,e3,e4,e9,qs,mE,hm,iJ,iP,iQ,gI,j0,h0,apm,fT,ib,hb]
    exact⟨iV,rfl,hc⟩
  ·have:k=p.mods.length:=by omega
   subst this
   rw[aqp] at hc
   rw[zM] at e4
   simp(disch:=omega)only[aL,aa,simprocAttr,gO,dm,e2,e3,e4,e9,qs,mE]
   exact⟨rfl,hc⟩
 ·rintro s hs
  obtain⟨T,g,rfl,e4,hc⟩:=hs.out
  rw[zM] at e4
  simp(disch:=omega)only[aL,aa,simprocAttr,e4,qv,hc,zM]
 ·rintro s hs
  obtain⟨T,g,rfl,m,e4,e5,hc⟩:=hs.out
  simp(disch:=omega)only[aL,aa,simprocAttr,e4,e5,qv,hc,iJ,iP,iQ,gI,j0]
 ·simp(disch:=omega)only[aL,aa,simprocAttr,zM,apb]
  rfl
theorem tU(p:Prog)(i:Id)(H:ah)(hp:p.defs.length<=1000000):aE A 34 [.agg (aR p),.agg (av i)] H=some (Ov p i,none):=by
 refine cc (fn:=RH) rfl rfl rfl ?_
 unfold RH
 rw[aR,av]
 have hz:zD.map AV.drop=zD:=rfl
 simp(disch:=omega)only[aL,aa,simprocAttr,gO,dm]
 refine bQ p.defs.length 0 (fun k=>w6 (fun T=>T 2=.lbox 0 [.slice (cx p.mods) false,.slice (cn p.defs) false]/\T 3=.lbox 1 [.int .i64 i.bN,.int .i64 i.seq,.int .i64 i.index]/\T 4=.lbox 2 zD/\T 9=.slice (cn p.defs) false/\T 10=.int .i64 p.defs.length/\T 11=.int .i64 k/\oJ p i=(p.defs.drop k).find? (fun m=>m.id==i)) H H.length)
  (w6 (fun T=>T 4=.lbox 2 zD/\oJ p i=none) H H.length) (w6 (fun T=>∃ m,T 4=.lbox 2 (bg m)/\T 5=.bool true/\oJ p i=some m) H H.length) ?_ ?_ ?_ 0 _ (by omega) ?_
 ·rintro k s hk hs
  obtain⟨T,g,rfl,e2,e3,e4,e9,qs,mE,hc⟩:=hs.out
  by_cases iV:k<p.defs.length
  ·have hm:=tV (aoT iV)
   rw[apG iV,List.find?_cons] at hc
   generalize p.defs[k]=m at hm hc
   have h0:=xw (d:=m)
   rw[av] at h0
   rw[zD] at e4
   cases hb:(m.id==i) with
   | true =>
    rw[hb] at hc
    simp(disch:=omega)only[aL,aa,simprocAttr,gO,dm,e2,e3,e4,e9,qs,mE,hm,cJ,cQ,cS,cv,dH,h0,apm,fT,ib,hb]
    exact⟨m,rfl,hc⟩
   | false =>
    rw[hb] at hc
    simp(disch:=omega)only[aL,aa,simprocAttr,gO,dm,e2,e3,e4,e9,qs,mE,hm,cJ,cQ,cS,cv,dH,h0,apm,fT,ib,hb]
    exact⟨iV,rfl,hc⟩
  ·have:k=p.defs.length:=by omega
   subst this
   rw[aqp] at hc
   rw[zD] at e4
   simp(disch:=omega)only[aL,aa,simprocAttr,gO,dm,e2,e3,e4,e9,qs,mE]
   exact⟨rfl,hc⟩
 ·rintro s hs
  obtain⟨T,g,rfl,e4,hc⟩:=hs.out
  rw[zD] at e4
  simp(disch:=omega)only[aL,aa,simprocAttr,e4,Ov,hc,zD]
 ·rintro s hs
  obtain⟨T,g,rfl,m,e4,e5,hc⟩:=hs.out
  simp(disch:=omega)only[aL,aa,simprocAttr,e4,e5,Ov,hc,cJ,cQ,cS,cv,dH]
 ·simp(disch:=omega)only[aL,aa,simprocAttr,zD,apb]
  rfl
def zG{α:Type}[BEq α](x:α):List α->Nat->Int
 | [],_=>-1
 | a :: l,i=>if a==x then i else zG x l (i+1)
theorem sG{α:Type}[BEq α][LawfulBEq α](x:α):∀ (l:List α) (i:Nat),decide (0<=zG x l i)=l.contains x
 | [],i=>by simp[zG]
 | a :: l,i=>by
  unfold zG
  by_cases h:a=x
  ·subst h;simp
  ·have h' : (a==x)=false:=by simpa using h
   have h2:(x==a)=false:=by simpa using fun e=>h e.symm
   rw[h',ark,h2,aq']
   exact sG x l (i+1)
theorem IX(l:List Id)(w:Id)(H:ah)(hl:l.length<=9223372036854775806):aE A 61 [.slice (aF l) false,.agg (av w)] H=some (.int .i64 (zG w l 0),none):=by
 refine cc (fn:=RU) rfl rfl rfl ?_
 unfold RU
 rw[av]
 simp(disch:=omega)only[Tp,aa,simprocAttr,cZ]
 refine wO l.length (fun i=>Hd (fun T=>T 0=.slice (aF l) false/\T 3=.ref H.length 0/\T 7=.int .i64 l.length/\T 8=.int .i64 i/\zG w l 0=zG w (l.drop i) i) (H++[.box 31 (av w)]) H.length 0) ?_ 0 _ (apZ _) ?_
 ·rintro i s hi hs
  obtain⟨T,rfl,h0,h3,h7,h8,hc⟩:=hs.out
  rw[av]
  by_cases h:i<l.length
  ·have hg:=ou (aoT h)
   have tD:zG w l 0=if l[i]==w then (i:Int) else zG w (l.drop (i+1)) (i+1):=by rw[hc,apG h];rfl
   generalize l[i]=e at hg tD
   rw[av] at hg
   cases hb:(w==e) with
   | true =>
    have fP:(e==w)=true:=by rw[ap1] at *;exact hb.symm
    rw[fP] at tD
    simp(disch:=omega)only[YA,aa,simprocAttr,h0,h3,h7,h8,hg,fT,ib,hb]
    simp[tD]
   | false =>
    have fP:(e==w)=false:=by rw[aq2] at *;exact ap3 hb
    rw[fP] at tD
    simp(disch:=omega)only[YA,aa,simprocAttr,h0,h3,h7,h8,hg,fT,ib,hb]
    first|exact⟨⟨h,by simpa using tD⟩,rfl⟩|exact⟨h,by simpa using tD⟩|exact⟨h,by simpa using tD,rfl⟩|(simp[h];simpa using tD)
  ·have:i=l.length:=by omega
   subst this
   simp(disch:=omega)only[YA,aa,simprocAttr,h0,h3,h7,h8]
   simp[hc,zG]
 ·simp(disch:=omega)only[Tp,aa,simprocAttr,apN,apb]
  first|rfl|exact⟨rfl,rfl⟩
theorem BS(l:List Id)(w:Id)(H:ah)(hl:l.length<=9223372036854775806):aE A 47 [.slice (aF l) false,.agg (av w)] H=some (.bool (l.contains w),none):=by
 refine cc (fn:=RO) rfl rfl rfl ?_
 unfold RO
 have hx:=IX l w (H++[.box 31 (av w)]) hl
 rw[av] at *
 simp(disch:=omega)only[Tp,aa,simprocAttr,hx,ge_iff_le,sG]
theorem ae9(l:List Id)(x:Id)(H:ah)(hl:l.length<=1000000):aE A 13 [.slice (aF l) false,.agg (av x)] H=some (.bool (l.contains x),none):=by
 refine cc (fn:=I1) rfl rfl rfl ?_
 unfold I1
 rw[av]
 simp(disch:=omega)only[aL,aa,simprocAttr,cZ]
 refine bQ l.length 0 (fun i=>Hd (fun T=>T 0=.slice (aF l) false/\T 3=.lbox 0 [.int .i64 x.bN,.int .i64 x.seq,.int .i64 x.index]/\T 5=.int .i64 i/\l.contains x=(l.drop i).contains x) H H.length 1)
  (Hd (fun T=>l.contains x=false) H H.length 1) (Hd (fun T=>T 4=.bool true/\l.contains x=true) H H.length 1) ?_ ?_ ?_ 0 _ (apZ _) ?_
 ·rintro i s hi hs
  obtain⟨T,rfl,h0,h3,h5,hc⟩:=hs.out
  by_cases h:i<l.length
  ·have hg:=ou (aoT h)
   rw[apG h,ark] at hc
   generalize l[i]=e at hg hc
   rw[av] at hg
   cases hb:(e==x) with
   | true =>
    have:(x==e)=true:=by rw[ap1] at *;exact hb.symm
    rw[this,aqP] at hc
    simp(disch:=omega)only[aL,aa,simprocAttr,h0,h3,h5,hg,cZ,fT,ib,hb]
    exact hc
   | false =>
    have:(x==e)=false:=by rw[aq2] at *;exact ap3 hb
    rw[this,aq'] at hc
    simp(disch:=omega)only[aL,aa,simprocAttr,h0,h3,h5,hg,cZ,fT,ib,hb]
    exact⟨h,hc⟩
  ·have:i=l.length:=by omega
   subst this
   rw[aqp,List.contains_nil] at hc
   simp(disch:=omega)only[aL,aa,simprocAttr,h0,h3,h5,cZ]
   exact hc
 ·rintro s hs
  obtain⟨T,rfl,hc⟩:=hs.out
  simp(disch:=omega)only[aL,aa,simprocAttr,hc]
 ·rintro s hs
  obtain⟨T,rfl,h4,hc⟩:=hs.out
  simp(disch:=omega)only[aL,aa,simprocAttr,h4,hc]
 ·simp(disch:=omega)only[aL,aa,simprocAttr,apN,apb]
theorem Nk(a b:List Id)(H:ah)(ha:a.length<=1000000):aE A 7 [.slice (aF a) false,.slice (aF b) false] H=some (.bool (a==b),none):=by
 refine cc (fn:=ir7) rfl rfl rfl ?_
 unfold ir7
 by_cases hl:(a.length:Int)=b.length
 ·simp(disch:=omega)only[aL,aa,simprocAttr,cZ,hl,bne_self_eq_false]
  try rw[<- hl]
  refine bQ a.length 0 (fun i=>Hd (fun T=>T 0=.slice (aF a) false/\T 1=.slice (aF b) false/\T 5=.int .i64 i/\(a==b)=(a.drop i==b.drop i)) H H.length 0)
   (Hd (fun T=>(a==b)=true) H H.length 0) (Hd (fun T=>T 4=.bool false/\(a==b)=false) H H.length 0) ?_ ?_ ?_ 0 _ (apZ _) ?_
  ·rintro i s hi hs
   obtain⟨T,rfl,e0,e1,e5,hc⟩:=hs.out
   by_cases h:i<a.length
   ·have h' : i<b.length:=by omega
    have hg:=ou (aoT h)
    have IK:=ou (aoT h')
    rw[apG h,apG h'] at hc
    generalize a[i]=x at hg hc
    generalize b[i]=y at IK hc
    rw[av] at hg IK
    have IG:(a==b)=(x==y&&(a.drop (i+1)==b.drop (i+1))):=by rw[hc];rfl
    cases hb:(x==y) with
    | true =>
     rw[hb,aql] at IG
     simp(disch:=omega)only[aL,aa,simprocAttr,e0,e1,e5,hg,IK,cZ,fT,ib,hb]
     exact⟨h,IG⟩
    | false =>
     rw[hb,aqb] at IG
     simp(disch:=omega)only[aL,aa,simprocAttr,e0,e1,e5,hg,IK,cZ,fT,ib,hb]
     exact IG
   ·have:i=a.length:=by omega
    subst this
    have UB:b.drop a.length=[]:=by rw[show a.length=b.length by omega,aqp]
    rw[aqp,UB] at hc
    simp(disch:=omega)only[aL,aa,simprocAttr,e0,e1,e5,cZ]
    exact hc
  ·rintro s hs
   obtain⟨T,rfl,hc⟩:=hs.out
   simp(disch:=omega)only[aL,aa,simprocAttr,hc]
  ·rintro s hs
   obtain⟨T,rfl,e4,hc⟩:=hs.out
   simp(disch:=omega)only[aL,aa,simprocAttr,e4,hc]
  ·simp(disch:=omega)only[aL,aa,simprocAttr,apN,apb]
   try exact hl
 ·have bB:(a==b)=false:=by
   rw[aq2]
   rintro rfl
   exact hl rfl
  simp(disch:=omega)only[aL,aa,simprocAttr,cZ,hl,bB]
theorem xH(a b:List Id)(H:ah)(ha:a.length<=1000000):aE A 35 [.slice (aF a) false,.slice (aF b) false] H=some (.bool (a==b),none):=by
 refine cc (fn:=RI) rfl rfl rfl ?_
 unfold RI
 by_cases hl:(a.length:Int)=b.length
 ·simp(disch:=omega)only[aL,aa,simprocAttr,cZ,hl,bne_self_eq_false]
  try rw[<- hl]
  refine bQ a.length 0 (fun i=>Hd (fun T=>T 0=.slice (aF a) false/\T 1=.slice (aF b) false/\T 12=.int .i64 a.length/\T 13=.int .i64 i/\(a==b)=(a.drop i==b.drop i)) H H.length 0)
   (Hd (fun T=>(a==b)=true) H H.length 0) (Hd (fun T=>T 4=.bool false/\(a==b)=false) H H.length 0) ?_ ?_ ?_ 0 _ (apZ _) ?_
  ·rintro i s hi hs
   obtain⟨T,rfl,e0,e1,rN,sB,hc⟩:=hs.out
   by_cases h:i<a.length
   ·have h' : i<b.length:=by omega
    have hg:=ou (aoT h)
    have IK:=ou (aoT h')
    rw[apG h,apG h'] at hc
    generalize a[i]=x at hg hc
    generalize b[i]=y at IK hc
    rw[av] at hg IK
    have IG:(a==b)=(x==y&&(a.drop (i+1)==b.drop (i+1))):=by rw[hc];rfl
    cases hb:(x==y) with
    | true =>
     rw[hb,aql] at IG
     simp(disch:=omega)only[aL,aa,simprocAttr,e0,e1,rN,sB,hg,IK,cZ,fT,ib,hb]
     exact⟨h,IG⟩
    | false =>
     rw[hb,aqb] at IG
     simp(disch:=omega)only[aL,aa,simprocAttr,e0,e1,rN,sB,hg,IK,cZ,fT,ib,hb]
     exact IG
   ·have:i=a.length:=by omega
    subst this
    have UB:b.drop a.length=[]:=by rw[show a.length=b.length by omega,aqp]
    rw[aqp,UB] at hc
    simp(disch:=omega)only[aL,aa,simprocAttr,e0,e1,rN,sB,cZ]
    exact hc
  ·rintro s hs
   obtain⟨T,rfl,hc⟩:=hs.out
   simp(disch:=omega)only[aL,aa,simprocAttr,hc]
  ·rintro s hs
   obtain⟨T,rfl,e4,hc⟩:=hs.out
   simp(disch:=omega)only[aL,aa,simprocAttr,e4,hc]
  ·simp(disch:=omega)only[aL,aa,simprocAttr,apN,apb]
   try exact hl
 ·have bB:(a==b)=false:=by
   rw[aq2]
   rintro rfl
   exact hl rfl
  simp(disch:=omega)only[aL,aa,simprocAttr,cZ,hl,bB]
theorem Ai:∀ (s:ga) (k:Nat),(∃ i:Nat,i<s.length/\mg 46 k s=(k+i:Nat)/\qL s=some (s.take i,s.drop (i+1)))\/(mg 46 k s=-1/\qL s=none)
 | [],k=>.inr ⟨rfl,rfl⟩
 | c :: s,k=>by
  by_cases h:c=46
  ·subst h
   exact .inl ⟨0,by simp,rfl,rfl⟩
  ·have hd:decide ((c.toNat:Int)=46)=false:=by
    simp only[apL]
    intro e
    apply h
    have:c.toNat=46:=by omega
    exact UInt8.toNat_inj.1 this
   rcases Ai s (k+1) with ⟨i,h1,h2,h3⟩|⟨h1,h2⟩
   ·refine .inl ⟨i+1,by simp;omega,?_,?_⟩
    ·simp only[mg,hd,aoZ,h2];omega
    ·simp only[qL,if_neg h,h3];rfl
   ·refine .inr ⟨?_,?_⟩
    ·simp only[mg,hd,aoZ,h1]
    ·simp only[qL,if_neg h,h2];rfl
theorem FZ(s:ga)(H:ah):aE A 84 [.str s,.int .u8 46] H=some (.int .i64 (mg 46 0 s),none):=xi (g:=gR) rfl rfl
theorem PO(s:ga)(H:ah):aE A 60 [.str s,.str [46]] H=some (.int .i64 (mg 46 0 s),none):=by
 refine cc (fn:=RT) rfl rfl rfl ?_
 unfold RT
 have h:=FZ s H
 have h46:((46:UInt8).toNat:Int)=46:=rfl
 by_cases hs:([46]:ga)=s
 ·subst hs
  have h1:mg 46 0 ([46]:ga)=0:=rfl
  simp(disch:=omega)only[aL,aa,simprocAttr,h,h46,h1]
 ·have hb:((([46]:ga))==s)=false:=by simpa using hs
  simp(disch:=omega)only[aL,aa,simprocAttr,h,h46,hb]
def BU(s:ga):AV:=match qL s with|some r=>.tuple [.str r.1,.str r.2,.bool true]|none=>.tuple [.str s,.str [],.bool false]
theorem ZJ(s:ga)(H:ah)(hs:s.length<=4611686018427387904):aE A 46 [.str s,.str [46]] H=some (BU s,none):=by
 refine cc (fn:=RN) rfl rfl rfl ?_
 unfold RN
 have h:=PO s H
 rcases Ai s 0 with ⟨i,h1,h2,h3⟩|⟨h1,h2⟩
 ·rw[h2,Nat.zero_add] at h
  have ht:s.take s.length=s:=aq0
  have hn:((i:Int)+1).toNat=i+1:=by omega
  simp(disch:=omega)only[aL,aa,simprocAttr,h,BU,h3,ht,hn]
 ·rw[h1] at h
  simp(disch:=omega)only[aL,aa,simprocAttr,h,BU,h2]
theorem Yy(s:ga)(H:ah)(hs:s.length<=4611686018427387904):aE A 24 [.str s,.str [46]] H=some (BU s,none):=by
 refine cc (fn:=RC) rfl rfl rfl ?_
 unfold RC
 have h:=ZJ s H hs
 unfold BU at *
 cases hc:qL s with
 | none =>
  rw[hc] at h
  simp(disch:=omega)only[aL,aa,simprocAttr,h]
 | some r =>
  rw[hc] at h
  simp(disch:=omega)only[aL,aa,simprocAttr,h]
section
theorem LP{x:Id}{l:List Id} : sW (x :: l)=.slice (aF (x :: l)) false:=rfl
theorem ON:sW []=.ae:=rfl
section
variable {B:AP}{T:aw}{H:ah}{lo gen:Nat}{K:AS->Prop}{d:Bool}{os:List aj}{t:Nat}
theorem SI{x:an}{neg:Bool} : WO B d (⟨some t,none,.nilS neg x⟩ :: os) ⟨T,H,lo,gen⟩ K=cW B d ((yF (x.eval B.aN T)).map fun b=>.bool (neg != b)) t os T H lo gen K:=by
 refine ff ?_
 simp only[aq]
 cases yF (x.eval B.aN T)<;>rfl
end
theorem MY:yF .ae=some true:=rfl
theorem MX{x:Id}{l:List Id}{o:Bool} : yF (.slice (aF (x :: l)) o)=some false:=rfl
theorem TO(l:List Id)(H:ah)(hl:l.length<=1000000):aE A 27 [sW l] H=some (.slice (aF l) true,none):=by
 refine cc (fn:=RF) rfl rfl rfl ?_
 unfold RF
 cases l with
 | nil =>
  simp(disch:=omega)only[aL,aa,simprocAttr,ON,sV,SI,MY,show (false != true)=true from rfl]
 | cons x l =>
  have ha:=Bu (l:=[]) (m:=x :: l) (o:=false) (by simp at *;omega)
  simp only[sV,apv] at ha
  simp(disch:=omega)only[aL,aa,simprocAttr,LP,ha,SI,MX,show (false != false)=false from rfl]
theorem Z9(p:Prog)(i:Id)(H:ah)(a:Nat)(hp:p.mods.length<=1000000)(hH:H[a]?=some (.box 26 (aR p))):aE A 28 [.agg (av i),.ref a 0] H=some (.bool (!(fM p i).isSome),none):=by
 refine cc (fn:=RG) rfl rfl rfl ?_
 unfold RG
 have h:=fun H=>oU p i H hp
 rw[av] at *
 have mf:(aR p).length=2:=rfl
 have AJ:(aR p).take 2=aR p:=rfl
 have YU:(aR p).map AV.drop=aR p:=rfl
 cases hm:fM p i with
 | none =>
  have hR:qv p i=.tuple [.agg zM,.bool false]:=by rw[qv,hm]
  simp only[hR,zM] at h
  simp(disch:=omega)only[aL,aa,simprocAttr,h,hH,mf,AJ,YU]
  try simp
 | some m =>
  have hR:qv p i=.tuple [.agg (dK m),.bool true]:=by rw[qv,hm]
  simp only[hR] at h
  simp(disch:=omega)only[aL,aa,simprocAttr,h,hH,mf,AJ,YU,iJ,iP,iQ,gI,j0]
  try simp
end
theorem nS{z:Nat} : ∀ {rows:List (List AV)},(∀ r∈rows,r.length=z)->chunks z rows.length rows.flatten=rows
 | [],_=>rfl
 | r :: rows,h=>by
  have hr:=h r (by simp)
  rw[List.length_cons,chunks,apJ,<- hr,List.take_left' rfl,List.drop_left' rfl,hr,nS fun r hr=>h r (by simp[hr])]
theorem jU{x:AV}(h:dh x=true):jG x=true:=by
 have:=Aa h
 cases x with
 | int k n=>cases k<;>first|rfl|(simp[Jn] at this)
 | any=>simp[Jn] at this
 | _=>rfl
theorem nf{x:AV}(h:dh x=true){H:ah}{base k:Nat} : dY H base k x=x:=by
 have:=bH h
 cases k with
 | zero=>rfl
 | succ k=>cases x<;>first|rfl|(simp[AV.plain] at this)
theorem xU{H:ah}{base l z k:Nat}{o:cj}{rows:List (List AV)}(hb:base<=l)(hl:H[l]?=some o)(ho:jV o=some rows.flatten)(hw:dO z rows)(hz:0<z) :
  dY H base (k+1) (.sref l 0 rows.length z)=.slice rows false:=by
 have hx:∀ x∈rows.flatten,dh x=true:=aoV.1 hw.flat
 have h1:(rows.flatten.all fun x=>(dY H base k x.drop).plain&&jG x)=true:=by
  rw[aoV]
  intro x h
  have:=hx x h
  rw[bL this,nf this,bH this,jU this];rfl
 have h2:rows.flatten.map (fun x=>dY H base k x.drop)=rows.flatten:=by
  conv=>rhs;rw[<- List.map_id rows.flatten]
  refine aph fun x h=>?_
  have:=hx x h
  rw[bL this,nf this];rfl
 have h4:=dp hw.wide
 rw[dY]
 simp only[apD hb,cond_true,hl,aoW,ho,h1,h2,h4,Nat.zero_add,apN,apD (aoU _),Bool.and_true]
 rw[show Nat.blt 0 z=true by simpa [api] using hz,cond_true,nS hw.wide]
theorem Fy{base t l z:Nat}{fn:ax}{s:AS}{rows:List (List AV)}{o:cj}(hr:fn.results=[.tmp t])(m8:fn.muts.elem 888888=false)(m7:fn.muts.elem 777777=false)(hT:s.T t=.sref l 0 rows.length z)
  (hH:s.H[l]?=some o) (ho:jV o=some rows.flatten) (hl:base<=l) (hw:dO z rows) (hz:0<z) (qn:s.lo=base):finish base fn s=some (.slice rows false,none):=by
 have h1:nD base s=true:=by simp[nD,qn]
 have hb:Nat.blt l base=false:=by rw[<- arb,api];omega
 have h0:gN base [.tmp t] s=none:=by
  simp only[gN,kO,mr,iR,hT,al,cond_true,aoW,AV.leaves,AV.bn,AV.aG,hb,aoZ]
 have hp:pL base [.tmp t] s=none:=by simp only[pL,List.length_cons,List.length_nil];rfl
 have hzz:=xU (k:=2) hl hH ho hw hz
 have hf:pK base [.tmp t] s=some (.slice rows false,none):=by
  simp only[pK,uG,iR,hT,al,cond_true,Option.map_some,AV.aX,AV.drop,L4,hzz,aoW,AV.leaves,qn,Nat.beq_refl]
 have h3:kI base fn s=some (.slice rows false,none):=by
  unfold kI rP nW
  rw[h1,m8,hr]
  simp only[cond_true,aoZ,h0,hp,hf]
 unfold finish
 rw[h3,Option.map_some,nB m7]
theorem Us{base t:Nat}{fn:ax}{s:AS}{rows:List (List AV)}{own:Bool}(hr:fn.results=[.tmp t])(m8:fn.muts.elem 888888=false)(m7:fn.muts.elem 777777=false)(hT:s.T t=.slice rows own)
  (qn:s.lo=base):finish base fn s=some (.slice rows own,none):=by
 have h1:nD base s=true:=by simp[nD,qn]
 have h0:gN base [.tmp t] s=some (.slice rows own,none):=by
  simp only[gN,kO,mr,iR,hT,al,cond_true,aoW,AV.leaves,qn,Nat.beq_refl]
  try rfl
 have h3:kI base fn s=some (.slice rows own,none):=by
  unfold kI rP nW
  rw[h1,m8,hr]
  simp only[cond_true,aoZ,h0]
 unfold finish
 rw[h3,Option.map_some,nB m7]
def kL(l:List Id):List (List AV):=l.map fun x=>[.int .i64 x.bN,.int .i64 x.seq,.int .i64 x.index,.bool true]
theorem Pb{i j:Id}{r:List AV} : bI [.i,.i,.i] [.int .i64 i.bN,.int .i64 i.seq,.int .i64 i.index] (.int .i64 j.bN :: .int .i64 j.seq :: .int .i64 j.index :: r)=some (i==j):=by
 obtain⟨a,b,c⟩:=i
 obtain⟨x,y,z⟩:=j
 simp only[bI,arz,cond_true,Option.map_some,Bool.and_true,aoQ]
 rw[Bool.eq_iff_iff]
 simp
theorem xR(x:Id):∀ l:List Id,∃ o,fw [.i,.i,.i] [.int .i64 x.bN,.int .i64 x.seq,.int .i64 x.index] (kL l)=some o/\((o=none/\l.contains x=false)\/∃ i,o=some i/\l[i]?=some x/\l.contains x=true)
 | []=>⟨none,rfl,.inl ⟨rfl,rfl⟩⟩
 | a :: l=>by
  obtain⟨o,h1,h2⟩:=xR x l
  show ∃ o,fw _ _ ([.int .i64 a.bN,.int .i64 a.seq,.int .i64 a.index,.bool true] :: kL l)=some o/\_
  rw[fw,Pb,aoW,h1,ark]
  cases hb:(x==a) with
  | true =>
   have:=eq_of_beq hb
   subst this
   exact⟨some 0,rfl,.inr ⟨0,rfl,rfl,by simp⟩⟩
  | false =>
   refine⟨o.map (· + 1),rfl,?_⟩
   rcases h2 with ⟨rfl,h⟩|⟨i,rfl,h3,h4⟩
   ·exact .inl ⟨rfl,by simpa using h⟩
   ·exact .inr ⟨i+1,rfl,by simpa using h3,by simp only[h4,aqO]⟩
def GS(l:List Id)(x:Id):List Id:=if l.contains x then l else l++[x]
theorem F5{l:List Id}{x:Id}{i:Nat}(h:l[i]?=some x):(kL l).set i [.int .i64 x.bN,.int .i64 x.seq,.int .i64 x.index,.bool true]=kL l:=by
 unfold kL
 refine aqa fun j=>?_
 rw[apr]
 split
 ·rename_i e
  subst e
  obtain⟨h1,h2⟩:=aoR.1 h
  simp[h1,h2]
 ·rfl
def nmT(q:List Id):ah:=match q with|[]=>[]|_=>List.replicate (q.length-1) .dead++[.box aJ (aF q).flatten]
def rf(H:ah)(m q:List Id):ah:=H++.map 3 true false (kL m) :: nmT q
def So(H:ah)(q:List Id):AV:=match q with|[]=>.slice [] true|_=>.sref (H.length+q.length) 0 q.length 3
theorem WY{q:List Id} : (nmT q).length=q.length:=by cases q<;>simp[nmT]
theorem Sp{H:ah}{m q:List Id} : (rf H m q).length=H.length+1+q.length:=by simp[rf,WY];omega
theorem Sq{H:ah}{m q:List Id} : (rf H m q)[H.length]?=some (.map 3 true false (kL m)):=by simp[rf]
theorem Sr{H:ah}{m m' q:List Id} : (rf H m q).set H.length (.map 3 true false (kL m'))=rf H m' q:=by
 unfold rf
 rw[apx _ _ (aoU _),apW];rfl
theorem Jq{H:ah}{m q:List Id}(h:q≠[]):(rf H m q)[H.length+q.length]?=some (.box aJ (aF q).flatten):=by
 cases q with
 | nil=>exact absurd rfl h
 | cons a q =>
  unfold rf nmT
  rw[ao5 (by omega),show H.length+(a :: q).length-H.length=q.length+1 by simp,apf,
   ao5 (by simp)]
  simp
theorem yG{H:ah}{q:List Id}(h:q≠[]):So H q=.sref (H.length+q.length) 0 q.length 3:=by
 cases q with
 | nil=>exact absurd rfl h
 | cons a q=>rfl
theorem aca{B:AP}{T:aw}{H:ah}{lo gen:Nat}{K:AS->Prop}{os:List aj}{t:Nat}{m q:List Id}{x:Id}{o:Bool}(hq:q.length<=1000000)(qn:lo=H.length) :
  Bs B 3 24 (So H q) (.slice [[.int .i64 x.bN,.int .i64 x.seq,.int .i64 x.index]] o) t os T (rf H m q) lo gen K=WO B false os ⟨T.put t (So H (q++[x])),rf H m (q++[x]),H.length,gen⟩ K:=by
 subst qn
 have f2:cC [[.int .i64 x.bN,.int .i64 x.seq,.int .i64 x.index]]=true:=rfl
 cases q with
 | nil =>
  show Bs B 3 24 (.slice [] true) _ t os T _ _ gen K=_
  rw[Hz (by rfl) f2]
  have e:(rf H m ([]:List Id)).length=H.length+1:=by simp[rf,nmT]
  have hb:Nat.blt (H.length+1) H.length=false:=by
   cases h:Nat.blt (H.length+1) H.length with
   | true=>have:=Nat.le_of_ble_eq_true h;omega
   | false=>rfl
  rw[e,hb]
  simp[rf,nmT,So,aF,av]
 | cons a q =>
  show Bs B 3 24 (.sref (H.length+(a :: q).length) 0 (a :: q).length 3) _ t os T _ _ gen K=_
  have qw:(aF (a :: q)).flatten.length=(a :: q).length*3:=by rw[dp oQ,cZ]
  rw[wQ (Jq (by simp)) qw (by simp at *;omega) (by simp at *;omega) (by rfl) f2]
  have hb:Nat.blt (H.length+(a :: q).length) H.length=false:=by
   cases h:Nat.blt (H.length+(a :: q).length) H.length with
   | true=>have:=Nat.le_of_ble_eq_true h;simp at this;omega
   | false=>rfl
  rw[hb,Sp]
  have dB:(rf H m (a :: q)).set (H.length+(a :: q).length) .dead++[.box aJ ((aF (a :: q)).flatten++[[.int .i64 x.bN,.int .i64 x.seq,.int .i64 x.index]].flatten)]=rf H m (a :: q++[x]):=by
   unfold rf nmT
   rw[apx _ _ (by omega),show H.length+(a :: q).length-H.length=q.length+1 by simp,List.set_cons_succ,apx _ _ (by simp)]
   simp only[List.length_cons,List.length_replicate,Nat.add_sub_cancel,apW,List.set_cons_zero,apj,ao6,List.length_nil,Nat.zero_add,ap']
   congr 2
   rw[show q.length+1=(q.length)+1 from rfl,List.replicate_succ',ap']
   congr 1
   simp[aF,av]
  rw[dB]
  have hA:So H (a :: q++[x])=.sref (H.length+1+(a :: q).length) 0 ((a :: q).length+1) 3:=by
   rw[yG (by simp)]
   simp
   omega
  rw[hA]
  rfl
theorem WZ{H:ah}{m q:List Id}{x:Id} : AW (rf H m q) false 3 true false [.i,.i,.i] [.bool false] (.mref H.length) (.agg [.int .i64 x.bN,.int .i64 x.seq,.int .i64 x.index])=some (.bool (m.contains x)):=by
 obtain⟨o,h1,h2⟩:=xR x m
 have hk:Wu (.agg [.int .i64 x.bN,.int .i64 x.seq,.int .i64 x.index]) 3 true=some [.int .i64 x.bN,.int .i64 x.seq,.int .i64 x.index]:=rfl
 simp only[AW,hk,aoW,Sq,h1,Option.map_some]
 rcases h2 with ⟨rfl,h⟩|⟨i,rfl,h3,h4⟩
 ·rw[h];rfl
 ·rw[h4]
  have:(kL m).getD i []=[.int .i64 x.bN,.int .i64 x.seq,.int .i64 x.index,.bool true]:=by
   rw[apg,kL,ao1,h3];rfl
  simp only[oS,this]
  rfl
theorem W0{T:aw}{H:ah}{gen:Nat}{m q:List Id}{x:Id} : nj ⟨T,rf H m q,H.length,gen⟩ 3 true false 1 [.i,.i,.i] (.mref H.length) (.agg [.int .i64 x.bN,.int .i64 x.seq,.int .i64 x.index]) (.bool true)=some ⟨T,rf H (GS m x) q,H.length,gen⟩:=by
 obtain⟨o,h1,h2⟩:=xR x m
 have hc:(AV.agg [.int .i64 x.bN,.int .i64 x.seq,.int .i64 x.index]).drop.cells=some [.int .i64 x.bN,.int .i64 x.seq,.int .i64 x.index]:=rfl
 have hv:(AV.bool true).cells=some [.bool true]:=rfl
 have aff:(Nat.beq [AV.int .i64 x.bN,.int .i64 x.seq,.int .i64 x.index].length 3&&Nat.beq [AV.bool true].length 1&&Nat.beq 3 3&&true==true&&false==false&&true==(AV.agg [.int .i64 x.bN,.int .i64 x.seq,.int .i64 x.index]).drop.isAgg&&false==(AV.bool true).isAgg&&[AV.bool true].all (aV H.length)&&[AV.int .i64 x.bN,.int .i64 x.seq,.int .i64 x.index].all AV.plain)=true:=rfl
 have hb:Nat.blt H.length H.length=false:=by
  cases h:Nat.blt H.length H.length with
  | true=>have:=Nat.le_of_ble_eq_true h;omega
  | false=>rfl
 simp only[nj,Sq,hc,hv,aoW,aff,cond_true,h1,Option.map_some,AS.fp,hb,aoZ]
 congr 2
 rcases h2 with ⟨rfl,h⟩|⟨i,rfl,h3,h4⟩
 ·rw[GS,if_neg (by rw[h];simp)]
  refine Eq.trans ?_ (Sr (m:=m))
  congr 2
  simp[tz,kL]
 ·rw[GS,if_pos h4]
  refine Eq.trans ?_ (Sr (m:=m))
  congr 2
  exact F5 h3
def vo(ds:List Def):Nat->List Id
 | 0=>[]
 | n+1=>match ds[n]? with|some d=>GS (vo ds n) d.id|none=>vo ds n
theorem zT{l:List Id}{x y:Id} : (GS l x).contains y=(l.contains y || x==y):=by
 unfold GS
 split
 ·rename_i h
  by_cases he:x=y
  ·subst he;rw[h];rfl
  ·have:(x==y)=false:=by simpa using he
   rw[this,arx]
 ·rw[Bool.eq_iff_iff]
  simp only[List.contains_iff_mem,aoX,ao3,aqi,ap1]
  exact⟨fun h=>h.imp id Eq.symm,fun h=>h.imp id Eq.symm⟩
theorem ox(ds:List Def)(x:Id):∀ n,(vo ds n).contains x=(ds.take n).any fun e=>e.id==x
 | 0=>by simp[vo]
 | n+1=>by
  rw[vo,List.take_add_one]
  cases h:ds[n]? with
  | none=>simpa using ox ds x n
  | some d=>simp only[zT,ox ds x n,Option.toList_some,List.any_append,List.any_cons,List.any_nil,arx]
theorem LH{α:Type}{l:List α}{n:Nat}{x:α}(h:l.length=n+1)(hx:l[n]?=some x):l.drop n=[x]:=by
 obtain⟨h1,h2⟩:=aoR.1 hx
 rw[apG h1,h2,aru (by omega)]
theorem kA{s:AS}{v:AV} : s.bD (.cg v)=s:=rfl
theorem CH(p:Prog)(mods:List Id)(name:ga)(H:ah)(hp:p.defs.length<=12)(hm:mods.length<=1000000):∃ o,aE A 25 [.agg (aR p),.slice (aF mods) false,.str name] H=some (.slice (aF (dZ p mods name)) o,none):=by
 have key:∃ r,aE A 25 [.agg (aR p),.slice (aF mods) false,.str name] H=some r/\∃ o,r=(.slice (aF (dZ p mods name)) o,none):=by
  refine rJ (fn:=RD) rfl rfl rfl ?_
  unfold RD
  rw[aR]
  have hz:zD.map AV.drop=zD:=rfl
  have hlen:(H++[cj.map 3 true false []])=rf H [] []:=rfl
  simp(disch:=omega)only[aL,aa,simprocAttr,dm,hlen]
  refine bQ p.defs.length 0 (fun k s=>∃ T g,s=⟨T,rf H (vo p.defs k) (nQ (iW mods name) p.defs k),H.length,g⟩/\T 1=.slice (aF mods) false/\T 2=.str name/\T 7=So H (nQ (iW mods name) p.defs k)/\T 8=.mref H.length/\T 13=.slice (cn p.defs) false/\T 14=.int .i64 p.defs.length/\T 15=.int .i64 k)
   (fun s=>∃ T g,s=⟨T,rf H (vo p.defs p.defs.length) (nQ (iW mods name) p.defs p.defs.length),H.length,g⟩/\T 7=So H (nQ (iW mods name) p.defs p.defs.length)) (fun _=>False) ?_ ?_ (fun _ h=>h.elim) 0 _ (by omega) ?_
  ·rintro k s hk ⟨T,g,rfl,e1,e2,e7,e8,sB,Ff,ND⟩
   by_cases iV:k<p.defs.length
   ·have hd:=aoT iV
    have vh:=tV hd
    have UL:vo p.defs (k+1)=GS (vo p.defs k) (p.defs[k]).id:=by rw[vo,hd]
    have qW:nQ (iW mods name) p.defs (k+1)=nQ (iW mods name) p.defs k++(if !((vo p.defs k).contains (p.defs[k]).id)&&iW mods name p.defs[k] then [(p.defs[k]).id] else []):=by
     rw[nQ,hd,ox]
    have PC:=uD (iW mods name) p.defs k
    generalize p.defs[k]=d at *
    generalize vo p.defs k=m at *
    generalize nQ (iW mods name) p.defs k=q at *
    have h0:=xw (d:=d)
    have h4:=Aj (d:=d)
    have h7:=DZ (d:=d)
    rw[av] at h0 h4
    have AH:=WZ (H:=H) (m:=m) (q:=q) (x:=d.id)
    have xY:=BS mods d.mod (rf H m q) (by omega)
    rw[av] at xY
    have xX:∀ {B:AP} {T:aw} {gen:Nat} {K:AS->Prop} {os:List aj} {t:Nat} {o:Bool},Bs B 3 24 (So H q) (.slice [[.int .i64 d.id.bN,.int .i64 d.id.seq,.int .i64 d.id.index]] o) t os T (rf H m q) H.length gen K=WO B false os ⟨T.put t (So H (q++[d.id])),rf H m (q++[d.id]),H.length,gen⟩ K:=aca (by omega) rfl
    have dB:∀ {T:aw} {gen:Nat} {q:List Id},nj ⟨T,rf H m q,H.length,gen⟩ 3 true false 1 [.i,.i,.i] (.mref H.length) (.agg [.int .i64 d.id.bN,.int .i64 d.id.seq,.int .i64 d.id.index]) (.bool true)=some ⟨T,rf H (GS m d.id) q,H.length,gen⟩:=W0
    cases hf:m.contains d.id with
    | true =>
     rw[hf] at AH qW
     simp only[aq1,aqb,apC,ap2,apR] at qW
     simp(disch:=omega)only[aL,aa,simprocAttr,dm,e1,e2,e7,e8,sB,Ff,ND,vh,cJ,cQ,cS,cv,dH,h0,h4,h7,AH,dB,UL,qW,xY,xX,kA]
     exact⟨iV,_,_,rfl,by simp(disch:=omega)only[aL,aa,simprocAttr,e1,e2,e7,e8,sB,Ff,ND]⟩
    | false =>
     rw[hf] at AH qW
     cases hn:(d.name==name) with
     | false =>
      simp only[iW,hn,aqb,arw,apC,ap2,apR] at qW
      simp(disch:=omega)only[aL,aa,simprocAttr,dm,e1,e2,e7,e8,sB,Ff,ND,vh,cJ,cQ,cS,cv,dH,h0,h4,h7,AH,dB,UL,qW,xY,xX,kA,hn]
      exact⟨iV,_,_,rfl,by simp(disch:=omega)only[aL,aa,simprocAttr,e1,e2,e7,e8,sB,Ff,ND]⟩
     | true =>
      cases hc:mods.contains d.mod with
      | false =>
       rw[hc] at xY
       simp only[iW,hn,hc,arw,apC,ap2,apR] at qW
       simp(disch:=omega)only[aL,aa,simprocAttr,dm,e1,e2,e7,e8,sB,Ff,ND,vh,cJ,cQ,cS,cv,dH,h0,h4,h7,AH,dB,UL,qW,xY,xX,kA,hn]
       exact⟨iV,_,_,rfl,by simp(disch:=omega)only[aL,aa,simprocAttr,e1,e2,e7,e8,sB,Ff,ND]⟩
      | true =>
       rw[hc] at xY
       simp only[iW,hn,hc,aqq,Bool.and_true,ap4] at qW
       have hA:So H q=.slice [] true\/So H q=.sref (H.length+q.length) 0 q.length 3:=by
        cases q with
        | nil=>exact .inl rfl
        | cons a q=>exact .inr rfl
       have hB:=yG (H:=H) (q:=q++[d.id]) (by simp)
       rw[hB] at xX
       rcases hA with hA|hA
       all_goals
        rw[hA] at e7 xX
        simp(disch:=omega)only[aL,aa,simprocAttr,dm,e1,e2,e7,e8,sB,Ff,ND,vh,cJ,cQ,cS,cv,dH,h0,h4,h7,AH,dB,UL,qW,xY,xX,kA,hn]
        exact⟨iV,_,_,rfl,by simp(disch:=omega)only[aL,aa,simprocAttr,e1,e2,e7,e8,sB,Ff,ND,hB]⟩
   ·have:k=p.defs.length:=by omega
    subst this
    simp(disch:=omega)only[aL,aa,simprocAttr,e1,e2,e7,e8,sB,Ff,ND]
    exact⟨_,_,rfl,e7⟩
  ·rintro s ⟨T,g,rfl,e7⟩
   have hq:ku (nQ (iW mods name) p.defs p.defs.length)=dZ p mods name:=rfl
   have PC:=uD (iW mods name) p.defs p.defs.length
   generalize vo p.defs p.defs.length=m at *
   generalize nQ (iW mods name) p.defs p.defs.length=q at *
   by_cases h0:q=[]
   ·subst h0
    have h:=fun H=>Yb H
    have e7' : T 7=.slice [] true:=e7
    simp(disch:=omega)only[aL,aa,simprocAttr,e7',h]
    rw[<- hq]
    exact⟨_,Us (t:=6) (rows:=[]) (own:=false) rfl (by decide) (by decide) (by simp[aw.put]) rfl,false,rfl⟩
   ·have hlen:=Sp (H:=H) (m:=m) (q:=q)
    have cy:∀ r,jW (rf H m q).length (H.length+q.length) (Bj (rf H m q) (H.length+q.length) aJ r)=true:=by
     intro r
     have hl:(rf H m q).length=H.length+q.length+1:=by omega
     have:((Bj (rf H m q) (H.length+q.length) aJ r).take (rf H m q).length).drop (H.length+q.length)=[.box aJ (aF r).flatten]:=by
      rw[rC]
      exact LH (by rw[uN,hl]) (Dg (by omega))
     unfold jW
     rw[this]
     cases Nat.beq (H.length+q.length) (rf H m q).length<;>rfl
    obtain⟨c,h,hc⟩:=adx q (rf H m q) (H.length+q.length) aJ (Jq h0) (by omega) cy
    rw[yG h0] at e7
    have hl:ku q≠[]:=by
     intro e
     have:=pR (l:=q)
     rw[e] at this
     exact h0 (List.eq_nil_of_length_eq_zero (by simpa using this.symm))
    have fY:(aF (ku q)).length=q.length:=by rw[cZ,pR]
    rw[<- hq]
    rcases hc with ⟨rfl,hs⟩|rfl
    ·simp(disch:=omega)only[aL,aa,simprocAttr,e7,h]
     refine⟨_,Fy (t:=6) (l:=H.length+q.length) (rows:=aF (ku q)) (z:=3) rfl (by decide) (by decide) (by rw[fY];simp[aw.put]) (o:=.box aJ (aF (ku q)).flatten) (by rw[hs];exact Jq h0) rfl (by omega) x8 (by omega) rfl,false,rfl⟩
    ·have hb:Nat.blt (H.length+q.length) H.length=false:=by
      cases h:Nat.blt (H.length+q.length) H.length with
      | true=>have:=Nat.le_of_ble_eq_true h;omega
      | false=>rfl
     simp(disch:=omega)only[aL,aa,simprocAttr,e7,h,hb]
     refine⟨_,Fy (t:=6) (l:=H.length+q.length) (rows:=aF (ku q)) (z:=3) rfl (by decide) (by decide) (by rw[fY];simp[aw.put]) (Dg (by omega)) rfl (by omega) x8 (by omega) rfl,false,rfl⟩
  ·exact⟨_,_,rfl,by simp(disch:=omega)only[aL,aa,simprocAttr,apb,nQ];rfl⟩
 obtain⟨r,h1,o,rfl⟩:=key
 exact⟨o,h1⟩
theorem F0(p:Prog)(l:List Id)(H:ah)(a:Nat)(hp:p.mods.length<=1000000)(hH:H[a]?=some (.box 26 (aR p)))(hl:l.length<=1000000)(hu:∀ x∈l,(fM p x).isSome=true) :
  aE A 50 [.slice (aF l) false,.func (.func 28) [] [.ref a 0]] H=some (.int .i64 (-1),none):=by
 refine cc (fn:=RR) rfl rfl rfl ?_
 unfold RR
 simp(disch:=omega)only[aL,aa,simprocAttr,cZ]
 refine wO l.length (fun i=>Hd (fun T=>T 0=.slice (aF l) false/\T 1=.func (.func 28) [] [.ref a 0]/\T 7=.int .i64 l.length/\T 8=.int .i64 i) H H.length 0) ?_ 0 _ (apZ _) ?_
 ·rintro i s hi hs
  obtain⟨T,rfl,h0,h1,h7,h8⟩:=hs.out
  by_cases h:i<l.length
  ·have hg:=ou (aoT h)
   have hx:=hu _ (aqy h)
   generalize l[i]=e at hg hx
   have hd:=Z9 p e H a hp hH
   rw[hx] at hd
   rw[av] at hg hd
   simp(disch:=omega)only[aL,aa,simprocAttr,h0,h1,h7,h8,hg,hd,cZ]
   exact h
  ·have:i=l.length:=by omega
   subst this
   simp(disch:=omega)only[aL,aa,simprocAttr,h0,h1,h7,h8,cZ]
 ·simp(disch:=omega)only[aL,aa,simprocAttr,apb]
theorem OB(p:Prog)(l:List Id)(H:ah)(a:Nat)(hp:p.mods.length<=1000000)(hH:H[a]?=some (.box 26 (aR p)))(hl:l.length<=1000000)(hu:∀ x∈l,(fM p x).isSome=true) :
  aE A 26 [.slice (aF l) false,.func (.func 28) [] [.ref a 0]] H=some (.slice (aF l) false,none):=by
 refine cc (fn:=RE) rfl rfl rfl ?_
 unfold RE
 have h:=F0 p l H a hp hH hl hu
 simp(disch:=omega)only[aL,aa,simprocAttr,cZ,h]
theorem aex{x:Id}{l:List Id}(h:l.length<=1000000):bw false 3 24 (.slice [[.int .i64 x.bN,.int .i64 x.seq,.int .i64 x.index]] true) (sW l)=some (.slice (aF (x :: l)) true):=by
 cases l with
 | nil=>rfl
 | cons y l=>exact Bu (l:=[x]) (m:=y :: l) (by simp at *;omega)
theorem Fz(p:Prog)(mod:Id)(name:ga)(H:ah)(hp:p.mods.length<=1000000)(hm:fM p mod=none):aE A 8 [.agg (aR p),.agg (av mod),.str name] H=some (.slice [] true,none):=by
 refine cc (fn:=Wa) rfl rfl rfl ?_
 unfold Wa
 have hR:qv p mod=.tuple [.agg zM,.bool false]:=by rw[qv,hm]
 have h:=oU p mod (H++[.box 26 (aR p)]) hp
 rw[hR,zM] at h
 rw[aR,av] at *
 simp(disch:=omega)only[aL,aa,simprocAttr,h]
theorem Fw{α:Type}(q:α->Bool)(l:List α)(i:Nat)(h:i<l.length):(l.take (i+1)).filter q=(l.take i).filter q++(if q l[i]=true then [l[i]] else []):=by
 rw[List.take_succ_eq_append_getElem h,List.filter_append,aqx,List.filter_nil]
theorem Iq(p:Prog)(mod:Id)(name:ga)(m:Mod)(r:ga × ga)(H:ah)(hp:p.mods.length<=1000000)(hd:p.defs.length<=12)(hm:fM p mod=some m)(hr:qL name=some r)(hn:name.length<=4611686018427387904)
  (hul:m.fX.length<=100000):∃ o,aE A 8 [.agg (aR p),.agg (av mod),.str name] H=some (.slice (aF (dZ p ((mod :: m.fX).filter (kM p r.1)) r.2)) o,none):=by
 have key:∃ q,aE A 8 [.agg (aR p),.agg (av mod),.str name] H=some q/\∃ o,q=(.slice (aF (dZ p ((mod :: m.fX).filter (kM p r.1)) r.2)) o,none):=by
  refine tI (fn:=Wa) rfl rfl rfl ?_
  unfold Wa
  have hR:qv p mod=.tuple [.agg (dK m),.bool true]:=by rw[qv,hm]
  have h:=oU p mod (H++[.box 26 (aR p)]) hp
  rw[hR] at h
  have hmd:=fun x=>oU p x (H++[.box 26 (aR p)]) hp
  have hc:=Yy name (H++[.box 26 (aR p)]) hn
  have hcp:BU name=.tuple [.str r.1,.str r.2,.bool true]:=by rw[BU,hr]
  rw[hcp] at hc
  have ha:=aex (x:=mod) (l:=m.fX) (by omega)
  have h4:=Si (m:=m)
  have hU:(m.fX=[]/\sW m.fX=.ae)\/sW m.fX=.slice (aF m.fX) false:=by
   cases m.fX with
   | nil=>exact .inl ⟨rfl,rfl⟩
   | cons a l=>exact .inr rfl
  have hpp:aR p=[.slice (cx p.mods) false,.slice (cn p.defs) false]:=rfl
  simp only[aR,av] at h hc ⊢
  simp only[aR] at hmd
  generalize hL:mod :: m.fX=L at *
  have uQ:L.length<=100001:=by rw[<- hL];simp;omega
  rcases hU with ⟨YH,hU⟩|hU
  all_goals
   rw[hU] at ha h4
   simp(disch:=omega)only[aL,aa,simprocAttr,h,hc,ha,h4,iJ,iP,iQ,gI,j0,cZ]
   refine bQ L.length 0 (fun k=>w6 (fun T=>T 3=.ref H.length 0/\T 9=.str r.1/\T 10=.str r.2/\T 12=.slice (aF ((L.take k).filter (kM p r.1))) true/\T 38=.slice (aF L) true/\T 39=.int .i64 L.length/\T 40=.int .i64 k) (H++[.box 26 [.slice (cx p.mods) false,.slice (cn p.defs) false]]) H.length)
    (w6 (fun T=>T 3=.ref H.length 0/\T 10=.str r.2/\T 12=.slice (aF (L.filter (kM p r.1))) true) (H++[.box 26 [.slice (cx p.mods) false,.slice (cn p.defs) false]]) H.length) (fun _=>False) ?_ ?_ (fun _ h=>h.elim) 0 _ (apZ _) ?_
   ·rintro k s hk hs
    obtain⟨T,g,rfl,e3,e9,qs,rN,OL,e39,e40⟩:=hs.out
    by_cases iV:k<L.length
    ·have hg:=ou (aoT iV)
     have Ps:=Fw (kM p r.1) L k iV
     have hq:((L.take k).filter (kM p r.1)).length<=100001:=apV (List.length_filter_le ..) (by rw[aqW];omega)
     generalize L[k]=x at *
     generalize (L.take k).filter (kM p r.1)=q at *
     have Mn:=hmd x
     have jS:=Bt (l:=q) (i:=x) (o:=true) (by omega)
     rw[av] at hg Mn
     cases hx:fM p x with
     | none =>
      have ho:kM p r.1 x=false:=by rw[kM,hx]
      rw[qv,hx] at Mn
      simp only[zM] at Mn
      rw[ho] at Ps
      simp only[apC,ap2,apR] at Ps
      simp(disch:=omega)only[aL,aa,simprocAttr,e3,e9,qs,rN,OL,e39,e40,hg,Mn,Ps]
      exact iV
     | some y =>
      have ho:kM p r.1 x=(y.name==r.1):=by rw[kM,hx]
      rw[qv,hx] at Mn
      simp only at Mn
      have h3:=Y9 (m:=y)
      cases hy:(y.name==r.1) with
      | false =>
       rw[ho,hy] at Ps
       simp only[apC,ap2,apR] at Ps
       simp(disch:=omega)only[aL,aa,simprocAttr,e3,e9,qs,rN,OL,e39,e40,hg,Mn,Ps,h3,iJ,iP,iQ,gI,j0,hy]
       exact iV
      | true =>
       rw[ho,hy,if_pos rfl] at Ps
       simp(disch:=omega)only[aL,aa,simprocAttr,e3,e9,qs,rN,OL,e39,e40,hg,Mn,Ps,h3,iJ,iP,iQ,gI,j0,hy,jS]
       exact iV
    ·have:k=L.length:=by omega
     subst this
     rw[aq0] at rN
     simp(disch:=omega)only[aL,aa,simprocAttr,e3,e9,qs,rN,OL,e39,e40]
   ·rintro s hs
    obtain⟨T,g,rfl,e3,qs,rN⟩:=hs.out
    obtain⟨o,nP⟩:=CH p (L.filter (kM p r.1)) r.2 (H++[.box 26 [.slice (cx p.mods) false,.slice (cn p.defs) false]]) hd (apV (List.length_filter_le ..) (by omega))
    rw[hpp] at nP
    cases o
    all_goals
     simp(disch:=omega)only[aL,aa,simprocAttr,e3,qs,rN,nP]
     exact⟨_,rfl⟩
   ·simp(disch:=omega)only[aL,aa,simprocAttr,apb]
    simp[aF]
 obtain⟨q,h1,o,rfl⟩:=key
 exact⟨o,h1⟩
theorem filter_all{α:Type}(q:α->Bool):∀ l:List α,(∀ x∈l,q x=true)->l.filter q=l
 | [],_=>rfl
 | a :: l,h=>by rw[aqx,if_pos (h a (by simp)),filter_all q l fun x hx=>h x (by simp[hx])]
theorem Cg(p:Prog)(mod:Id)(name:ga)(m:Mod)(H:ah)(hp:p.mods.length<=1000000)(hd:p.defs.length<=12)(hm:fM p mod=some m)(hr:qL name=none)(hn:name.length<=4611686018427387904)
  (hul:m.fX.length<=100000) (hu:∀ x∈m.fX,(fM p x).isSome=true) :
  ∃ o,aE A 8 [.agg (aR p),.agg (av mod),.str name] H=some (.slice (aF (if dZ p [mod] name≠[] then dZ p [mod] name else dZ p m.fX name)) o,none):=by
 have key:∃ q,aE A 8 [.agg (aR p),.agg (av mod),.str name] H=some q/\∃ o,q=(.slice (aF (if dZ p [mod] name≠[] then dZ p [mod] name else dZ p m.fX name)) o,none):=by
  refine tI (fn:=Wa) rfl rfl rfl ?_
  unfold Wa
  have hR:qv p mod=.tuple [.agg (dK m),.bool true]:=by rw[qv,hm]
  have h:=oU p mod (H++[.box 26 (aR p)]) hp
  rw[hR] at h
  have hc:=Yy name (H++[.box 26 (aR p)]) hn
  have hcp:BU name=.tuple [.str name,.str [],.bool false]:=by rw[BU,hr]
  rw[hcp] at hc
  have h4:=Si (m:=m)
  have hH:(H++[cj.box 26 (aR p)])[H.length]?=some (.box 26 (aR p)):=by simp
  have ig:=TO m.fX (H++[.box 26 (aR p)]) (by omega)
  have afg:=OB p m.fX (H++[.box 26 (aR p)]) H.length hp hH (by omega) hu
  obtain⟨o1,sE⟩:=CH p [mod] name (H++[.box 26 (aR p)]) hd (by simp)
  obtain⟨o2,vX⟩:=CH p m.fX name (H++[.box 26 (aR p)]) hd (by omega)
  have h1l:(aF (dZ p [mod] name)).length=(dZ p [mod] name).length:=cZ
  have II:aF [mod]=[[.int .i64 mod.bN,.int .i64 mod.seq,.int .i64 mod.index]]:=rfl
  rw[II] at sE
  have hU:(m.fX=[]/\sW m.fX=.ae)\/sW m.fX=.slice (aF m.fX) false:=by
   cases m.fX with
   | nil=>exact .inl ⟨rfl,rfl⟩
   | cons a l=>exact .inr rfl
  simp only[aR,av] at h hc ig afg sE vX ⊢
  generalize dZ p [mod] name=q at *
  generalize dZ p m.fX name=q2 at *
  by_cases hq:q=[]
  ·subst hq
   have Mr:(List.length ([]:List Id))=0:=rfl
   rw[if_neg (by simp)]
   rcases hU with ⟨YH,hU⟩|hU
   all_goals
    rw[hU] at h4 ig
    cases o1<;>cases o2
    all_goals
     simp(disch:=omega)only[aL,aa,simprocAttr,h,hc,h4,ig,afg,sE,vX,iJ,iP,iQ,gI,j0,sV,List.length_nil,apb,gt_iff_lt,Int.lt_irrefl]
     exact⟨_,rfl⟩
  ·rw[if_pos hq]
   have zE:0<q.length:=apF.2 hq
   cases o1
   all_goals
    simp(disch:=omega)only[aL,aa,simprocAttr,h,hc,h4,sE,iJ,iP,iQ,gI,j0,h1l,gt_iff_lt]
    exact⟨_,rfl⟩
 obtain⟨q,h1,o,rfl⟩:=key
 exact⟨o,h1⟩
structure Fit (p:Prog):Prop where
 mods:p.mods.length<=1000000
 defs:p.defs.length<=12
 fX:∀ m∈p.mods,m.fX.length<=1000/\∀ x∈m.fX,(fM p x).isSome=true
 mn:∀ m∈p.mods,m.name.length<=1000000
 dn:∀ d∈p.defs,d.name.length<=1000000
theorem Pa(p:Prog)(hp:Fit p)(mod:Id)(name:ga)(H:ah)(hn:name.length<=4611686018427387904):∃ o,aE A 8 [.agg (aR p),.agg (av mod),.str name] H=some (.slice (aF (dC p mod name)) o,none):=by
 cases hm:fM p mod with
 | none =>
  have:dC p mod name=[]:=by rw[dC,hm]
  rw[this]
  exact⟨true,Fz p mod name H hp.mods hm⟩
 | some m =>
  obtain⟨h1,h2⟩:=hp.fX m (List.mem_of_find?_eq_some hm)
  cases hc:qL name with
  | some r =>
   have:dC p mod name=dZ p ((mod :: m.fX).filter (kM p r.1)) r.2:=by rw[dC,hm];simp only[hc]
   rw[this]
   exact Iq p mod name m r H hp.mods hp.defs hm hc hn (by omega)
  | none =>
   have:dC p mod name=if dZ p [mod] name≠[] then dZ p [mod] name else dZ p m.fX name:=by
    rw[dC,hm];simp only[hc]
    rw[filter_all _ _ h2]
   rw[this]
   exact Cg p mod name m H hp.mods hp.defs hm hc hn (by omega) h2
theorem WW(p:Prog)(mod id:Id)(H:ah)(hm:p.mods.length<=1000000)(hd:p.defs.length<=1000000)(afO:oJ p id=none):aE A 10 [.agg (aR p),.agg (av mod),.agg (av id)] H=some (.str [],none):=by
 refine cc (fn:=I0) rfl rfl rfl ?_
 unfold I0
 have h:=tU p id H hd
 rw[Ov,afO] at h
 simp only[zD] at h
 simp only[aR,av] at h ⊢
 simp(disch:=omega)only[aL,aa,simprocAttr,h]
theorem WX(p:Prog)(mod id:Id)(d:Def)(a b:ga)(H:ah)(hm:p.mods.length<=1000000)(hd:p.defs.length<=1000000)(aao:oJ p id=some d)(ha:a=d.name)(hb:b=((fM p d.mod).map (·.name)).getD []++[46]++d.name)
  (hlen:(((fM p d.mod).map (·.name)).getD []).length<=1000000/\d.name.length<=1000000)
  (hf:∀ s:ga,s.length<=3000000->∃ o,aE A 8 [.agg (aR p),.agg (av mod),.str s] H=some (.slice (aF (dC p mod s)) o,none)) (qw:∀ s,(dC p mod s).length<=1000000) :
  aE A 10 [.agg (aR p),.agg (av mod),.agg (av id)] H=some (.str (if dC p mod a=[id] then a else if dC p mod b=[id] then b else []),none):=by
 refine cc (fn:=I0) rfl rfl rfl ?_
 unfold I0
 have h:=tU p id H hd
 rw[Ov,aao] at h
 simp only at h
 have IQ:=oU p d.mod H hm
 have h4:=Aj (d:=d)
 have h7:=DZ (d:=d)
 have Md:a.length<=3000000:=by rw[ha];omega
 have UB:b.length<=3000000:=by rw[hb];simp only[ao6,apt];omega
 obtain⟨oa,hfa⟩:=hf a Md
 obtain⟨ob,hfb⟩:=hf b UB
 have hea:=xH (dC p mod a) [id] H (qw a)
 have heb:=xH (dC p mod b) [id] H (qw b)
 have II:aF [id]=[[.int .i64 id.bN,.int .i64 id.seq,.int .i64 id.index]]:=rfl
 rw[II] at hea heb
 have key:∀ mn:ga,mn=((fM p d.mod).map (·.name)).getD []->b=mn++[46]++a:=fun mn h=>by rw[hb,h,ha]
 rw[<- ha] at h7
 have hmr:∃ cs:List AV,qv p d.mod=.tuple [.agg cs,.bool (fM p d.mod).isSome]/\cs.length=6/\cs.map AV.drop=cs/\cs.take 6=cs/\cs.all al=true/\(∀ B,cs.all (AV.aG B)=true)/\cs[3]?=some (.str (((fM p d.mod).map (·.name)).getD [])):=by
  cases hx:fM p d.mod with
  | none=>exact⟨zM,by rw[qv,hx];rfl,rfl,rfl,rfl,rfl,fun _=>rfl,rfl⟩
  | some m=>exact⟨dK m,by rw[qv,hx];rfl,iJ,iP,iQ,gI,fun _=>j0,Y9⟩
 obtain⟨cs,c1,c2,c3,c4,c5,c6,c7⟩:=hmr
 rw[c1] at IQ
 have fP:=key _ rfl
 generalize ((fM p d.mod).map (·.name)).getD []=mn at *
 generalize (fM p d.mod).isSome=ok at *
 have Kp:(mn++[46]).length=mn.length+1:=by simp
 rw[<- ha] at hlen
 simp only[aR,av] at h h4 IQ hfa hfb ⊢
 simp(disch:=omega)only[aL,aa,simprocAttr,h,IQ,h4,h7,cJ,cQ,cS,cv,dH,c2,c3,c4,c5,c6,c7,Kp,<- fP]
 refine bQ 2 0 (fun k=>w6 (fun T=>T 3=.lbox 0 [.slice (cx p.mods) false,.slice (cn p.defs) false]/\T 4=.lbox 1 [.int .i64 mod.bN,.int .i64 mod.seq,.int .i64 mod.index]/\T 5=.lbox 2 [.int .i64 id.bN,.int .i64 id.seq,.int .i64 id.index]/\T 36=.slice [[.str a],[.str b]] true/\T 37=.int .i64 2/\T 38=.int .i64 k/\(1<=k->¬ dC p mod a=[id])/\(2<=k->¬ dC p mod b=[id])) H H.length)
  (w6 (fun _=>(¬ dC p mod a=[id])/\¬ dC p mod b=[id]) H H.length) (w6 (fun T=>T 6=.str (if dC p mod a=[id] then a else if dC p mod b=[id] then b else [])) H H.length) ?_ ?_ ?_ 0 _ (by omega) ?_
 ·rintro k s hk hs
  obtain⟨T,g,rfl,e3,e4,e5,e36,e37,OL,n1,n2⟩:=hs.out
  have hk3:k=0\/k=1\/k=2:=by omega
  rcases hk3 with rfl|rfl|rfl
  ·by_cases hq:dC p mod a=[id]
   ·have hqt:(dC p mod a==[id])=true:=by rw[hq];simp
    rw[hqt] at hea
    simp only[apb] at OL
    cases oa
    all_goals
     simp(disch:=omega)only[aL,aa,simprocAttr,e3,e4,e5,e36,e37,OL,hfa,hea,ao4,if_pos hq]
   ·have hqt:(dC p mod a==[id])=false:=by simpa using hq
    rw[hqt] at hea
    simp only[apb] at OL
    cases oa
    all_goals
     simp(disch:=omega)only[aL,aa,simprocAttr,e3,e4,e5,e36,e37,OL,hfa,hea,ao4]
     simp[hq]
  ·have hqa:=n1 (by omega)
   have TY:T 38=.int .i64 1:=OL
   by_cases hq:dC p mod b=[id]
   ·have hqt:(dC p mod b==[id])=true:=by rw[hq];simp
    rw[hqt] at heb
    cases ob
    all_goals
     simp(disch:=omega)only[aL,aa,simprocAttr,e3,e4,e5,e36,e37,TY,hfb,heb,ao4,apf,if_neg hqa,if_pos hq]
   ·have hqt:(dC p mod b==[id])=false:=by simpa using hq
    rw[hqt] at heb
    cases ob
    all_goals
     simp(disch:=omega)only[aL,aa,simprocAttr,e3,e4,e5,e36,e37,TY,hfb,heb,ao4,apf]
     simp[hqa,hq]
  ·have TY:T 38=.int .i64 2:=OL
   simp(disch:=omega)only[aL,aa,simprocAttr,e3,e4,e5,e36,e37,TY]
   exact⟨n1 (by omega),n2 (by omega)⟩
 ·rintro s hs
  obtain⟨T,g,rfl,n1,n2⟩:=hs.out
  simp(disch:=omega)only[aL,aa,simprocAttr,if_neg n1,if_neg n2]
 ·rintro s hs
  obtain⟨T,g,rfl,e6⟩:=hs.out
  simp(disch:=omega)only[aL,aa,simprocAttr,e6]
 ·simp(disch:=omega)only[aL,aa,simprocAttr,apb]
  simp
structure Mk where
 pos:Int
 next:Int
 left:Int
 own:Int
structure Cx where
 mm:Nat
 pm:AV
 pd:AV
 l:List Int
def fu(c:Cx)(m:Mk):List AV:=[c.pm,c.pd,.slice (ints c.l) false,.int .i64 m.pos,.int .i64 m.next,.int .i64 m.left,.int .i64 m.own]
def cb(c:Cx)(m:Mk)(H:ah):ah:=H.set c.mm (.ca (fu c m))
def NV(a:Nat)(H:ah):Prop:=∀ j cs,a<=j->H[j]?=some (.ca cs)->cs.all (AV.aG H.length)=true
structure MH (c:Cx) (m:Mk) (H:ah):Prop where
 h0:H[c.mm]?=some (.ca (fu c m))
 out:NV c.mm H
 hl:∀ n∈c.l,pr n
 fm:(c.pm=.ae\/∃ l n z,c.pm=.sref l 0 n z/\l<H.length)
 fd:(c.pd=.ae\/∃ l n z,c.pd=.sref l 0 n z/\l<H.length)
theorem MH.lt{c:Cx}{m:Mk}{H:ah}(h:MH c m H):c.mm<H.length:=(aoR.1 h.h0).1
theorem au{c:Cx}{m:Mk}{H:ah} : (cb c m H).length=H.length:=by unfold cb;simp
theorem ar{c:Cx}{m:Mk}{H:ah} : (cb c m H).take H.length=cb c m H:=apM (ap0 au)
theorem aW{c:Cx}{m m' : Mk}{H:ah} : cb c m (cb c m' H)=cb c m H:=by unfold cb;rw[List.set_set]
theorem ry{c:Cx}{m:Mk}{H:ah}(h:c.mm<H.length):(cb c m H)[c.mm]?=some (.ca (fu c m)):=apo h
theorem qf{c:Cx}{m:Mk}{H:ah}{j:Nat}(h:c.mm≠j):(cb c m H)[j]?=H[j]?:=apk h
theorem pb{c:Cx}{m:Mk}{H K:ah}(h:c.mm<H.length):cb c m (H++K)=cb c m H++K:=List.set_append_left _ _ h
theorem ab2{c:Cx}{m m' : Mk}{b:Nat}(h:(fu c m).all (AV.aG b)=true):(fu c m').all (AV.aG b)=true:=by
 simp only[fu,List.all_cons,Bool.and_eq_true] at *
 exact⟨h.1,h.2.1,h.2.2.1,rfl,rfl,rfl,rfl,rfl⟩
theorem MH.set{c:Cx}{m m' : Mk}{H:ah}(h:MH c m H):MH c m' (cb c m' H):=by
 refine⟨ry h.lt,?_,h.hl,by rw[au];exact h.fm,by rw[au];exact h.fd⟩
 intro j cs hj fi
 rw[au]
 by_cases e:c.mm=j
 ·subst e
  rw[ry h.lt] at fi
  cases fi
  exact ab2 (h.out _ _ (aoU _) h.h0)
 ·rw[qf e] at fi
  exact h.out j cs hj fi
theorem NV.jW{a:Nat}{H:ah}(h:NV a H){base:Nat}(hb:base=H.length):jW base a H=true:=by
 subst hb
 unfold Abs.jW
 cases Nat.beq a H.length with
 | true=>rfl
 | false =>
  simp only[aoZ]
  rw[aq0,aoV]
  intro o ho
  obtain⟨j,hj,rfl⟩:=List.mem_iff_getElem.1 ho
  rw[List.getElem_drop]
  have:=aoT (l:=H) (i:=a+j) (by rw[aqV] at hj;omega)
  generalize H[a+j]'(by rw[aqV] at hj;omega)=o at *
  cases o with
  | ca cs=>exact h _ cs (by omega) this
  | _=>rfl
theorem MH.open{c:Cx}{m m' : Mk}{H:ah}(h:MH c m H):Abs.jW H.length c.mm (cb c m' H)=true:=NV.jW (h.set (m':=m')).out au.symm
theorem KK{c:Cx}{m:Mk}{H:ah}(h:MH c m H)(n:Int)(hn:0<n):∃ x p,0<=x/\x<n/\aE A 17 [.ref c.mm 0,.int .i64 n] H=some (.int .i64 x,some ⟨cb c { m with pos:=p } H,c.mm⟩):=by
 refine⟨Yv c.l (IntKind.i64.wrap (IntKind.i64.wrap (m.pos+1)-1)) n,IntKind.i64.wrap (m.pos+1),(fN hn).1,(fN hn).2,?_⟩
 refine cc (fn:=Rt) rfl rfl rfl ?_
 unfold Rt
 have h0:=h.h0
 have aU:=h.lt
 have vh:=fun i H=>HC c.l i n H h.hl hn
 have uT:∀ o:cj,(H.set c.mm o)[c.mm]?=some o:=fun o=>apo aU
 have cy:=h.open (m':={ m with pos:=IntKind.i64.wrap (m.pos+1) })
 have bB:Nat.beq c.mm H.length=false:=tq (by omega)
 rw[cb,fu] at cy
 rw[fu] at h0
 rcases h.fm with e1|⟨l1,n1,z1,e1,_⟩<;>rcases h.fd with e2|⟨l2,n2,z2,e2,_⟩
 all_goals
  rw[e1,e2] at h0 cy
  simp(disch:=omega)only[aL,aa,simprocAttr,h0,uT,List.set_set,yX,se,vh,cb,fu,aY,cy,bB,e1,e2]
  done
def kP(n:Int):Id:=⟨0,1+n / 32,n % 32⟩
theorem age{c:Cx}{m:Mk}{H:ah}(h:MH c m H)(hn:0<=m.next/\m.next<=1000000):aE A 16 [.ref c.mm 0] H=some (.agg (av (kP m.next)),some ⟨cb c { m with next:=m.next+1 } H,c.mm⟩):=by
 refine cc (fn:=I2) rfl rfl rfl ?_
 unfold I2
 have h0:=h.h0
 have aU:=h.lt
 have uT:∀ o:cj,(H.set c.mm o)[c.mm]?=some o:=fun o=>apo aU
 have cy:=h.open (m':={ m with next:=m.next+1 })
 have bB:Nat.beq c.mm H.length=false:=tq (by omega)
 have e1:m.next+1-1=m.next:=by omega
 rw[cb,fu] at cy
 rw[fu] at h0
 rcases h.fm with e3|⟨l1,n1,z1,e3,_⟩<;>rcases h.fd with e2|⟨l2,n2,z2,e2,_⟩
 all_goals
  rw[e3,e2] at h0 cy
  simp(disch:=omega)only[aL,aa,simprocAttr,h0,uT,List.set_set,yX,se,cb,fu,aY,cy,bB,e1,e2,e3,av,kP]
  done
theorem Y6{c:Cx}{m:Mk}{H:ah}(h:MH c m H):∃ (i:Id) (x:Int),i.bN=0/\aE A 16 [.ref c.mm 0] H=some (.agg (av i),some ⟨cb c { m with next:=x } H,c.mm⟩):=by
 refine⟨⟨0,IntKind.i64.wrap (1+IntKind.i64.wrap ((IntKind.i64.wrap (IntKind.i64.wrap (m.next+1)-1)).tdiv 32)),(IntKind.i64.wrap (IntKind.i64.wrap (m.next+1)-1)).tmod 32⟩,IntKind.i64.wrap (m.next+1),rfl,?_⟩
 refine cc (fn:=I2) rfl rfl rfl ?_
 unfold I2
 have h0:=h.h0
 have aU:=h.lt
 have uT:∀ o:cj,(H.set c.mm o)[c.mm]?=some o:=fun o=>apo aU
 have cy:=h.open (m':={ m with next:=IntKind.i64.wrap (m.next+1) })
 have bB:Nat.beq c.mm H.length=false:=tq (by omega)
 rw[cb,fu] at cy
 rw[fu] at h0
 rcases h.fm with e3|⟨l1,n1,z1,e3,_⟩<;>rcases h.fd with e2|⟨l2,n2,z2,e2,_⟩
 all_goals
  rw[e3,e2] at h0 cy
  simp(disch:=omega)only[aL,aa,simprocAttr,h0,uT,List.set_set,yX,se,cb,fu,aY,cy,bB,e2,e3,av]
  try rfl
theorem bX{f:FuncId}{fn:ax}(ho:A.ov f=none)(hf:A.fns f=some fn){args:List AV}{H:ah}{r:AV × Option fQ}(hn:Nat.beq args.length fn.np=true)(hm:fn.muts.elem 777777=true)
  (h:W A fn.body { T:=gn args,H,lo:=H.length,gen:=0 } (Ak H.length fn.results fun x=>(oV x.1,x.2)=r)):aE A f args H=some r:=by
 obtain⟨r',h1,h2⟩:=rK (P:=fun x=>x=r) ho hf hn hm h
 rw[h1,h2]
theorem bT{cs:List AV} : oV (.agg cs)=.agg (cs.map n2):=rfl
theorem acd{e:List (List AV)} : oV (.slice e false)=.slice (e.map fun r=>r.map n1) false:=rfl
theorem ace{e:List (List AV)} : oV (.slice e true)=.slice e true:=rfl
theorem cq{k:IntKind}{n:Int} : n2 (.int k n)=.int k n:=rfl
theorem cE:n2 .ae=.slice [] false:=rfl
theorem fJ{e:List (List AV)} : n2 (.slice e false)=.slice (e.map fun r=>r.map n1) false:=rfl
theorem yD{e:List (List AV)} : n2 (.slice e true)=.slice e true:=rfl
theorem Sj{k:IntKind}{n:Int} : n1 (.int k n)=.int k n:=rfl
theorem Sl{l:ga} : n1 (.str l)=.str l:=rfl
theorem Za{e:List (List AV)}{o:Bool} : n1 (.slice e o)=.slice e o:=rfl
def wz(k:Int)(i:Id)(ks:List (List AV)):List AV:=[.int .i64 k,.int .i64 i.bN,.int .i64 i.seq,.int .i64 i.index,.slice ks false]
theorem Jf(k:Int)(i:Id)(ks:List (List AV))(H:ah)(ho:((wz k i ks).map n1)=wz k i ks):aE A 19 [.agg (wz k i ks)] H=some (.agg (wz 2 ⟨0,0,0⟩ [wz k i ks]),none):=by
 refine bX (fn:=Ry) rfl rfl rfl rfl ?_
 unfold Ry
 rw[wz] at ho ⊢
 simp(disch:=omega)only[aL,aa,simprocAttr,wz,bT,cq,fJ,ho]
theorem agq(i:Id)(H:ah):aE A 42 [.agg (av i)] H=some (.agg (wz 3 i []),none):=by
 refine bX (fn:=RM) rfl rfl rfl rfl ?_
 unfold RM
 rw[av]
 simp(disch:=omega)only[aL,aa,simprocAttr,wz,bT,cq,cE]
end Go.Proofs.YthbncinhhdogpaaGreatDoor
