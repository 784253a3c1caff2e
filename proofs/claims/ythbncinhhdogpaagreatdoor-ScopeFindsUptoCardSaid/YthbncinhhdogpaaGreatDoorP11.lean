/-
  A part of the proof of ScopeFinds: V1, V2, V3, V4, V5, V6, V7, V8, V9, V10, V11, V12, V13, V14, V15, V16.
-/
import Derived.KernelRfl
import Derived.Test.YthbncinhhdogpaaGreatDoorP10
set_option linter.unusedSimpArgs false
set_option linter.unusedVariables false
set_option linter.defProp false
set_option maxRecDepth 100000
namespace Go.Proofs.YthbncinhhdogpaaGreatDoor
open Go Go.Abs Go.Proofs
abbrev fa:=List UInt8
def tv(n k:Int):Int:=(if n<0 then -(n+1) else n).tmod k
def Zn(l:List Int)(i k:Int):Int:=if i<0\/(l.length:Int)<=i then 0 else tv (l.getD i.toNat 0) k
theorem OM(n k:Int)(H:ag)(hn:pS n)(hk:0<k):az A 41 [.int .i64 n,.int .i64 k] H=some (.int .i64 (tv n k),none):=by
 obtain⟨h1,h2⟩:=hn
 have gm:k≠0:=by omega
 refine bT (fn:=Sy) rfl rfl rfl ?_
 unfold Sy
 simp(disch:=omega)only[Um,aa,simprocAttr]
 refine Mb ?_ ?_<;>intro h
 ·simp(disch:=omega)only[Um,aa,simprocAttr,gm,tv,if_pos h]
  simp only[show 0-(n+1)=-(n+1) by omega]
 ·simp(disch:=omega)only[Um,aa,simprocAttr,gm,tv,if_neg h]
theorem Io(l:List Int)(i k:Int)(H:ag)(hl:∀ n∈l,pS n)(hk:0<k):az A 15 [.slice (ints l) false,.int .i64 i,.int .i64 k] H=some (.int .i64 (Zn l i k),none):=by
 refine bT (fn:=R5) rfl rfl rfl ?_
 unfold R5
 by_cases h0:i<0
 ·simp(disch:=omega)only[Um,aa,simprocAttr,h0,Zn,true_or,aqH]
 by_cases h1:(l.length:Int)<=i
 ·simp(disch:=omega)only[Um,aa,simprocAttr,h0,h1,ma,ge_iff_le,Zn,or_true,aqH]
 ·have hi:i.toNat<l.length:=by omega
  have hg:l[i.toNat]?=some (l.getD i.toNat 0):=by rw[apX,apy hi];rfl
  have hr:pS (l.getD i.toNat 0):=hl _ (by rw[apX,apy hi];exact aq7 hi)
  simp(disch:=omega)only[Um,aa,simprocAttr,h0,h1,ma,ge_iff_le,Zn,false_or,aqG,re (show 0<=i by omega),ints_at hg,OM _ _ H hr hk]
theorem B2{n k:Int}(hk:0<k):0<=tv n k/\tv n k<k:=by
 unfold tv
 have h:∀ m:Int,0<=m->0<=m.tmod k/\m.tmod k<k:=fun m hm=>⟨Int.tmod_nonneg _ hm,Int.tmod_lt_of_pos _ hk⟩
 split
 ·exact h _ (by omega)
 ·exact h _ (by omega)
theorem fZ{l:List Int}{i k:Int}(hk:0<k):0<=Zn l i k/\Zn l i k<k:=by
 unfold Zn
 split
 ·omega
 ·exact B2 hk
def dp(x:AV):Bool:=(match x with|.slice _ o=>!o|_=>true)&&x.plain&&J1 x
theorem bQ{x:AV}(h:dp x=true):x.drop=x:=by
 cases x<;>simp_all [dp,AV.drop]
theorem bM{x:AV}(h:dp x=true):x.plain=true:=by
 simp only[dp,Bool.and_eq_true] at h;exact h.1.2
theorem bY{x:AV}(h:dp x=true):aq x=true:=by
 have:=bM h
 cases x<;>simp_all [aq,AV.plain]
theorem AF{x:AV}(h:dp x=true):J1 x=true:=by
 simp only[dp,Bool.and_eq_true] at h;exact h.2
structure Cells (n:Nat) where
 l:List AV
 len:l.length=n
 ok:l.all dp=true
theorem jV{l:List AV}(h:l.all dp=true):l.map AV.drop=l:=by
 rw[apA] at h
 conv=>rhs;rw[<- List.map_id l]
 exact apY fun x hx=>bQ (h x hx)
theorem uY{l:List AV}(h:l.all dp=true):l.all AV.plain=true:=by
 rw[apA] at *;exact fun x hx=>bM (h x hx)
theorem mq{l:List AV}(h:l.all dp=true):l.all aq=true:=by
 rw[apA] at *;exact fun x hx=>bY (h x hx)
theorem fc{x:AV}(h:x.plain=true)(b:Nat):x.aJ b=true:=by
 cases x<;>simp_all [AV.aJ,AV.plain]
theorem Dm{l:List AV}(h:l.all dp=true)(b:Nat):l.all (AV.aJ b)=true:=by
 rw[apA] at *;exact fun x hx=>fc (bM (h x hx)) b
theorem Tp{l:List AV}(h:l.all dp=true):NG l=true:=by
 induction l with
 | nil=>rfl
 | cons x l ih =>
  simp only[List.all_cons,Bool.and_eq_true] at h
  have hx:=AF h.1
  have:=ih h.2
  simp[NG,hx,this]
structure Id where
 bK:Int
 seq:Int
 index:Int
 deriving DecidableEq
def an(i:Id):List AV:=[.int .i64 i.bK,.int .i64 i.seq,.int .i64 i.index]
def al(l:List Id):List (List AV):=l.map an
theorem ba{l:List Id} : (al l).length=l.length:=by simp[al]
theorem je{l:List Id}{i:Nat}{e:Id}(h:l[i]?=some e):(al l)[i]?=some (an e):=by simp[al,h]
theorem La{i:Id} : (an i).all dp=true:=rfl
theorem fu{i j:Id} : bN [.i,.i,.i] [.int .i64 i.bK,.int .i64 i.seq,.int .i64 i.index] [.int .i64 j.bK,.int .i64 j.seq,.int .i64 j.index]=some (i==j):=by
 obtain⟨a,b,c⟩:=i
 obtain⟨x,y,z⟩:=j
 simp only[bN,asc,cond_true,Option.map_some,Bool.and_true,apv]
 rw[Bool.eq_iff_iff]
 simp
theorem dr{op:BinOp}{ks:List CK}{c:Bool}{xs ys:List AV} : wj op (.flat ks) c (.agg xs) (.agg ys)=(bN ks xs ys).bind fun b=>kx op b:=rfl
theorem yM{l:List Id} : Aw 3 (al l) :=
 ⟨fun r hr=>by simp only[al,ap9] at hr;obtain⟨n,_,rfl⟩:=hr;rfl,Dk fun r hr=>by simp only[al,ap9] at hr;obtain⟨n,_,rfl⟩:=hr;rfl⟩
theorem abU{l:List Id} : nb (al l)=true:=yM.2
theorem uc{l m:List Id}{o:Bool}(h:l.length+m.length<=1099511627776):bt false 3 24 (.slice (al l) true) (.slice (al m) o)=some (.slice (al (l++m)) true):=by
 rw[BZ yM yM (by rw[ba,ba];omega) (by rw[ba,ba];omega)];simp[al]
theorem tu{l:List Id}{i:Id}{o:Bool}(h:l.length<=1099511627775) :
  bt false 3 24 (.slice (al l) true) (.slice [[.int .i64 i.bK,.int .i64 i.seq,.int .i64 i.index]] o)=some (.slice (al (l++[i])) true):=uc (m:=[i]) (by simp;omega)
theorem nI:al []=[]:=rfl
def dT(z:Nat)(e:List (List AV)):Prop:=∀ r∈e,r.length=z/\r.all dp=true
theorem dT.rows{z:Nat}{e:List (List AV)}(h:dT z e):Aw z e:=⟨fun r hr=>(h r hr).1,Dk fun r hr=>Tp (h r hr).2⟩
theorem dT.nil{z:Nat} : dT z []:=fun r hr=>by simp at hr
theorem dT.one{z:Nat}{r:List AV}(h:r.length=z)(ho:r.all dp=true):dT z [r]:=fun x hx=>by rw[apI.1 hx];exact⟨h,ho⟩
theorem qp{l:List Id} : dT 3 (al l):=fun r hr=>by simp only[al,ap9] at hr;obtain⟨n,_,rfl⟩:=hr;exact⟨rfl,rfl⟩
theorem nE{z b:Nat}{e f:List (List AV)}{o:Bool}(h1:dT z e)(h2:dT z f)(hb:b<=1000)(hl:e.length+f.length<=1000000000):bt false z b (.slice e true) (.slice f o)=some (.slice (e++f) true) :=
 BZ h1.rows h2.rows (by have:=Nat.mul_le_mul hl hb;omega) (by omega)
theorem u1{z:Nat}{e:List (List AV)}(h:dT z e):cH e=true:=by
 unfold cH
 rw[apA]
 exact fun r hr=>uY (h r hr).2
theorem dT.flat{z:Nat}{e:List (List AV)}(h:dT z e):e.flatten.all dp=true:=by
 rw[apA]
 intro x hx
 obtain⟨r,hr,hx⟩:=arH.1 hx
 exact apA.1 (h r hr).2 x hx
theorem dT.wide{z:Nat}{e:List (List AV)}(h:dT z e):∀ r∈e,r.length=z:=fun r hr=>(h r hr).1
inductive Ex where
 | mk (id:Id) (Xy:Cells 10) (kids:List Ex) (names:List fa)
def Ex.id:Ex->Id|.mk i _ _ _=>i
def Ex.Xy:Ex->Cells 10|.mk _ m _ _=>m
def Ex.kids:Ex->List Ex|.mk _ _ k _=>k
def Ex.names:Ex->List fa|.mk _ _ _ n=>n
mutual
def bk:Ex->List AV
 | .mk i m ks ns=>an i++m.l++[.slice (bE ks) false,.slice (strs ns) false]
def bE:List Ex->List (List AV)
 | []=>[]
 | e :: r=>bk e :: bE r
end
theorem lG:∀ l:List Ex,bE l=l.map bk
 | []=>by simp[bE]
 | t :: r=>by simp[bE,lG r]
theorem rq(e:Ex):bk e=an e.id++e.Xy.l++[.slice (bE e.kids) false,.slice (strs e.names) false]:=by
 cases e;simp only[bk,Ex.id,Ex.Xy,Ex.kids,Ex.names]
theorem qh{l:List Ex} : (bE l).length=l.length:=by rw[lG];simp
theorem PF{l:List Ex}{i:Nat}{e:Ex}(h:l[i]?=some e):(bE l)[i]?=some (bk e):=by rw[lG];simp[h]
theorem bW{e:Ex} : (bk e).length=15:=by rw[rq];simp[an,e.Xy.len]
theorem nM{e:Ex} : (bk e).all dp=true:=by rw[rq];simp[La,e.Xy.ok,dp,AV.plain,J1]
theorem bZ{e:Ex} : (bk e).map AV.drop=bk e:=jV nM
theorem bB{e:Ex} : (bk e).all AV.plain=true:=uY nM
theorem bF{e:Ex} : (bk e).all aq=true:=mq nM
theorem dQ{e:Ex} : NG (bk e)=true:=Tp nM
theorem ca{e:Ex} : (bk e).take 15=bk e:=aqn (aqJ bW)
theorem cM{e:Ex}{base:Nat} : (bk e).all (AV.aJ base)=true:=Dm nM base
theorem I5{l:List Ex} : dT 15 (bE l):=fun r hr=>by rw[lG,ap9] at hr;obtain⟨e,_,rfl⟩:=hr;exact⟨bW,nM⟩
theorem F1{l:List Ex}{e:Ex} : bE l++[bk e]=bE (l++[e]):=by simp[lG]
theorem dj:bE []=[]:=by simp[bE]
theorem Ik{l:List Ex}{e:Ex}{o:Bool}(h:l.length<=10000000):bt false 15 168 (.slice (bE l) true) (.slice [bk e] o)=some (.slice (bE (l++[e])) true):=by
 rw[nE I5 (dT.one bW nM) (by omega) (by rw[qh];simp;omega),F1]
structure Slot where
 id:Id
 name:fa
 ty:Cells 5
 ND:Int
 place:Int
structure Def where
 id:Id
 kind:Int
 mod:Id
 name:fa
 aZ:List Slot
 res:Cells 5
 body:Cells 15
 tl:Cells 2
structure Mod where
 id:Id
 name:fa
 fY:List Id
 dc:Cells 1
structure Prog where
 mods:List Mod
 defs:List Def
def ff(s:Slot):List AV:=an s.id++[.str s.name]++s.ty.l++[.int .i64 s.ND,.int .i64 s.place]
def bw(l:List Slot):List (List AV):=l.map ff
def br(d:Def):List AV:=an d.id++[.int .i64 d.kind]++an d.mod++[.str d.name,.slice (bw d.aZ) false]++d.res.l++d.body.l++d.tl.l
def bz(l:List Def):List (List AV):=l.map br
def ux(l:List Id):AV:=match l with|[]=>.ae|_=>.slice (al l) false
def dw(m:Mod):List AV:=an m.id++[.str m.name,ux m.fY]++m.dc.l
def bD(l:List Mod):List (List AV):=l.map dw
def aF(p:Prog):List AV:=[.slice (bD p.mods) false,.slice (bz p.defs) false]
theorem fA{l:List Slot} : (bw l).length=l.length:=by simp[bw]
theorem cq{l:List Def} : (bz l).length=l.length:=by simp[bz]
theorem fI{l:List Mod} : (bD l).length=l.length:=by simp[bD]
theorem HH{l:List Slot}{i:Nat}{e:Slot}(h:l[i]?=some e):(bw l)[i]?=some (ff e):=by simp[bw,h]
theorem qa{l:List Def}{i:Nat}{e:Def}(h:l[i]?=some e):(bz l)[i]?=some (br e):=by simp[bz,h]
theorem xu{l:List Mod}{i:Nat}{e:Mod}(h:l[i]?=some e):(bD l)[i]?=some (dw e):=by simp[bD,h]
theorem mw{s:Slot} : (ff s).length=11:=by simp[ff,an,s.ty.len]
theorem sL{s:Slot} : (ff s).all dp=true:=by simp[ff,La,s.ty.ok,dp,AV.plain,J1]
theorem vY{s:Slot} : (ff s).map AV.drop=ff s:=jV sL
theorem u9{l:List Slot} : dT 11 (bw l):=fun r hr=>by simp only[bw,ap9] at hr;obtain⟨e,_,rfl⟩:=hr;exact⟨mw,sL⟩
theorem Kq{l:List Slot}{s:Slot} : bw l++[ff s]=bw (l++[s]):=by simp[bw]
theorem cx{d:Def} : (br d).length=31:=by simp[br,an,d.res.len,d.body.len,d.tl.len]
theorem Co{d:Def} : (br d).all dp=true:=by simp[br,La,d.res.ok,d.body.ok,d.tl.ok,dp,AV.plain,J1]
theorem cv{d:Def} : (br d).map AV.drop=br d:=jV Co
theorem cd{d:Def} : (br d).all aq=true:=mq Co
theorem cB{d:Def} : (br d).take 31=br d:=aqn (aqJ cx)
theorem di{d:Def}{base:Nat} : (br d).all (AV.aJ base)=true:=Dm Co base
theorem xp{l:List Def} : dT 31 (bz l):=fun r hr=>by simp only[bz,ap9] at hr;obtain⟨e,_,rfl⟩:=hr;exact⟨cx,Co⟩
theorem Mj{l:List Def} : ∀ r∈bz l,r.length=31:=xp.wide
theorem afH{d:Def} : ((br d).drop 0).take 3=an d.id:=by simp[br,an]
theorem rp{d:Def} : (br d).take 3=an d.id:=by simp[br,an]
theorem afI{d:Def} : (br d)[3]?=some (.int .i64 d.kind):=by simp[br,an]
theorem AN{d:Def} : ((br d).drop 4).take 3=an d.mod:=by simp[br,an]
theorem xV{d:Def} : (br d)[7]?=some (.str d.name):=by simp[br,an]
theorem O6{d:Def} : (br d)[8]?=some (.slice (bw d.aZ) false):=by simp[br,an]
theorem aaC{d:Def} : ((br d).drop 14).take 15=d.body.l:=by
 have h1:=d.res.len
 have h2:=d.body.len
 have:(br d).drop 14=d.body.l++d.tl.l:=by
  have e:br d=(an d.id++[.int .i64 d.kind]++an d.mod++[.str d.name,.slice (bw d.aZ) false]++d.res.l)++(d.body.l++d.tl.l):=by simp[br]
  rw[e,List.drop_left' (by simp[an,h1])]
 rw[this,List.take_left' h2]
theorem Pa{d:Def}{n:fa} : List.take 7 (br d)++[.str n]++List.drop 8 (br d)=br { d with name:=n }:=by simp[br,an]
theorem Mi{d:Def}{b:Cells 15} : List.take 14 (br d)++b.l++List.drop 29 (br d)=br { d with body:=b }:=by
 have h1:=d.res.len
 have h2:=d.body.len
 have e:br d=(an d.id++[.int .i64 d.kind]++an d.mod++[.str d.name,.slice (bw d.aZ) false]++d.res.l)++(d.body.l++d.tl.l):=by simp[br]
 have e2:List.take 14 (br d)=an d.id++[.int .i64 d.kind]++an d.mod++[.str d.name,.slice (bw d.aZ) false]++d.res.l:=by rw[e,List.take_left' (by simp[an,h1])]
 have e3:List.drop 29 (br d)=d.tl.l:=by
  rw[e,show (29:Nat)=14+15 by rfl,<- aq8,List.drop_left' (by simp[an,h1]),List.drop_left' h2]
 rw[e2,e3];simp[br]
theorem UU{l:List Id} : dp (ux l)=true:=by cases l<;>rfl
theorem dJ{m:Mod} : (dw m).length=6:=by simp[dw,an,m.dc.len]
theorem Di{m:Mod} : (dw m).all dp=true:=by
 have:=UU (l:=m.fY)
 simp[dw,La,m.dc.ok,this];rfl
theorem dm{m:Mod} : (dw m).map AV.drop=dw m:=jV Di
theorem cV{m:Mod} : (dw m).all aq=true:=mq Di
theorem dB{m:Mod} : (dw m).take 6=dw m:=aqn (aqJ dJ)
theorem fw{m:Mod}{base:Nat} : (dw m).all (AV.aJ base)=true:=Dm Di base
theorem Lo{l:List Mod} : dT 6 (bD l):=fun r hr=>by simp only[bD,ap9] at hr;obtain⟨e,_,rfl⟩:=hr;exact⟨dJ,Di⟩
theorem ag'{m:Mod} : ((dw m).drop 0).take 3=an m.id:=by simp[dw,an]
theorem JY{m:Mod} : (dw m).take 3=an m.id:=by simp[dw,an]
theorem G1{m:Mod} : (dw m)[3]?=some (.str m.name):=by simp[dw,an]
theorem Tb{m:Mod} : (dw m)[4]?=some (ux m.fY):=by simp[dw,an]
end Go.Proofs.YthbncinhhdogpaaGreatDoor
namespace Go.Proofs.YthbncinhhdogpaaGreatDoor
def qQ(a b:Id):Bool:=if a.bK=b.bK then (if a.seq=b.seq then decide (a.index<b.index) else decide (a.seq<b.seq)) else decide (a.bK<b.bK)
theorem abT{a b:Id}(h1:a.bK=b.bK)(h2:a.seq=b.seq)(h3:a.index=b.index):a=b:=by
 cases a;cases b;simp_all
theorem tN(a:Id):qQ a a=false:=by simp[qQ]
theorem vO{a b c:Id}(h1:qQ a b=true)(h2:qQ b c=true):qQ a c=true:=by
 simp only[qQ] at *
 repeat' split at h1
 all_goals repeat' split at h2
 all_goals simp only[apS] at h1 h2
 all_goals repeat' split
 all_goals simp only[apS]
 all_goals omega
theorem vN{a b:Id}(h1:qQ a b=false)(h2:qQ b a=false):a=b:=by
 simp only[qQ] at *
 repeat' split at h1
 all_goals repeat' split at h2
 all_goals simp only[aqs] at h1 h2
 all_goals first|(exfalso;omega)|(exact abT (by omega) (by omega) (by omega))
theorem Bt{a b:Id}(h1:qQ a b=true):qQ b a=false:=by
 cases h:qQ b a with
 | false=>rfl
 | true=>have:=vO h1 h;rw[tN] at this;cases this
def Up:List Id->Prop
 | []=>True
 | a :: l=>(∀ b∈l,qQ a b=true)/\Up l
theorem LL:∀ {l m:List Id},Up l->Up m->(∀ x,x∈l↔x∈m)->l=m
 | [],[],_,_,_=>rfl
 | [],b :: m,_,_,h=>by have:=(h b).2 (by simp);simp at this
 | a :: l,[],_,_,h=>by have:=(h a).1 (by simp);simp at this
 | a :: l,b :: m,hl,hm,h=>by
  have hab:a=b:=by
   rcases apO.1 ((h a).1 (by simp)) with e|e
   ·exact e
   ·rcases apO.1 ((h b).2 (by simp)) with e'|e'
    ·exact e'.symm
    ·have h1:=hm.1 a e
     have h2:=hl.1 b e'
     rw[Bt h1] at h2
     exact absurd h2 (by simp)
  subst hab
  congr 1
  refine LL hl.2 hm.2 fun x=>?_
  constructor
  ·intro hx
   rcases apO.1 ((h x).1 (apU _ hx)) with e|e
   ·have:=hl.1 x hx;rw[e,tN] at this;exact absurd this (by simp)
   ·exact e
  ·intro hx
   rcases apO.1 ((h x).2 (apU _ hx)) with e|e
   ·have:=hm.1 x hx;rw[e,tN] at this;exact absurd this (by simp)
   ·exact e
def kO:List Id->Id->List Id
 | [],x=>[x]
 | a :: l,x=>if qQ a x then a :: kO l x else if a==x then a :: l else x :: a :: l
theorem uP{x:Id} : ∀ {l:List Id} {y:Id},y∈kO l x↔y∈l\/y=x
 | [],y=>by simp[kO]
 | a :: l,y=>by
  simp only[kO]
  split
  ·rw[apO,uP,apO];simp only[or_assoc]
  ·split
   ·rename_i h
    have:=eq_of_beq h
    subst this
    rw[apO]
    constructor
    ·exact .inl
    ·rintro (h|h)
     ·exact h
     ·exact .inl h
   ·simp only[apO];constructor
    ·rintro (h|h|h)<;>simp[h]
    ·rintro ((h|h)|h)<;>simp[h]
theorem C7{x:Id} : ∀ {l:List Id},Up l->Up (kO l x)
 | [],_=>⟨by simp,trivial⟩
 | a :: l,h=>by
  simp only[kO]
  split
  ·rename_i mC
   refine⟨fun b hb=>?_,C7 h.2⟩
   rcases uP.1 hb with e|e
   ·exact h.1 b e
   ·rw[e];exact mC
  ·rename_i mC
   split
   ·exact h
   ·rename_i bC
    have VO:qQ x a=true:=by
     cases hh:qQ x a with
     | true=>rfl
     | false=>exact absurd (by rw[vN (by simpa using mC) hh];simp) bC
    refine⟨fun b hb=>?_,h⟩
    rcases apO.1 hb with e|e
    ·rw[e];exact VO
    ·exact vO VO (h.1 b e)
def L4:Nat->List Id->List Id
 | 0,l=>l
 | j+1,l=>match l[j+1]?,l[j]? with
  | some x,some y=>if qQ x y then L4 j ((l.set (j+1) y).set j x) else l
  | _,_=>l
theorem Fh:∀ {j:Nat} {l:List Id},(L4 j l).Perm l
 | 0,l=>List.Perm.refl _
 | j+1,l=>by
  simp only[L4]
  split
  ·rename_i x y hx hy
   split
   ·refine Fh.trans ?_
    obtain⟨h1,e1⟩:=apw.1 hx
    obtain⟨h2,e2⟩:=apw.1 hy
    have hd:l=l.take j++y :: x :: l.drop (j+2):=by
     rw[<- e1,<- e2,<- apV h1,<- apV h2,List.take_append_drop]
    have hs:(l.set (j+1) y).set j x=l.take j++x :: y :: l.drop (j+2):=by
     have hl:(l.take j).length=j:=by rw[ard];omega
     conv=>lhs;rw[hd]
     rw[aqc _ _ (by omega),aqc _ _ (by omega),hl]
     simp
    rw[hs]
    conv=>rhs;rw[hd]
    exact List.Perm.append_left _ (List.Perm.swap ..)
   ·exact List.Perm.refl _
  ·exact List.Perm.refl _
def aaf(l:List Id):Prop:=∀ (i k:Nat) (a b:Id),i<k->l[i]?=some a->l[k]?=some b->qQ b a=false
theorem xI:∀ {j k:Nat} {l:List Id},j<=k->k<l.length ->
  (∀ (i m:Nat) (a b:Id),i<m->m<=k->i≠j->m≠j->l[i]?=some a->l[m]?=some b->qQ b a=false) ->
  (∀ (m:Nat) (a b:Id),j<m->m<=k->l[j]?=some a->l[m]?=some b->qQ b a=false) ->
  ∀ (i m:Nat) (a b:Id),i<m->m<=k->(L4 j l)[i]?=some a->(L4 j l)[m]?=some b->qQ b a=false
 | 0,k,l,hj,hk,h1,h2,i,m,a,b,ZF,hm,ha,hb=>by
  simp only[L4] at ha hb
  by_cases hi:i=0
  ·subst hi;exact h2 m a b ZF hm ha hb
  ·exact h1 i m a b ZF hm hi (by omega) ha hb
 | j+1,k,l,hj,hk,h1,h2,i,m,a,b,ZF,hm,ha,hb=>by
  have g1:j+1<l.length:=by omega
  have g0:j<l.length:=by omega
  simp only[L4,apy g1,apy g0] at ha hb
  have ex:=apy g1
  have ey:=apy g0
  generalize l[j+1]=x at ha hb ex
  generalize l[j]=y at ha hb ey
  by_cases aU:qQ x y=true
  ·rw[if_pos aU] at ha hb
   refine xI (j:=j) (k:=k) (by omega) (by simpa using hk) ?_ ?_ i m a b ZF hm ha hb
   ·intro i' m' a' b' h3 h4 h5 h6 h7 h8
    rw[ap1 (fun e=>h5 e.symm)] at h7
    rw[ap1 (fun e=>h6 e.symm)] at h8
    by_cases e1:i'=j+1
    ·subst e1
     rw[ap5 g1] at h7
     rw[ap1 (by omega)] at h8
     cases aqi h7
     exact h1 j m' _ _ (by omega) h4 (by omega) (by omega) ey h8
    ·rw[ap1 (fun e=>e1 e.symm)] at h7
     by_cases e2:m'=j+1
     ·subst e2
      rw[ap5 g1] at h8
      cases aqi h8
      exact h1 i' j _ _ (by omega) (by omega) e1 (by omega) h7 ey
     ·rw[ap1 (fun e=>e2 e.symm)] at h8
      exact h1 i' m' _ _ h3 h4 e1 e2 h7 h8
   ·intro m' a' b' h3 h4 h7 h8
    rw[ap5 (by simpa using g0)] at h7
    rw[ap1 (by omega)] at h8
    cases aqi h7
    by_cases e2:m'=j+1
    ·subst e2
     rw[ap5 g1] at h8
     cases aqi h8
     exact Bt aU
    ·rw[ap1 (fun e=>e2 e.symm)] at h8
     exact h2 m' _ _ (by omega) h4 ex h8
  ·rw[if_neg aU] at ha hb
   have il:qQ x y=false:=by simpa using aU
   by_cases e1:i=j+1
   ·subst e1;exact h2 m a b ZF hm ha hb
   ·by_cases e2:m=j+1
    ·subst e2
     rw[ex] at hb
     cases aqi hb
     by_cases e3:i=j
     ·subst e3;rw[ey] at ha;cases aqi ha;exact il
     ·
      have h5:=h1 i j a y (by omega) (by omega) e1 (by omega) ha ey
      cases h6:qQ b a with
      | false=>rfl
      | true =>
       exfalso
       cases h7:qQ a y with
       | true=>have:=vO h6 h7;rw[il] at this;exact absurd this (by simp)
       | false=>have:=vN h7 h5;subst this;rw[il] at h6;exact absurd h6 (by simp)
    ·exact h1 i m a b ZF hm e1 e2 ha hb
def lI:Nat->List Id->List Id
 | 0,l=>l
 | n+1,l=>L4 n (lI n l)
theorem oy:∀ {n:Nat} {l:List Id},(lI n l).Perm l
 | 0,l=>List.Perm.refl _
 | n+1,l=>Fh.trans oy
theorem lT{n:Nat}{l:List Id} : (lI n l).length=l.length:=oy.length_eq
theorem s9:∀ {n:Nat} {l:List Id},n<=l.length->∀ (i m:Nat) (a b:Id),i<m->m<n->(lI n l)[i]?=some a->(lI n l)[m]?=some b->qQ b a=false
 | 0,l,_,i,m,a,b,_,h,_,_=>by omega
 | n+1,l,hn,i,m,a,b,ZF,hm,ha,hb=>by
  refine xI (j:=n) (k:=n) (apz _) (by rw[lT];omega) ?_ ?_ i m a b ZF (by omega) ha hb
  ·intro i' m' a' b' h1 h2 h3 h4 h5 h6
   exact s9 (n:=n) (by omega) i' m' a' b' h1 (by omega) h5 h6
  ·intro m' a' b' h1 h2;omega
def kI(l:List Id):List Id:=lI l.length l
theorem Np{l:List Id}{x:Id} : x∈kI l↔x∈l:=oy.mem_iff
theorem qq{l:List Id} : (kI l).length=l.length:=lT
theorem vf:∀ {l:List Id},l.Nodup->aaf l->Up l
 | [],_,_=>trivial
 | a :: l,hn,hs=>by
  refine⟨fun b hb=>?_,vf (aqN.1 hn).2 fun i k x y h1 h2 h3=>hs (i+1) (k+1) x y (by omega) (by simpa using h2) (by simpa using h3)⟩
  obtain⟨k,hk,e⟩:=List.mem_iff_getElem.1 hb
  have h1:=hs 0 (k+1) a b (by omega) (by simp) (by simp[hk,e])
  cases h2:qQ a b with
  | true=>rfl
  | false =>
   have:=vN h2 h1
   subst this
   exact absurd hb (aqN.1 hn).1
theorem SQ{l:List Id}(h:l.Nodup):Up (kI l):=by
 refine vf (oy.nodup_iff.2 h) fun i k a b h1 h2 h3=>?_
 have hk:=(apw.1 h3).1
 rw[kI,lT] at hk
 exact s9 (apz _) i k a b h1 hk h2 h3
def dk(p:Prog)(x:Id):Option Mod:=p.mods.find? fun m=>m.id==x
def kV(p:Prog)(x:Id):Option Def:=p.defs.find? fun d=>d.id==x
theorem PS{l:List Def}{x:Id}{d:Def}(h:l.find? (fun d=>d.id==x)=some d):d.id=x:=by
 have:=List.find?_some h
 simpa using this
def oe(q:Def->Bool)(ds:List Def):Nat->List Id
 | 0=>[]
 | n+1=>oe q ds n++(match ds[n]? with
  | some d=>if !((ds.take n).any fun e=>e.id==d.id)&&q d then [d.id] else []
  | none=>[])
theorem zi(q:Def->Bool)(ds:List Def)(x:Id):∀ n,x∈oe q ds n↔∃ d,(ds.take n).find? (fun d=>d.id==x)=some d/\q d=true
 | 0=>by simp[oe]
 | n+1=>by
  rw[oe,apC,zi q ds x n,List.take_add_one,List.find?_append]
  cases hf:(ds.take n).find? (fun d=>d.id==x) with
  | some d =>
   simp only[Option.some_or,apv,exists_eq_left']
   constructor
   ·rintro (h|h)
    ·exact h
    ·exfalso
     cases hd:ds[n]? with
     | none=>rw[hd] at h;simp at h
     | some e =>
      rw[hd] at h
      simp only at h
      split at h
      ·rename_i hc
       have hx:=apI.1 h
       simp only[Bool.and_eq_true,aqg,List.any_eq_false] at hc
       have:=hc.1 d (List.mem_of_find?_eq_some hf)
       have h2:=List.find?_some hf
       rw[hx] at h2
       exact this h2
      ·simp at h
   ·exact .inl
  | none =>
   simp only[Option.none_or,reduceCtorEq,false_and,arO,false_or]
   cases hd:ds[n]? with
   | none=>simp
   | some e =>
    simp only[Option.toList_some,List.find?_cons,List.find?_nil]
    constructor
    ·intro h
     split at h
     ·rename_i hc
      have hx:=apI.1 h
      subst hx
      simp only[Bool.and_eq_true] at hc
      exact⟨e,by simp,hc.2⟩
     ·simp at h
    ·rintro ⟨d,h1,h2⟩
     split at h1
     ·rename_i he
      cases aqi h1
      have hx:=eq_of_beq he
      subst hx
      have hc:((ds.take n).any fun e'=>e'.id==e.id)=false:=by
       rw[List.any_eq_false]
       intro y hy
       exact List.find?_eq_none.1 hf y hy
      rw[hc,h2]
      simp
     ·simp at h1
theorem qx(q:Def->Bool)(ds:List Def):∀ n,(oe q ds n).Nodup
 | 0=>by simp[oe]
 | n+1=>by
  rw[oe]
  cases hd:ds[n]? with
  | none=>simpa using qx q ds n
  | some e =>
   simp only
   split
   ·rename_i hc
    rw[List.nodup_append]
    refine⟨qx q ds n,by simp,fun a ha b hb=>?_⟩
    rw[apI.1 hb]
    rintro rfl
    obtain⟨d,h1,_⟩:=(zi q ds _ n).1 ha
    simp only[Bool.and_eq_true,aqg,List.any_eq_false] at hc
    exact hc.1 d (List.mem_of_find?_eq_some h1) (by rw[PS h1];simp)
   ·simpa using qx q ds n
theorem u0(q:Def->Bool)(ds:List Def):∀ n,(oe q ds n).length<=n
 | 0=>by simp[oe]
 | n+1=>by
  rw[oe,apL]
  have:=u0 q ds n
  cases hd:ds[n]? with
  | none=>simp;omega
  | some e=>simp only;split<;>simp<;>omega
def jf(mods:List Id)(name:fa)(d:Def):Bool:=d.name==name&&mods.contains d.mod
def fi(p:Prog)(mods:List Id)(name:fa):List Id:=kI (oe (jf mods name) p.defs p.defs.length)
theorem qv{p:Prog}{mods:List Id}{name:fa}{x:Id} : x∈fi p mods name↔∃ d,kV p x=some d/\d.name=name/\d.mod∈mods:=by
 rw[fi,Np,zi,arp]
 constructor
 ·rintro ⟨d,h1,h2⟩
  simp only[jf,Bool.and_eq_true,aqI,List.contains_iff_mem] at h2
  exact⟨d,h1,h2⟩
 ·rintro ⟨d,h1,h2⟩
  exact⟨d,h1,by simpa [jf,Bool.and_eq_true,aqI,List.contains_iff_mem] using h2⟩
theorem vR{p:Prog}{mods:List Id}{name:fa} : Up (fi p mods name):=SQ (qx _ _ _)
def kN:fa->Option (fa × fa)
 | []=>none
 | c :: s=>if c=46 then some ([],s) else (kN s).map fun r=>(c :: r.1,r.2)
def mj(p:Prog)(k:fa)(x:Id):Bool:=match dk p x with|some m=>m.name==k|none=>false
def fb(p:Prog)(mod:Id)(name:fa):List Id :=
 match dk p mod with
 | none=>[]
 | some m=>match kN name with
  | some r=>fi p ((mod :: m.fY).filter (mj p r.1)) r.2
  | none=>if fi p [mod] name≠[] then fi p [mod] name else fi p (m.fY.filter fun x=>(dk p x).isSome) name
def lN(p:Prog)(mod:Id)(name:fa)(out:List Id)(e:Def):List Id :=
 match kV p e.id with
 | some d=>if d.mod=mod/\d.name=name then kO out d.id else out
 | none=>out
def qV(p:Prog)(mod:Id)(name:fa):List Id:=p.defs.foldl (lN p mod name) []
theorem I'(p:Prog)(mod:Id)(name:fa):∀ (l:List Def) (out:List Id),Up out->Up (l.foldl (lN p mod name) out) /\
  ∀ x,x∈l.foldl (lN p mod name) out↔x∈out\/∃ e∈l,∃ d,kV p e.id=some d/\d.mod=mod/\d.name=name/\x=d.id
 | [],out,h=>⟨h,fun x=>by simp⟩
 | e :: l,out,h=>by
  rw[aqr]
  have h1:Up (lN p mod name out e)/\∀ x,x∈lN p mod name out e↔x∈out\/∃ d,kV p e.id=some d/\d.mod=mod/\d.name=name/\x=d.id:=by
   rw[lN]
   cases hd:kV p e.id with
   | none=>exact⟨h,fun x=>by simp⟩
   | some d =>
    simp only
    split
    ·rename_i hc
     refine⟨C7 h,fun x=>?_⟩
     rw[uP]
     constructor
     ·rintro (h|h)
      ·exact .inl h
      ·exact .inr ⟨d,rfl,hc.1,hc.2,h⟩
     ·rintro (h|⟨d',h1,h2,h3,h4⟩)
      ·exact .inl h
      ·cases aqi h1;exact .inr h4
    ·rename_i hc
     refine⟨h,fun x=>?_⟩
     constructor
     ·exact .inl
     ·rintro (h|⟨d',h1,h2,h3,h4⟩)
      ·exact h
      ·cases aqi h1;exact absurd ⟨h2,h3⟩ hc
  obtain⟨h2,h3⟩:=I' p mod name l _ h1.1
  refine⟨h2,fun x=>?_⟩
  rw[h3,h1.2]
  simp only[apO,exists_eq_or_imp,or_assoc]
theorem Cn{p:Prog}{x:Id}{d:Def}(h:kV p x=some d):d.id=x:=PS h
theorem xT{p:Prog}{x:Id}{d:Def}(h:kV p x=some d):d∈p.defs:=List.mem_of_find?_eq_some h
theorem abV{p:Prog}{mod:Id}{name:fa} : Up (qV p mod name):=(I' p mod name p.defs [] trivial).1
theorem uM{p:Prog}{mod:Id}{name:fa}{x:Id} : x∈qV p mod name↔∃ d,kV p x=some d/\d.name=name/\d.mod=mod:=by
 rw[qV,(I' p mod name p.defs [] trivial).2 x]
 constructor
 ·rintro (h|⟨e,h1,d,h2,h3,h4,h5⟩)
  ·simp at h
  ·have:=Cn h2
   rw[<- this] at h2
   rw[h5]
   exact⟨d,h2,h4,h3⟩
 ·rintro ⟨d,h1,h2,h3⟩
  exact .inr ⟨d,xT h1,d,by rw[Cn h1];exact h1,h3,h2,(Cn h1).symm⟩
theorem Ni{p:Prog}{mod:Id}{name:fa} : qV p mod name=fi p [mod] name :=
 LL abV vR fun x=>by rw[uM,qv];simp
def gf(p:Prog)(out:List Id)(x:Id):List Id:=if (dk p x).isSome&&!(out.contains x) then out++[x] else out
def gE(p:Prog)(mod:Id):List Id :=
 match dk p mod with
 | none=>[]
 | some m=>m.fY.foldl (gf p) [mod]
theorem CU(p:Prog):∀ (l out:List Id),(∃ more,l.foldl (gf p) out=out++more/\(∀ x∈more,x∉out)/\(∀ x∈more,x∈l/\(dk p x).isSome)/\∀ x∈l,(dk p x).isSome->x∈out\/x∈more)
 | [],out=>⟨[],by simp,by simp,by simp,by simp⟩
 | a :: l,out=>by
  rw[aqr]
  by_cases hc:((dk p a).isSome&&!(out.contains a))=true
  ·have hs:gf p out a=out++[a]:=by rw[gf,if_pos hc]
   rw[hs]
   obtain⟨more,h1,h2,h3,h4⟩:=CU p l (out++[a])
   simp only[Bool.and_eq_true,aqg,aq3,aqs] at hc
   refine⟨a :: more,by rw[h1];simp,?_,?_,?_⟩
   ·intro x hx
    rcases apO.1 hx with e|e
    ·rw[e];exact hc.2
    ·have:=h2 x e;simp at this;exact this.1
   ·intro x hx
    rcases apO.1 hx with e|e
    ·rw[e];exact⟨by simp,hc.1⟩
    ·exact⟨apU _ (h3 x e).1,(h3 x e).2⟩
   ·intro x hx hm
    rcases apO.1 hx with e|e
    ·exact .inr (by rw[e];simp)
    ·rcases h4 x e hm with h|h
     ·rcases apC.1 h with h|h
      ·exact .inl h
      ·exact .inr (by rw[apI.1 h];simp)
     ·exact .inr (apU _ h)
  ·have hs:gf p out a=out:=by rw[gf,if_neg hc]
   rw[hs]
   obtain⟨more,h1,h2,h3,h4⟩:=CU p l out
   refine⟨more,h1,h2,fun x hx=>⟨apU _ (h3 x hx).1,(h3 x hx).2⟩,?_⟩
   intro x hx hm
   rcases apO.1 hx with e|e
   ·subst e
    by_cases hx:x∈out
    ·exact .inl hx
    ·exact absurd (by simp[hm,hx]) hc
   ·exact h4 x e hm
def dV(p:Prog)(k:Option fa)(f:fa)(out:List Id)(x:Id):List Id :=
 if k.all (fun k=>((dk p x).map (·.name)).getD []==k) then (qV p x f).foldl kO out else out
def iH(p:Prog)(mod:Id)(name:fa):List Id :=
 match kN name with
 | some r=>(gE p mod).foldl (dV p (some r.1) r.2) []
 | none=>if 0<(gE p mod).length/\qV p mod name≠[] then qV p mod name else ((gE p mod).drop 1).foldl (dV p none name) []
theorem KT:∀ (l out:List Id),Up out->Up (l.foldl kO out)/\∀ x,x∈l.foldl kO out↔x∈out\/x∈l
 | [],out,h=>⟨h,by simp⟩
 | a :: l,out,h=>by
  rw[aqr]
  obtain⟨h1,h2⟩:=KT l _ (C7 (x:=a) h)
  refine⟨h1,fun x=>?_⟩
  rw[h2,uP,apO,or_assoc]
theorem uD(p:Prog)(k:Option fa)(f:fa):∀ (l out:List Id),Up out->Up (l.foldl (dV p k f) out) /\
  ∀ x,x∈l.foldl (dV p k f) out↔x∈out\/∃ y∈l,k.all (fun k=>((dk p y).map (·.name)).getD []==k)=true/\x∈qV p y f
 | [],out,h=>⟨h,by simp⟩
 | a :: l,out,h=>by
  rw[aqr,dV]
  by_cases hc:k.all (fun k=>((dk p a).map (·.name)).getD []==k)=true
  ·rw[if_pos hc]
   obtain⟨g1,g2⟩:=KT (qV p a f) out h
   obtain⟨h1,h2⟩:=uD p k f l _ g1
   refine⟨h1,fun x=>?_⟩
   rw[h2,g2]
   simp only[apO,exists_eq_or_imp,hc,arP,or_assoc]
  ·rw[if_neg hc]
   obtain⟨h1,h2⟩:=uD p k f l _ h
   refine⟨h1,fun x=>?_⟩
   rw[h2]
   simp only[apO,exists_eq_or_imp,hc,false_and,false_or]
   simp
theorem find_eq(p:Prog)(mod:Id)(name:fa):fb p mod name=iH p mod name:=by
 rw[fb,iH,gE]
 cases hm:dk p mod with
 | none=>cases kN name<;>simp
 | some m =>
  simp only
  obtain⟨more,h1,h2,h3,h4⟩:=CU p m.fY [mod]
  rw[h1]
  cases tG:kN name with
  | some r =>
   simp only
   obtain⟨g1,g2⟩:=uD p (some r.1) r.2 ([mod]++more) [] trivial
   refine LL vR g1 fun x=>?_
   rw[qv,g2]
   constructor
   ·rintro ⟨d,e1,e2,e3⟩
    rw[aqx] at e3
    have e4:=e3.2
    rw[mj] at e4
    cases hy:dk p d.mod with
    | none=>rw[hy] at e4;simp at e4
    | some y =>
     rw[hy] at e4
     refine .inr ⟨d.mod,?_,by simpa [hy] using e4,uM.2 ⟨d,e1,e2,rfl⟩⟩
     rcases apO.1 e3.1 with e|e
     ·rw[e];simp
     ·rcases h4 d.mod e (by rw[hy];rfl) with h|h
      ·rw[apI.1 h];simp
      ·simp[h]
   ·rintro (h|⟨y,e1,e2,e3⟩)
    ·simp at h
    ·obtain⟨d,e4,e5,e6⟩:=uM.1 e3
     refine⟨d,e4,e5,?_⟩
     subst e6
     have hs:(dk p d.mod).isSome/\d.mod∈mod :: m.fY:=by
      rcases apC.1 e1 with e|e
      ·rw[apI.1 e];exact⟨by rw[hm];rfl,by simp⟩
      ·exact⟨(h3 _ e).2,apU _ (h3 _ e).1⟩
     refine aqx.2 ⟨hs.2,?_⟩
     cases hy:dk p d.mod with
     | none=>rw[hy] at hs;simp at hs
     | some y =>
      rw[mj,hy]
      simpa [hy] using e2
  | none =>
   simp only
   rw[Ni]
   by_cases ho:fi p [mod] name=[]
   ·rw[if_neg (by simpa using ho),if_neg (by simp[ho])]
    obtain⟨g1,g2⟩:=uD p none name (([mod]++more).drop 1) [] trivial
    refine LL vR g1 fun x=>?_
    rw[qv,g2]
    constructor
    ·rintro ⟨d,e1,e2,e3⟩
     rw[aqx] at e3
     refine .inr ⟨d.mod,?_,by simp,uM.2 ⟨d,e1,e2,rfl⟩⟩
     rcases h4 d.mod e3.1 e3.2 with h|h
     ·exfalso
      have:=(qv (p:=p) (mods:=[mod]) (name:=name) (x:=x)).2 ⟨d,e1,e2,h⟩
      rw[ho] at this
      simp at this
     ·simpa using h
    ·rintro (h|⟨y,e1,e2,e3⟩)
     ·simp at h
     ·obtain⟨d,e4,e5,e6⟩:=uM.1 e3
      subst e6
      have e1' : d.mod∈more:=by simpa using e1
      exact⟨d,e4,e5,aqx.2 (h3 _ e1')⟩
   ·rw[if_pos (by simpa using ho),if_pos ⟨by simp,by simpa using ho⟩]
def gN(f:Prog->Id->fa->List Id)(p:Prog)(mod id:Id):fa :=
 match kV p id with
 | none=>[]
 | some d =>
  if f p mod d.name=[id] then d.name
  else if f p mod (((dk p d.mod).map (·.name)).getD []++[46]++d.name)=[id] then ((dk p d.mod).map (·.name)).getD []++[46]++d.name
  else []
theorem XP(p:Prog)(mod id:Id):gN fb p mod id=gN iH p mod id:=by
 simp only[gN,find_eq]
structure Zk (p:Prog):Prop where
 mods:∀ m∈p.mods,dk p m.id=some m
 defs:∀ d∈p.defs,kV p d.id=some d
 names:∀ m∈p.mods,∀ n∈p.mods,m.name=n.name->m.id=n.id
 pm:∀ m∈p.mods,46∉m.name
 pd:∀ d∈p.defs,46∉d.name
 home:∀ d∈p.defs,∃ m∈p.mods,m.id=d.mod
end Go.Proofs.YthbncinhhdogpaaGreatDoor
namespace Go.Proofs.YthbncinhhdogpaaGreatDoor
open Go Go.Abs Go.Proofs
theorem Z3(x:Int)(H:ag):az A 98 [.int .i64 x] H=some (.bool false,none):=by
 refine bT (fn:=SO) rfl rfl rfl ?_
 unfold SO
 simp(disch:=omega)only[aG,aa,simprocAttr,bne_self_eq_false]
def xR(x y:Int):Int:=if x<y then -1 else if x>y then 1 else 0
theorem vt(x y:Int)(H:ag):az A 65 [.int .i64 x,.int .i64 y] H=some (.int .i64 (xR x y),none):=by
 refine bT (fn:=SL) rfl rfl rfl ?_
 unfold SL
 have h1:=Z3 x H
 have h2:=Z3 y H
 by_cases c1:x<y
 ·simp(disch:=omega)only[aG,aa,simprocAttr,h1,h2,c1,xR,aqH]
 ·by_cases c2:x>y
  ·simp(disch:=omega)only[aG,aa,simprocAttr,h1,h2,c1,c2,xR,aqH,aqG]
  ·simp(disch:=omega)only[aG,aa,simprocAttr,h1,h2,c1,c2,xR,aqG]
def Z4:List Int->Int
 | []=>0
 | x :: l=>if x≠0 then x else Z4 l
theorem akT(l:List Int)(H:ag)(hl:l.length<=1000000):az A 64 [.slice (ints l) false] H=some (.int .i64 (Z4 l),none):=by
 refine bT (fn:=SK) rfl rfl rfl ?_
 unfold SK
 simp(disch:=omega)only[aG,aa,simprocAttr,ma]
 refine xj l.length (fun i=>Hd (fun T=>T 3=.int .i64 0/\T 6=.slice (ints l) false/\T 7=.int .i64 l.length/\T 8=.int .i64 i/\Z4 l=Z4 (l.drop i)) H H.length 0) ?_ 0 _ (aqF _) ?_
 ·rintro i s hi hs
  obtain⟨T,rfl,h3,h6,h7,h8,hc⟩:=hs.out
  by_cases h:i<l.length
  ·have hg:=ints_at (apy h)
   rw[apV h,Z4] at hc
   generalize l[i]=e at hg hc
   by_cases he:e=0
   ·subst he
    rw[if_neg (by simp)] at hc
    simp(disch:=omega)only[aG,aa,simprocAttr,h3,h6,h7,h8,hg,bne_self_eq_false]
    exact⟨h,hc⟩
   ·rw[if_pos he] at hc
    simp(disch:=omega)only[aG,aa,simprocAttr,h3,h6,h7,h8,hg,he,hc]
  ·have:i=l.length:=by omega
   subst this
   simp only[aqm,Z4] at hc
   simp(disch:=omega)only[aG,aa,simprocAttr,h3,h6,h7,h8,hc]
 ·simp(disch:=omega)only[aG,aa,simprocAttr,aqh,apK]
def XV(a b:Id):Int:=Z4 [xR a.bK b.bK,xR a.seq b.seq,xR a.index b.index]
theorem ada(a b:Id):decide (XV a b<0)=qQ a b:=by
 simp only[XV,Z4,xR,qQ]
 rcases Int.lt_trichotomy a.bK b.bK with h|h|h
 ·simp[h,show a.bK≠b.bK by omega]
 ·simp only[h,Int.lt_irrefl,aqG,aqH]
  rcases Int.lt_trichotomy a.seq b.seq with h|h|h
  ·simp[h,show a.seq≠b.seq by omega]
  ·simp only[h,Int.lt_irrefl,aqG,aqH]
   rcases Int.lt_trichotomy a.index b.index with h|h|h
   ·simp[h]
   ·simp[h]
   ·simp[h,show ¬ a.index<b.index by omega]
  ·simp[h,show ¬ a.seq<b.seq by omega,show a.seq≠b.seq by omega]
 ·simp[h,show ¬ a.bK<b.bK by omega,show a.bK≠b.bK by omega]
theorem XW(a b:Id)(H:ag):az A 49 [.agg (an a),.agg (an b)] H=some (.int .i64 (XV a b),none):=by
 refine bT (fn:=SC) rfl rfl rfl ?_
 unfold SC
 have h1:=vt a.bK b.bK H
 have h2:=vt a.seq b.seq H
 have h3:=vt a.index b.index H
 have h4:=akT [xR a.bK b.bK,xR a.seq b.seq,xR a.index b.index] H (by simp)
 simp only[ints,apZ,aqe] at h4
 rw[an,an]
 simp(disch:=omega)only[aG,aa,simprocAttr,h1,h2,h3,h4,XV]
theorem dx{z:Nat} : ∀ {rows:List (List AV)},(∀ r∈rows,r.length=z)->rows.flatten.length=rows.length*z
 | [],_=>by simp
 | r :: rows,h=>by
  rw[aqq,apL,dx (fun r hr=>h r (apU _ hr)),h r (apP ..),List.length_cons,aqd,ark,arM]
theorem Gc{z:Nat} : ∀ {rows:List (List AV)} {i:Nat} {r:List AV},(∀ r∈rows,r.length=z)->rows[i]?=some r->(rows.flatten.drop (i*z)).take z=r
 | [],i,r,_,hi=>by simp at hi
 | a :: rows,0,r,h,hi=>by
  simp only[apH,apv] at hi
  subst hi
  have ha:=h a (apP ..)
  rw[ars,aqh,aqq,<- ha,List.take_left']
  rfl
 | a :: rows,i+1,r,h,hi=>by
  have ha:=h a (apP ..)
  rw[aqq,aqd,ark,arM,<- ha,<- aq8,List.drop_left' rfl,ha]
  exact Gc (fun r hr=>h r (apU _ hr)) (by simpa using hi)
theorem pv{l:List Id} : ∀ r∈al l,r.length=3:=fun r hr=>by
 simp only[al,ap9] at hr
 obtain⟨i,_,rfl⟩:=hr
 rfl
theorem Gz{l:List Id}{i:Nat}{d:Id}(h:l[i]?=some d):ah false true 3 (i*3) (al l).flatten=some (.agg (an d)):=by
 have aU:=(apw.1 h).1
 have hl:(al l).flatten.length=l.length*3:=by rw[dx pv,ba]
 simp only[ah,cond_true,hl,aqk (show i*3+3<=l.length*3 by omega)]
 rw[Gc (i:=i) pv (je h)]
 rfl
theorem vG{z:Nat} : ∀ {rows:List (List AV)} {i:Nat} {r:List AV} (j:Nat),(∀ r∈rows,r.length=z)->rows[i]?=some r->j<=z->rows.flatten.drop (i*z+j)=r.drop j++(rows.drop (i+1)).flatten
 | [],i,r,j,_,hi,_=>by simp at hi
 | a :: rows,0,r,j,h,hi,hj=>by
  simp only[apH,apv] at hi
  subst hi
  have ha:=h a (apP ..)
  rw[ars,Nat.zero_add,aqq,List.drop_append_of_le_length (by omega)]
  rfl
 | a :: rows,i+1,r,j,h,hi,hj=>by
  have ha:=h a (apP ..)
  have e:(i+1)*z+j=a.length+(i*z+j):=by rw[aqd,ark,ha];omega
  rw[e,aqq,<- aq8,List.drop_left' rfl,vG j (fun r hr=>h r (apU _ hr)) (by simpa using hi) hj]
  rfl
theorem A2{z:Nat}{rows:List (List AV)}{i j:Nat}{r:List AV}(h:∀ r∈rows,r.length=z)(hi:rows[i]?=some r)(hj:j<z):rows.flatten[i*z+j]?=r[j]?:=by
 have hr:=h r (apF hi)
 have:=vG j h hi (arD hj)
 have e:rows.flatten[i*z+j]?=(rows.flatten.drop (i*z+j))[0]?:=by rw[ap'];rfl
 rw[e,this,apN (by rw[aro];omega),ap']
 rfl
theorem gF{z:Nat}{rows:List (List AV)}{i j sz:Nat}{r:List AV}{agg:Bool}(h:∀ r∈rows,r.length=z)(hi:rows[i]?=some r)(hz:0<z)(hj:j+sz<=z)(hjz:j<z) :
  ah false agg sz (i*z+j) rows.flatten=ah false agg sz j r:=by
 have hr:=h r (apF hi)
 have aU:=(apw.1 hi).1
 have hl:rows.flatten.length=rows.length*z:=dx h
 have hb:i*z+z<=rows.length*z:=by rw[<- Nat.succ_mul];exact ap4 _ aU
 cases agg with
 | true =>
  simp only[ah,cond_true,hl,hr,aqk (show i*z+j+sz<=rows.length*z by omega),aqk hj]
  rw[vG j h hi (by omega),arZ (by rw[aro];omega)]
 | false =>
  simp only[ah,apE]
  rw[A2 h hi hjz]
theorem nO{z:Nat} : ∀ {rows:List (List AV)} {i j:Nat} {r cs:List AV},(∀ r∈rows,r.length=z)->rows[i]?=some r->j+cs.length<=z->putAt rows.flatten (i*z+j) cs=(rows.set i (putAt r j cs)).flatten
 | [],i,j,r,cs,_,hi,_=>by simp at hi
 | a :: rows,0,j,r,cs,h,hi,hj=>by
  simp only[apH,apv] at hi
  subst hi
  have ha:=h a (apP ..)
  simp only[putAt,ars,Nat.zero_add,aqq,List.set_cons_zero]
  rw[arZ (by omega),List.drop_append_of_le_length (by omega)]
  simp only[aqL]
 | a :: rows,i+1,j,r,cs,h,hi,hj=>by
  have ha:=h a (apP ..)
  have ih:=nO (j:=j) (cs:=cs) (fun r hr=>h r (apU _ hr)) (by simpa using hi) hj
  have e:(i+1)*z+j=a.length+(i*z+j):=by rw[aqd,ark,ha];omega
  simp only[aqq,List.set_cons_succ,<- ih]
  simp only[putAt,e]
  rw[List.take_length_add_append,aq',List.drop_length_add_append]
  simp only[aqL]
theorem Lb{l:List Id}{q:Nat}{x:Id}(h:q<l.length):List.take (q*3) (al l).flatten++[.int .i64 x.bK,.int .i64 x.seq,.int .i64 x.index]++List.drop (q*3+3) (al l).flatten=(al (l.set q x)).flatten:=by
 have h0:l[q]?=some l[q]:=apy h
 have:=nO (z:=3) (j:=0) (cs:=an x) pv (je h0) (by simp[an])
 rw[aqO] at this
 rw[show al (l.set q x)=(al l).set q (putAt (an l[q]) 0 (an x)) by simp[al,List.map_set,putAt,an],<- this]
 simp only[putAt,an,List.length_cons,List.length_nil]
theorem ag9{mm lo n:Nat}(h:lo=n\/lo=mm)(aU:mm<n):(bif decide (mm<lo) then mm else lo)=mm:=by
 rcases h with rfl|rfl
 ·rw[decide_eq_true aU];rfl
 ·simp
theorem sK{H:ag}{i:Nat}{o:ct} : (H.set i o).take H.length=H.set i o:=aqn (aqJ aqE)
theorem zx{H:ag}{i:Nat}{o:ct} : (H.set i o).length=H.length:=aqE
def BO(H:ag)(loc:Nat)(ty:TypeId)(q:List Id):ag:=H.set loc (.box ty (al q).flatten)
theorem DM{H:ag}{loc:Nat}{ty:TypeId}{q:List Id}(h:loc<H.length):(BO H loc ty q)[loc]?=some (.box ty (al q).flatten):=ap5 h
theorem vd{H:ag}{loc:Nat}{ty:TypeId}{q:List Id} : (BO H loc ty q).length=H.length:=aqE
theorem r7{H:ag}{loc:Nat}{ty:TypeId}{q:List Id} : (BO H loc ty q).take H.length=BO H loc ty q:=sK
theorem Y6{H:ag}{loc:Nat}{ty:TypeId}{q:List Id}{o:ct} : (BO H loc ty q).set loc o=H.set loc o:=by unfold BO;rw[List.set_set]
def xi(H:ag)(loc:Nat)(ty:TypeId)(l q:List Id)(c:Option gk):Prop:=(c=none/\q=l)\/c=some ⟨BO H loc ty q,loc⟩
theorem GG(l:List Id)(H:ag)(loc:Nat)(ty:TypeId)(hH:H[loc]?=some (.box ty (al l).flatten))(hl:l.length<=1000)(cD:∀ q,j9 H.length loc (BO H loc ty q)=true) :
  ∃ c,az A 88 [.sref loc 0 l.length 3,.int .i64 0,.int .i64 l.length,.func (.func 49) [] []] H=some (.tuple [],c)/\xi H loc ty l (kI l) c:=by
 have aU:loc<H.length:=(apw.1 hH).1
 have qP:BO H loc ty l=H:=by
  unfold BO
  refine aqS fun j=>?_
  rw[ap6]
  split
  ·rename_i hj;subst hj;exact hH.symm
  ·rfl
 have key:∃ r,az A 88 [.sref loc 0 l.length 3,.int .i64 0,.int .i64 l.length,.func (.func 49) [] []] H=some r/\r.1=.tuple []/\xi H loc ty l (kI l) r.2:=by
  refine js (fn:=JJ) rfl rfl rfl ?_
  unfold JJ
  simp(disch:=omega)only[aG,aa,simprocAttr]
  refine bd (l.length-1) 0 (fun i s=>∃ T lo,s=⟨T,BO H loc ty (lI (i+1) l),lo,0⟩/\((lo=H.length/\lI (i+1) l=l)\/lo=loc)/\T 0=.sref loc 0 l.length 3/\T 1=.int .i64 0/\T 2=.int .i64 l.length/\T 3=.func (.func 49) [] []/\T 8=.int .i64 (i+1))
   (fun s=>∃ T lo,s=⟨T,BO H loc ty (kI l),lo,0⟩/\((lo=H.length/\kI l=l)\/lo=loc)) (fun _=>False) ?_ ?_ (fun _ h=>h.elim) 0 _ (by omega) ?_
  ·rintro i s hi ⟨T,lo,rfl,qO,e0,e1,e2,e3,e8⟩
   by_cases jr:i<l.length-1
   ·simp(disch:=omega)only[aG,aa,simprocAttr,e0,e1,e2,e3,e8,show ((i:Int)+1<l.length)=True by simp;omega]
    refine UA 2 (fun k s=>∃ T lo q,s=⟨T,BO H loc ty q,lo,0⟩/\q.length=l.length/\k<=i+1/\L4 k q=lI (i+1+1) l/\((lo=H.length/\q=l)\/lo=loc)/\T 0=.sref loc 0 l.length 3/\T 1=.int .i64 0/\T 2=.int .i64 l.length/\T 3=.func (.func 49) [] []/\T 8=.int .i64 (i+1)/\T 9=.int .i64 k)
     (fun s=>∃ T lo,s=⟨T,BO H loc ty (lI (i+1+1) l),lo,0⟩/\((lo=H.length/\lI (i+1+1) l=l)\/lo=loc)/\T 0=.sref loc 0 l.length 3/\T 1=.int .i64 0/\T 2=.int .i64 l.length/\T 3=.func (.func 49) [] []/\T 8=.int .i64 (i+1)) (fun _=>False) ?_ ?_ (fun _ h=>h.elim) (i+1) _ ?_
    ·rintro k s ⟨T,lo,q,rfl,hq,hk,hb,qO,e0,e1,e2,e3,e8,e9⟩
     cases k with
     | zero =>
      simp(disch:=omega)only[aG,aa,simprocAttr,e0,e1,e2,e3,e8,e9,apK]
      simp only[L4] at hb
      subst hb
      exact⟨_,_,rfl,qO,by simp(disch:=omega)only[aG,aa,simprocAttr,e0,e1,e2,e3,e8]⟩
     | succ k =>
      have g1:k+1<q.length:=by omega
      have g0:k<q.length:=by omega
      have q1:=Gz (apy g1)
      have q0:=Gz (apy g0)
      have da:=XW q[k+1] q[k] (BO H loc ty q)
      have xc:=ada q[k+1] q[k]
      have fQ:=DM (ty:=ty) (q:=q) aU
      have ajy:L4 (k+1) q=if qQ q[k+1] q[k] then L4 k ((q.set (k+1) q[k]).set k q[k+1]) else q:=by
       simp only[L4,apy g1,apy g0]
      rw[ajy] at hb
      have s6:((k:Int)+1-1)=k:=by omega
      have ht:((k:Int)+1).toNat=k+1:=by omega
      have e9' : T 9=.int .i64 ((k:Int)+1):=by rw[e9];simp
      have Be:decide (k+1<l.length)=true:=by simp;omega
      have agr:decide (k<l.length)=true:=by simp;omega
      cases hc:qQ q[k+1] q[k] with
      | false =>
       rw[hc] at xc hb
       simp only[aqf,aqG] at hb
       generalize q[k+1]=x at *
       generalize q[k]=y at *
       rw[an] at q1 q0
       rw[an,an] at da
       simp(disch:=omega)only[aG,aa,simprocAttr,e0,e1,e2,e3,e8,e9',fQ,q1,q0,da,xc,s6,ht,Be,agr]
       exact⟨_,_,by rw[hb],by rw[<- hb];exact qO,by simp(disch:=omega)only[aG,aa,simprocAttr,e0,e1,e2,e3,e8]⟩
      | true =>
       rw[hc] at xc hb
       simp only[aqH] at hb
       generalize q[k+1]=x at *
       generalize q[k]=y at *
       have abu:(lo=H.length\/lo=loc):=by rcases qO with h|h;exact .inl h.1;exact .inr h
       have p1:=Lb (l:=q) (q:=k+1) (x:=y) g1
       have p0:=Lb (l:=q.set (k+1) y) (q:=k) (x:=x) (by simpa using g0)
       rw[an] at q1 q0
       rw[an,an] at da
       have ajw:decide ((k+1)*3+3<=(al q).flatten.length)=true:=by rw[dx pv,ba];simp;omega
       have ajv:decide (k*3+3<=(al (q.set (k+1) y)).flatten.length)=true:=by rw[dx pv,ba];simp;omega
       have agm:=fun o=>ap5 (a:=o) (l:=H) (i:=loc) aU
       have Gu:=ag9 abu aU
       have gr:(bif decide (loc<loc) then loc else loc)=loc:=by simp
       simp(disch:=omega)only[aG,aa,simprocAttr,e0,e1,e2,e3,e8,e9',fQ,agm,q1,q0,da,xc,s6,ht,Be,agr,p1,p0,ajw,ajv,Y6,List.set_set,Gu,gr]
       exact⟨k,by omega,_,loc,(q.set (k+1) y).set k x,rfl,by simp[hq],by omega,hb,.inr rfl,by simp(disch:=omega)only[aG,aa,simprocAttr,e0,e1,e2,e3,e8]⟩
    ·rintro s ⟨T,lo,rfl,qO,e0,e1,e2,e3,e8⟩
     simp(disch:=omega)only[aG,aa,simprocAttr,e0,e1,e2,e3,e8]
     exact⟨jr,_,_,rfl,qO,by simp(disch:=omega)only[aG,aa,simprocAttr,e0,e1,e2,e3]⟩
    ·exact⟨_,_,_,rfl,lT,apz _,rfl,qO,by simp(disch:=omega)only[aG,aa,simprocAttr,e0,e1,e2,e3,e8]⟩
   ·have Vx:lI (i+1) l=kI l:=by
     unfold kI
     by_cases h0:l.length=0
     ·have:i=0:=by omega
      subst this
      rw[h0];rfl
     ·rw[show l.length=i+1 by omega]
    rw[Vx] at qO ⊢
    simp(disch:=omega)only[aG,aa,simprocAttr,e0,e1,e2,e3,e8,show ((i:Int)+1<l.length)=False by simp;omega]
    exact⟨_,_,rfl,qO⟩
  ·rintro s ⟨T,lo,rfl,qO⟩
   rcases qO with ⟨rfl,h⟩|rfl
   ·simp(disch:=omega)only[aG,aa,simprocAttr,vd,r7]
    exact .inl ⟨rfl,h⟩
   ·have bC:Nat.beq lo H.length=false:=by simp[dX];omega
    simp(disch:=omega)only[aG,aa,simprocAttr,vd,r7,bC,cD]
    exact .inr rfl
  ·refine⟨_,_,by rw[show lI (0+1) l=l from rfl,qP],.inl ⟨rfl,rfl⟩,by simp(disch:=omega)only[aG,aa,simprocAttr,apK,Int.zero_add]⟩
 obtain⟨r,h1,h2,h3⟩:=key
 obtain⟨r1,c⟩:=r
 simp only at h2 h3
 subst h2
 exact⟨c,h1,h3⟩
theorem Xr(n:Nat)(hn:n<=12)(H:ag):az A 97 [.int .u64 n] H=some (.int .i64 (([0,1,2,2,3,3,3,3,4,4,4,4,4]:List Int).getD n 0),none):=by
 refine bT (fn:=SN) rfl rfl rfl ?_
 unfold SN
 have h:n=0\/n=1\/n=2\/n=3\/n=4\/n=5\/n=6\/n=7\/n=8\/n=9\/n=10\/n=11\/n=12:=by omega
 have w:∀ k:Nat,k<=12->IntKind.u8.wrap (k:Int)=k:=fun k hk=>by
  have:k=0\/k=1\/k=2\/k=3\/k=4\/k=5\/k=6\/k=7\/k=8\/k=9\/k=10\/k=11\/k=12:=by omega
  rcases this with rfl|rfl|rfl|rfl|rfl|rfl|rfl|rfl|rfl|rfl|rfl|rfl|rfl<;>decide
 have hw:=w n hn
 have g:∀ k:Nat,k<=12->asNat (.int .u8 (k:Int))=some k:=fun k hk=>by simp[asNat]
 have hg:=g n hn
 simp(disch:=omega)only[aG,aa,simprocAttr,hw,hg]
 rcases h with rfl|rfl|rfl|rfl|rfl|rfl|rfl|rfl|rfl|rfl|rfl|rfl|rfl
 all_goals
  simp(disch:=omega)only[aG,aa,simprocAttr]
  rfl
theorem Z1(n:Nat)(hn:n<=12):∃ z:Int,∀ H,az A 63 [.int .u64 n] H=some (.int .i64 z,none):=by
 refine⟨([0,1,2,2,3,3,3,3,4,4,4,4,4]:List Int).getD n 0,fun H=>?_⟩
 refine bT (fn:=SJ) rfl rfl rfl ?_
 unfold SJ
 have h:=Xr n hn H
 simp(disch:=omega)only[aG,aa,simprocAttr,h]
theorem C8(H:ag):az A 88 [.slice [] false,.int .i64 0,.int .i64 0,.func (.func 49) [] []] H=some (.tuple [],none):=by
 refine bT (fn:=JJ) rfl rfl rfl ?_
 unfold JJ
 simp(disch:=omega)only[aG,aa,simprocAttr]
 refine bd 0 0 (fun i=>Hd (fun T=>T 2=.int .i64 0/\T 8=.int .i64 1) H H.length 0) (Hd (fun T=>True) H H.length 0) (fun _=>False) ?_ ?_ (fun _ h=>h.elim) 0 _ (by omega) ?_
 ·rintro i s hi hs
  obtain⟨T,rfl,e2,e8⟩:=hs.out
  simp(disch:=omega)only[aG,aa,simprocAttr,e2,e8]
 ·rintro s hs
  obtain⟨T,rfl,_⟩:=hs.out
  simp(disch:=omega)only[aG,aa,simprocAttr]
 ·simp(disch:=omega)only[aG,aa,simprocAttr]
theorem adm(H:ag)(z:Int):az A 62 [.slice [] false,.int .i64 0,.int .i64 0,.int .i64 z,.func (.func 49) [] []] H=some (.tuple [],none):=by
 refine bT (fn:=JI) rfl rfl rfl ?_
 unfold JI
 have h:=C8 H
 simp(disch:=omega)only[aG,aa,simprocAttr]
 refine bd 0 0 (fun i=>Hd (fun T=>T 0=.slice [] false/\T 1=.int .i64 0/\T 2=.int .i64 0/\T 4=.func (.func 49) [] []) H H.length 0) (fun _=>False) (Hd (fun T=>True) H H.length 0) ?_ (fun _ h=>h.elim) ?_ 0 _ (by omega) ?_
 ·rintro i s hi hs
  obtain⟨T,rfl,e0,e1,e2,e4⟩:=hs.out
  simp(disch:=omega)only[aG,aa,simprocAttr,e0,e1,e2,e4,h]
 ·rintro s hs
  obtain⟨T,rfl,_⟩:=hs.out
  simp(disch:=omega)only[aG,aa,simprocAttr]
 ·simp(disch:=omega)only[aG,aa,simprocAttr]
theorem Y3(H:ag):az A 48 [.slice [] false,.func (.func 49) [] []] H=some (.tuple [],none):=by
 refine bT (fn:=JH) rfl rfl rfl ?_
 unfold JH
 obtain⟨z,hz⟩:=Z1 0 (by omega)
 have h:=adm H z
 have Jy:=hz H
 simp only[apK] at Jy
 have hw:IntKind.u64.wrap 0=0:=by decide
 simp(disch:=omega)only[aG,aa,simprocAttr,h,Jy,hw]
theorem ahk(l:List Id)(H:ag)(loc:Nat)(ty:TypeId)(z:Int)(hH:H[loc]?=some (.box ty (al l).flatten))(hl:l.length<=12)(cD:∀ q,j9 H.length loc (BO H loc ty q)=true) :
  ∃ c,az A 62 [.sref loc 0 l.length 3,.int .i64 0,.int .i64 l.length,.int .i64 z,.func (.func 49) [] []] H=some (.tuple [],c)/\xi H loc ty l (kI l) c:=by
 obtain⟨c,h,hc⟩:=GG l H loc ty hH (by omega) cD
 have aU:loc<H.length:=(apw.1 hH).1
 refine⟨c,?_,hc⟩
 refine bT (fn:=JI) rfl rfl rfl ?_
 unfold JI
 simp(disch:=omega)only[aG,aa,simprocAttr]
 rcases hc with ⟨rfl,hq⟩|rfl
 ·refine bd 0 0 (fun i=>Hd (fun T=>T 0=.sref loc 0 l.length 3/\T 1=.int .i64 0/\T 2=.int .i64 l.length/\T 4=.func (.func 49) [] []) H H.length 0) (fun _=>False) (Hd (fun T=>True) H H.length 0) ?_ (fun _ h=>h.elim) ?_ 0 _ (by omega) ?_
  ·rintro i s hi hs
   obtain⟨T,rfl,e0,e1,e2,e4⟩:=hs.out
   simp(disch:=omega)only[aG,aa,simprocAttr,e0,e1,e2,e4,h,show ((l.length:Int)<=12)=True by simp;omega,Int.sub_zero]
  ·rintro s hs
   obtain⟨T,rfl,_⟩:=hs.out
   simp(disch:=omega)only[aG,aa,simprocAttr]
  ·simp(disch:=omega)only[aG,aa,simprocAttr]
 ·have bC:Nat.beq loc H.length=false:=by simp[dX];omega
  refine bd 0 0 (fun i=>Hd (fun T=>T 0=.sref loc 0 l.length 3/\T 1=.int .i64 0/\T 2=.int .i64 l.length/\T 4=.func (.func 49) [] []) H H.length 0) (fun _=>False) (Hd (fun T=>True) (BO H loc ty (kI l)) loc 0) ?_ (fun _ h=>h.elim) ?_ 0 _ (by omega) ?_
  ·rintro i s hi hs
   obtain⟨T,rfl,e0,e1,e2,e4⟩:=hs.out
   simp(disch:=omega)only[aG,aa,simprocAttr,e0,e1,e2,e4,h,show ((l.length:Int)<=12)=True by simp;omega,Int.sub_zero]
  ·rintro s hs
   obtain⟨T,rfl,_⟩:=hs.out
   simp(disch:=omega)only[aG,aa,simprocAttr,vd,r7,bC,cD]
  ·simp(disch:=omega)only[aG,aa,simprocAttr]
theorem aen(l:List Id)(H:ag)(loc:Nat)(ty:TypeId)(hH:H[loc]?=some (.box ty (al l).flatten))(hl:l.length<=12)(cD:∀ q,j9 H.length loc (BO H loc ty q)=true) :
  ∃ c,az A 48 [.sref loc 0 l.length 3,.func (.func 49) [] []] H=some (.tuple [],c)/\xi H loc ty l (kI l) c:=by
 obtain⟨z,hz⟩:=Z1 l.length hl
 obtain⟨c,h,hc⟩:=ahk l H loc ty z hH hl cD
 have aU:loc<H.length:=(apw.1 hH).1
 refine⟨c,?_,hc⟩
 refine bT (fn:=JH) rfl rfl rfl ?_
 unfold JH
 have hw:IntKind.u64.wrap (l.length:Int)=l.length:=by
  have:(l.length:Int)<=12:=by omega
  have h0:(0:Int)<=l.length:=by omega
  generalize (l.length:Int)=x at *
  have:x=0\/x=1\/x=2\/x=3\/x=4\/x=5\/x=6\/x=7\/x=8\/x=9\/x=10\/x=11\/x=12:=by omega
  rcases this with rfl|rfl|rfl|rfl|rfl|rfl|rfl|rfl|rfl|rfl|rfl|rfl|rfl<;>decide
 rcases hc with ⟨rfl,hq⟩|rfl
 ·simp(disch:=omega)only[aG,aa,simprocAttr,hz,h,hw]
 ·have bC:Nat.beq loc H.length=false:=by simp[dX];omega
  simp(disch:=omega)only[aG,aa,simprocAttr,hz,h,hw,vd,r7,bC,cD]
def zM:List AV:=[.int .i64 0,.int .i64 0,.int .i64 0,.str [],.ae,.ae]
def zD:List AV:=[.int .i64 0,.int .i64 0,.int .i64 0,.int .i64 0,.int .i64 0,.int .i64 0,.int .i64 0,.str [],.ae,.int .i64 0,.int .i64 0,.int .i64 0,.int .i64 0,.ae,.int .i64 0,.int .i64 0,.int .i64 0,.int .i64 0,.int .i64 0,.int .i64 0,.int .i64 0,.int .i64 0,.int .i64 0,.int .i64 0,.int .i64 0,.int .i64 0,.ae,.ae,.ae,.int .i64 0,.ae]
def jT(p:Prog)(i:Id):AV:=match dk p i with|some m=>.tuple [.agg (dw m),.bool true]|none=>.tuple [.agg zM,.bool false]
def xU(p:Prog)(i:Id):AV:=match kV p i with|some m=>.tuple [.agg (br m),.bool true]|none=>.tuple [.agg zD,.bool false]
theorem pA(p:Prog)(i:Id)(H:ag)(hp:p.mods.length<=1000000):az A 23 [.agg (aF p),.agg (an i)] H=some (jT p i,none):=by
 refine bT (fn:=Sj) rfl rfl rfl ?_
 unfold Sj
 rw[aF,an]
 have hz:zM.map AV.drop=zM:=rfl
 simp(disch:=omega)only[aG,aa,simprocAttr,fI,cq]
 refine bd p.mods.length 0 (fun k=>mz (fun T=>T 2=.lbox 0 [.slice (bD p.mods) false,.slice (bz p.defs) false]/\T 3=.lbox 1 [.int .i64 i.bK,.int .i64 i.seq,.int .i64 i.index]/\T 4=.lbox 2 zM/\T 9=.slice (bD p.mods) false/\T 10=.int .i64 p.mods.length/\T 11=.int .i64 k/\dk p i=(p.mods.drop k).find? (fun m=>m.id==i)) H H.length)
  (mz (fun T=>T 4=.lbox 2 zM/\dk p i=none) H H.length) (mz (fun T=>∃ m,T 4=.lbox 2 (dw m)/\T 5=.bool true/\dk p i=some m) H H.length) ?_ ?_ ?_ 0 _ (by omega) ?_
 ·rintro k s hk hs
  obtain⟨T,g,rfl,e2,e3,e4,e9,iE,mB,hc⟩:=hs.out
  by_cases gm:k<p.mods.length
  ·have hm:=xu (apy gm)
   rw[apV gm,List.find?_cons] at hc
   generalize p.mods[k]=m at hm hc
   have h0:=JY (m:=m)
   rw[an] at h0
   rw[zM] at e4
   cases hb:(m.id==i) with
   | true =>
    rw[hb] at hc
    simp(disch:=omega)only[aG,aa,simprocAttr,fI,cq,e2,e3,e4,e9,iE,mB,hm,dJ,dm,dB,cV,fw,h0,apZ,dr,fu,hb]
    exact⟨m,rfl,hc⟩
   | false =>
    rw[hb] at hc
    simp(disch:=omega)only[aG,aa,simprocAttr,fI,cq,e2,e3,e4,e9,iE,mB,hm,dJ,dm,dB,cV,fw,h0,apZ,dr,fu,hb]
    exact⟨gm,rfl,hc⟩
  ·have:k=p.mods.length:=by omega
   subst this
   rw[aqm] at hc
   rw[zM] at e4
   simp(disch:=omega)only[aG,aa,simprocAttr,fI,cq,e2,e3,e4,e9,iE,mB]
   exact⟨rfl,hc⟩
 ·rintro s hs
  obtain⟨T,g,rfl,e4,hc⟩:=hs.out
  rw[zM] at e4
  simp(disch:=omega)only[aG,aa,simprocAttr,e4,jT,hc,zM]
 ·rintro s hs
  obtain⟨T,g,rfl,m,e4,e5,hc⟩:=hs.out
  simp(disch:=omega)only[aG,aa,simprocAttr,e4,e5,jT,hc,dJ,dm,dB,cV,fw]
 ·simp(disch:=omega)only[aG,aa,simprocAttr,zM,apK]
  rfl
theorem uw(p:Prog)(i:Id)(H:ag)(hp:p.defs.length<=1000000):az A 34 [.agg (aF p),.agg (an i)] H=some (xU p i,none):=by
 refine bT (fn:=Su) rfl rfl rfl ?_
 unfold Su
 rw[aF,an]
 have hz:zD.map AV.drop=zD:=rfl
 simp(disch:=omega)only[aG,aa,simprocAttr,fI,cq]
 refine bd p.defs.length 0 (fun k=>mz (fun T=>T 2=.lbox 0 [.slice (bD p.mods) false,.slice (bz p.defs) false]/\T 3=.lbox 1 [.int .i64 i.bK,.int .i64 i.seq,.int .i64 i.index]/\T 4=.lbox 2 zD/\T 9=.slice (bz p.defs) false/\T 10=.int .i64 p.defs.length/\T 11=.int .i64 k/\kV p i=(p.defs.drop k).find? (fun m=>m.id==i)) H H.length)
  (mz (fun T=>T 4=.lbox 2 zD/\kV p i=none) H H.length) (mz (fun T=>∃ m,T 4=.lbox 2 (br m)/\T 5=.bool true/\kV p i=some m) H H.length) ?_ ?_ ?_ 0 _ (by omega) ?_
 ·rintro k s hk hs
  obtain⟨T,g,rfl,e2,e3,e4,e9,iE,mB,hc⟩:=hs.out
  by_cases gm:k<p.defs.length
  ·have hm:=qa (apy gm)
   rw[apV gm,List.find?_cons] at hc
   generalize p.defs[k]=m at hm hc
   have h0:=rp (d:=m)
   rw[an] at h0
   rw[zD] at e4
   cases hb:(m.id==i) with
   | true =>
    rw[hb] at hc
    simp(disch:=omega)only[aG,aa,simprocAttr,fI,cq,e2,e3,e4,e9,iE,mB,hm,cx,cv,cB,cd,di,h0,apZ,dr,fu,hb]
    exact⟨m,rfl,hc⟩
   | false =>
    rw[hb] at hc
    simp(disch:=omega)only[aG,aa,simprocAttr,fI,cq,e2,e3,e4,e9,iE,mB,hm,cx,cv,cB,cd,di,h0,apZ,dr,fu,hb]
    exact⟨gm,rfl,hc⟩
  ·have:k=p.defs.length:=by omega
   subst this
   rw[aqm] at hc
   rw[zD] at e4
   simp(disch:=omega)only[aG,aa,simprocAttr,fI,cq,e2,e3,e4,e9,iE,mB]
   exact⟨rfl,hc⟩
 ·rintro s hs
  obtain⟨T,g,rfl,e4,hc⟩:=hs.out
  rw[zD] at e4
  simp(disch:=omega)only[aG,aa,simprocAttr,e4,xU,hc,zD]
 ·rintro s hs
  obtain⟨T,g,rfl,m,e4,e5,hc⟩:=hs.out
  simp(disch:=omega)only[aG,aa,simprocAttr,e4,e5,xU,hc,cx,cv,cB,cd,di]
 ·simp(disch:=omega)only[aG,aa,simprocAttr,zD,apK]
  rfl
theorem Bv(p:Prog)(i:Id)(H:ag)(hp:p.mods.length<=1000000):az A 32 [.agg (aF p),.agg (an i)] H=some (jT p i,none):=by
 refine bT (fn:=Ss) rfl rfl rfl ?_
 unfold Ss
 rw[aF,an]
 have hz:zM.map AV.drop=zM:=rfl
 simp(disch:=omega)only[aG,aa,simprocAttr,fI,cq]
 refine bd p.mods.length 0 (fun k=>mz (fun T=>T 2=.lbox 0 [.slice (bD p.mods) false,.slice (bz p.defs) false]/\T 3=.lbox 1 [.int .i64 i.bK,.int .i64 i.seq,.int .i64 i.index]/\T 4=.lbox 2 zM/\T 6=.int .i64 k/\dk p i=(p.mods.drop k).find? (fun m=>m.id==i)) H H.length)
  (mz (fun T=>T 4=.lbox 2 zM/\dk p i=none) H H.length) (mz (fun T=>∃ m,T 4=.lbox 2 (dw m)/\T 5=.bool true/\dk p i=some m) H H.length) ?_ ?_ ?_ 0 _ (by omega) ?_
 ·rintro k s hk hs
  obtain⟨T,g,rfl,e2,e3,e4,e6,hc⟩:=hs.out
  by_cases gm:k<p.mods.length
  ·have hm:=xu (apy gm)
   rw[apV gm,List.find?_cons] at hc
   generalize p.mods[k]=m at hm hc
   have h0:=JY (m:=m)
   rw[an] at h0
   rw[zM] at e4
   cases hb:(m.id==i) with
   | true =>
    rw[hb] at hc
    simp(disch:=omega)only[aG,aa,simprocAttr,fI,cq,e2,e3,e4,e6,hm,dJ,dm,dB,cV,fw,h0,apZ,dr,fu,hb]
    exact⟨m,rfl,hc⟩
   | false =>
    rw[hb] at hc
    simp(disch:=omega)only[aG,aa,simprocAttr,fI,cq,e2,e3,e4,e6,hm,dJ,dm,dB,cV,fw,h0,apZ,dr,fu,hb]
    exact⟨gm,rfl,hc⟩
  ·have:k=p.mods.length:=by omega
   subst this
   rw[aqm] at hc
   rw[zM] at e4
   simp(disch:=omega)only[aG,aa,simprocAttr,fI,cq,e2,e3,e4,e6]
   exact⟨rfl,hc⟩
 ·rintro s hs
  obtain⟨T,g,rfl,e4,hc⟩:=hs.out
  rw[zM] at e4
  simp(disch:=omega)only[aG,aa,simprocAttr,e4,jT,hc,zM]
 ·rintro s hs
  obtain⟨T,g,rfl,m,e4,e5,hc⟩:=hs.out
  simp(disch:=omega)only[aG,aa,simprocAttr,e4,e5,jT,hc,dJ,dm,dB,cV,fw]
 ·simp(disch:=omega)only[aG,aa,simprocAttr,zM,apK]
  rfl
theorem O7(p:Prog)(i:Id)(H:ag)(hp:p.defs.length<=1000000):az A 36 [.agg (aF p),.agg (an i)] H=some (xU p i,none):=by
 refine bT (fn:=Sw) rfl rfl rfl ?_
 unfold Sw
 rw[aF,an]
 have hz:zD.map AV.drop=zD:=rfl
 simp(disch:=omega)only[aG,aa,simprocAttr,fI,cq]
 refine bd p.defs.length 0 (fun k=>mz (fun T=>T 2=.lbox 0 [.slice (bD p.mods) false,.slice (bz p.defs) false]/\T 3=.lbox 1 [.int .i64 i.bK,.int .i64 i.seq,.int .i64 i.index]/\T 4=.lbox 2 zD/\T 6=.int .i64 k/\kV p i=(p.defs.drop k).find? (fun m=>m.id==i)) H H.length)
  (mz (fun T=>T 4=.lbox 2 zD/\kV p i=none) H H.length) (mz (fun T=>∃ m,T 4=.lbox 2 (br m)/\T 5=.bool true/\kV p i=some m) H H.length) ?_ ?_ ?_ 0 _ (by omega) ?_
 ·rintro k s hk hs
  obtain⟨T,g,rfl,e2,e3,e4,e6,hc⟩:=hs.out
  by_cases gm:k<p.defs.length
  ·have hm:=qa (apy gm)
   rw[apV gm,List.find?_cons] at hc
   generalize p.defs[k]=m at hm hc
   have h0:=rp (d:=m)
   rw[an] at h0
   rw[zD] at e4
   cases hb:(m.id==i) with
   | true =>
    rw[hb] at hc
    simp(disch:=omega)only[aG,aa,simprocAttr,fI,cq,e2,e3,e4,e6,hm,cx,cv,cB,cd,di,h0,apZ,dr,fu,hb]
    exact⟨m,rfl,hc⟩
   | false =>
    rw[hb] at hc
    simp(disch:=omega)only[aG,aa,simprocAttr,fI,cq,e2,e3,e4,e6,hm,cx,cv,cB,cd,di,h0,apZ,dr,fu,hb]
    exact⟨gm,rfl,hc⟩
  ·have:k=p.defs.length:=by omega
   subst this
   rw[aqm] at hc
   rw[zD] at e4
   simp(disch:=omega)only[aG,aa,simprocAttr,fI,cq,e2,e3,e4,e6]
   exact⟨rfl,hc⟩
 ·rintro s hs
  obtain⟨T,g,rfl,e4,hc⟩:=hs.out
  rw[zD] at e4
  simp(disch:=omega)only[aG,aa,simprocAttr,e4,xU,hc,zD]
 ·rintro s hs
  obtain⟨T,g,rfl,m,e4,e5,hc⟩:=hs.out
  simp(disch:=omega)only[aG,aa,simprocAttr,e4,e5,xU,hc,cx,cv,cB,cd,di]
 ·simp(disch:=omega)only[aG,aa,simprocAttr,zD,apK]
  rfl
def Aj{α:Type}[BEq α](x:α):List α->Nat->Int
 | [],_=>-1
 | a :: l,i=>if a==x then i else Aj x l (i+1)
theorem s8{α:Type}[BEq α][LawfulBEq α](x:α):∀ (l:List α) (i:Nat),decide (0<=Aj x l i)=l.contains x
 | [],i=>by simp[Aj]
 | a :: l,i=>by
  unfold Aj
  by_cases h:a=x
  ·subst h;simp
  ·have h' : (a==x)=false:=by simpa using h
   have h2:(x==a)=false:=by simpa using fun e=>h e.symm
   rw[h',ar2,h2,arR]
   exact s8 x l (i+1)
theorem JA(l:List Id)(w:Id)(H:ag)(hl:l.length<=9223372036854775806):az A 61 [.slice (al l) false,.agg (an w)] H=some (.int .i64 (Aj w l 0),none):=by
 refine bT (fn:=SI) rfl rfl rfl ?_
 unfold SI
 rw[an]
 simp(disch:=omega)only[Um,aa,simprocAttr,ba]
 refine xj l.length (fun i=>Hd (fun T=>T 0=.slice (al l) false/\T 3=.ref H.length 0/\T 7=.int .i64 l.length/\T 8=.int .i64 i/\Aj w l 0=Aj w (l.drop i) i) (H++[.box 31 (an w)]) H.length 0) ?_ 0 _ (aqF _) ?_
 ·rintro i s hi hs
  obtain⟨T,rfl,h0,h3,h7,h8,hc⟩:=hs.out
  rw[an]
  by_cases h:i<l.length
  ·have hg:=je (apy h)
   have tY:Aj w l 0=if l[i]==w then (i:Int) else Aj w (l.drop (i+1)) (i+1):=by rw[hc,apV h];rfl
   generalize l[i]=e at hg tY
   rw[an] at hg
   cases hb:(w==e) with
   | true =>
    have gb:(e==w)=true:=by rw[aqI] at *;exact hb.symm
    rw[gb] at tY
    simp(disch:=omega)only[Zt,aa,simprocAttr,h0,h3,h7,h8,hg,dr,fu,hb]
    simp[tY]
   | false =>
    have gb:(e==w)=false:=by rw[arJ] at *;exact aqM hb
    rw[gb] at tY
    simp(disch:=omega)only[Zt,aa,simprocAttr,h0,h3,h7,h8,hg,dr,fu,hb]
    first|exact⟨⟨h,by simpa using tY⟩,rfl⟩|exact⟨h,by simpa using tY⟩|exact⟨h,by simpa using tY,rfl⟩|(simp[h];simpa using tY)
  ·have:i=l.length:=by omega
   subst this
   simp(disch:=omega)only[Zt,aa,simprocAttr,h0,h3,h7,h8]
   simp[hc,Aj]
 ·simp(disch:=omega)only[Um,aa,simprocAttr,aqh,apK]
  first|rfl|exact⟨rfl,rfl⟩
theorem Cl(l:List Id)(w:Id)(H:ag)(hl:l.length<=9223372036854775806):az A 47 [.slice (al l) false,.agg (an w)] H=some (.bool (l.contains w),none):=by
 refine bT (fn:=SB) rfl rfl rfl ?_
 unfold SB
 have hx:=JA l w (H++[.box 31 (an w)]) hl
 rw[an] at *
 simp(disch:=omega)only[Um,aa,simprocAttr,hx,ge_iff_le,s8]
theorem af0(l:List Id)(x:Id)(H:ag)(hl:l.length<=1000000):az A 13 [.slice (al l) false,.agg (an x)] H=some (.bool (l.contains x),none):=by
 refine bT (fn:=Rw) rfl rfl rfl ?_
 unfold Rw
 rw[an]
 simp(disch:=omega)only[aG,aa,simprocAttr,ba]
 refine bd l.length 0 (fun i=>Hd (fun T=>T 0=.slice (al l) false/\T 3=.lbox 0 [.int .i64 x.bK,.int .i64 x.seq,.int .i64 x.index]/\T 5=.int .i64 i/\l.contains x=(l.drop i).contains x) H H.length 1)
  (Hd (fun T=>l.contains x=false) H H.length 1) (Hd (fun T=>T 4=.bool true/\l.contains x=true) H H.length 1) ?_ ?_ ?_ 0 _ (aqF _) ?_
 ·rintro i s hi hs
  obtain⟨T,rfl,h0,h3,h5,hc⟩:=hs.out
  by_cases h:i<l.length
  ·have hg:=je (apy h)
   rw[apV h,ar2] at hc
   generalize l[i]=e at hg hc
   rw[an] at hg
   cases hb:(e==x) with
   | true =>
    have:(x==e)=true:=by rw[aqI] at *;exact hb.symm
    rw[this,arA] at hc
    simp(disch:=omega)only[aG,aa,simprocAttr,h0,h3,h5,hg,ba,dr,fu,hb]
    exact hc
   | false =>
    have:(x==e)=false:=by rw[arJ] at *;exact aqM hb
    rw[this,arR] at hc
    simp(disch:=omega)only[aG,aa,simprocAttr,h0,h3,h5,hg,ba,dr,fu,hb]
    exact⟨h,hc⟩
  ·have:i=l.length:=by omega
   subst this
   rw[aqm,List.contains_nil] at hc
   simp(disch:=omega)only[aG,aa,simprocAttr,h0,h3,h5,ba]
   exact hc
 ·rintro s hs
  obtain⟨T,rfl,hc⟩:=hs.out
  simp(disch:=omega)only[aG,aa,simprocAttr,hc]
 ·rintro s hs
  obtain⟨T,rfl,h4,hc⟩:=hs.out
  simp(disch:=omega)only[aG,aa,simprocAttr,h4,hc]
 ·simp(disch:=omega)only[aG,aa,simprocAttr,aqh,apK]
theorem acM(a b:Id)(H:ag):az A 51 [.agg (an a),.agg (an b)] H=some (.bool (qQ a b),none):=by
 refine bT (fn:=SF) rfl rfl rfl ?_
 unfold SF
 rw[an,an]
 by_cases h1:a.bK=b.bK
 ·by_cases h2:a.seq=b.seq
  ·simp(disch:=omega)only[aG,aa,simprocAttr,h1,h2,qQ,aqH,bne_self_eq_false]
  ·simp(disch:=omega)only[aG,aa,simprocAttr,h1,h2,qQ,aqH,aqG,bne_self_eq_false]
 ·simp(disch:=omega)only[aG,aa,simprocAttr,h1,qQ,aqG]
def jC:List Id->Id->Nat
 | [],_=>0
 | a :: l,x=>if qQ a x then jC l x+1 else 0
theorem LA{x:Id} : ∀ {l:List Id},jC l x<=l.length
 | []=>apz _
 | a :: l=>by simp only[jC];split<;>simp;exact LA
theorem GF{x:Id} : ∀ {l:List Id},kO l x=if l[jC l x]?=some x then l else l.take (jC l x)++[x]++l.drop (jC l x)
 | []=>by simp[kO,jC]
 | a :: l=>by
  by_cases h:qQ a x=true
  ·have hp:jC (a :: l) x=jC l x+1:=by simp[jC,h]
   rw[kO,if_pos h,hp,apT,GF]
   split<;>simp
  ·have hp:jC (a :: l) x=0:=by simp[jC,h]
   rw[kO,if_neg h,hp]
   by_cases h2:a=x
   ·subst h2;simp
   ·have:(a==x)=false:=by simpa using h2
    rw[this,apH,if_neg (by simp),if_neg (by simpa using h2)]
    simp
theorem yO(l:List Id)(x:Id)(H:ag)(hl:l.length<=1000000):∃ o,az A 33 [.slice (al l) false,.agg (an x)] H=some (.slice (al (kO l x)) o,none):=by
 have key:∃ r,az A 33 [.slice (al l) false,.agg (an x)] H=some r/\∃ o,r=(.slice (al (kO l x)) o,none):=by
  refine js (fn:=St) rfl rfl rfl ?_
  unfold St
  have hp:jC l x<=l.length:=LA
  obtain⟨X,hX⟩:∃ X,X=an x:=⟨_,rfl⟩
  rw[<- hX]
  have Vs:=hX
  rw[an] at Vs
  rw[Vs]
  simp(disch:=omega)only[aG,aa,simprocAttr,ba]
  refine bd l.length 0 (fun i=>Hd (fun T=>T 0=.slice (al l) false/\T 3=.lbox 0 X/\T 5=.int .i64 i/\jC l x=i+jC (l.drop i) x) H H.length 1)
   (Hd (fun T=>T 0=.slice (al l) false/\T 3=.lbox 0 X/\T 5=.int .i64 (jC l x)) H H.length 1) (fun _=>False) ?_ ?_ (fun _ h=>h.elim) 0 _ (aqF _) ?_
  ·rintro i s hi hs
   obtain⟨T,rfl,e0,e3,e5,hc⟩:=hs.out
   by_cases h:i<l.length
   ·have hg:=je (apy h)
    rw[apV h] at hc
    have Gu:=acM l[i] x H
    generalize l[i]=e at hg hc Gu
    rw[an] at hg
    rw[an,an] at Gu
    rw[Vs] at e3
    cases hb:qQ e x with
    | true =>
     rw[hb] at Gu
     simp only[jC,hb,aqH] at hc
     simp(disch:=omega)only[aG,aa,simprocAttr,e0,e3,e5,hg,ba,Gu]
     exact⟨h,by rw[Vs],by omega⟩
    | false =>
     rw[hb] at Gu
     simp only[jC,hb,aqf,aqG] at hc
     simp(disch:=omega)only[aG,aa,simprocAttr,e0,e3,e5,hg,ba,Gu]
     exact⟨by rw[Vs],by rw[hc];simp⟩
   ·have:i=l.length:=by omega
    subst this
    rw[aqm] at hc
    simp only[jC] at hc
    rw[Vs] at e3
    simp(disch:=omega)only[aG,aa,simprocAttr,e0,e3,e5,ba]
    exact⟨by rw[Vs],by rw[hc];simp⟩
  ·rintro s hs
   obtain⟨T,rfl,e0,e3,e5⟩:=hs.out
   rw[Vs] at e3
   rw[GF]
   have fin:bt false 3 24 (.slice [] true) (.slice ((al l).take (jC l x)) false)=some (.slice (al (l.take (jC l x))) true):=by
    rw[show (al l).take (jC l x)=al (l.take (jC l x)) by simp[al,List.map_take]]
    exact uc (l:=[]) (by simp;omega)
   have mW:bt false 3 24 (.slice (al (l.take (jC l x))) true) (.slice [[.int .i64 x.bK,.int .i64 x.seq,.int .i64 x.index]] true)=some (.slice (al (l.take (jC l x)++[x])) true):=tu (by rw[ard];omega)
   have afO:bt false 3 24 (.slice (al (l.take (jC l x)++[x])) true) (.slice ((al l).drop (jC l x)) false)=some (.slice (al (l.take (jC l x)++[x]++l.drop (jC l x))) true):=by
    rw[show (al l).drop (jC l x)=al (l.drop (jC l x)) by simp[al,List.map_drop]]
    exact uc (by simp only[apL,ard,aro,ap3];omega)
   have htl:(al l).take l.length=al l:=aqn (by rw[ba];omega)
   have hhd:fM 3 (al l)=true:=su qp.wide
   by_cases h:jC l x<l.length
   ·have hg:=je (apy h)
    have ZE:=apy h
    generalize l[jC l x]=e at hg ZE
    rw[an] at hg
    cases hb:(e==x) with
    | true =>
     have:=eq_of_beq hb
     rw[ZE,this,if_pos rfl]
     simp(disch:=omega)only[aG,aa,simprocAttr,e0,e3,e5,hg,ba,dr,fu,hb]
     exact⟨_,rfl⟩
    | false =>
     have bC:e≠x:=by simpa using hb
     rw[ZE,if_neg (by simpa using bC)]
     simp(disch:=omega)only[aG,aa,simprocAttr,e0,e3,e5,hg,ba,dr,fu,hb,fin,mW,afO,htl,hhd]
     exact⟨_,rfl⟩
   ·have he:jC l x=l.length:=by omega
    rw[aqK (by omega),if_neg (by simp)]
    simp(disch:=omega)only[aG,aa,simprocAttr,e0,e3,e5,ba,show ((jC l x:Int)<l.length)=False by simp;omega,fin,mW,afO,htl,hhd]
    exact⟨_,rfl⟩
  ·simp(disch:=omega)only[aG,aa,simprocAttr,aqh,apK,Nat.zero_add,Vs]
 obtain⟨r,h1,o,rfl⟩:=key
 exact⟨o,h1⟩
theorem vX(a b:List Id)(H:ag)(ha:a.length<=1000000):az A 7 [.slice (al a) false,.slice (al b) false] H=some (.bool (a==b),none):=by
 refine bT (fn:=ir7) rfl rfl rfl ?_
 unfold ir7
 by_cases hl:(a.length:Int)=b.length
 ·simp(disch:=omega)only[aG,aa,simprocAttr,ba,hl,bne_self_eq_false]
  try rw[<- hl]
  refine bd a.length 0 (fun i=>Hd (fun T=>T 0=.slice (al a) false/\T 1=.slice (al b) false/\T 5=.int .i64 i/\(a==b)=(a.drop i==b.drop i)) H H.length 0)
   (Hd (fun T=>(a==b)=true) H H.length 0) (Hd (fun T=>T 4=.bool false/\(a==b)=false) H H.length 0) ?_ ?_ ?_ 0 _ (aqF _) ?_
  ·rintro i s hi hs
   obtain⟨T,rfl,e0,e1,e5,hc⟩:=hs.out
   by_cases h:i<a.length
   ·have h' : i<b.length:=by omega
    have hg:=je (apy h)
    have Jp:=je (apy h')
    rw[apV h,apV h'] at hc
    generalize a[i]=x at hg hc
    generalize b[i]=y at Jp hc
    rw[an] at hg Jp
    have w8:(a==b)=(x==y&&(a.drop (i+1)==b.drop (i+1))):=by rw[hc];rfl
    cases hb:(x==y) with
    | true =>
     rw[hb,aq6] at w8
     simp(disch:=omega)only[aG,aa,simprocAttr,e0,e1,e5,hg,Jp,ba,dr,fu,hb]
     exact⟨h,w8⟩
    | false =>
     rw[hb,aqW] at w8
     simp(disch:=omega)only[aG,aa,simprocAttr,e0,e1,e5,hg,Jp,ba,dr,fu,hb]
     exact w8
   ·have:i=a.length:=by omega
    subst this
    have PZ:b.drop a.length=[]:=by rw[show a.length=b.length by omega,aqm]
    rw[aqm,PZ] at hc
    simp(disch:=omega)only[aG,aa,simprocAttr,e0,e1,e5,ba]
    exact hc
  ·rintro s hs
   obtain⟨T,rfl,hc⟩:=hs.out
   simp(disch:=omega)only[aG,aa,simprocAttr,hc]
  ·rintro s hs
   obtain⟨T,rfl,e4,hc⟩:=hs.out
   simp(disch:=omega)only[aG,aa,simprocAttr,e4,hc]
  ·simp(disch:=omega)only[aG,aa,simprocAttr,aqh,apK]
   try exact hl
 ·have bC:(a==b)=false:=by
   rw[arJ]
   rintro rfl
   exact hl rfl
  simp(disch:=omega)only[aG,aa,simprocAttr,ba,hl,bC]
theorem yd(a b:List Id)(H:ag)(ha:a.length<=1000000):az A 35 [.slice (al a) false,.slice (al b) false] H=some (.bool (a==b),none):=by
 refine bT (fn:=Sv) rfl rfl rfl ?_
 unfold Sv
 by_cases hl:(a.length:Int)=b.length
 ·simp(disch:=omega)only[aG,aa,simprocAttr,ba,hl,bne_self_eq_false]
  try rw[<- hl]
  refine bd a.length 0 (fun i=>Hd (fun T=>T 0=.slice (al a) false/\T 1=.slice (al b) false/\T 12=.int .i64 a.length/\T 13=.int .i64 i/\(a==b)=(a.drop i==b.drop i)) H H.length 0)
   (Hd (fun T=>(a==b)=true) H H.length 0) (Hd (fun T=>T 4=.bool false/\(a==b)=false) H H.length 0) ?_ ?_ ?_ 0 _ (aqF _) ?_
  ·rintro i s hi hs
   obtain⟨T,rfl,e0,e1,iO,lr,hc⟩:=hs.out
   by_cases h:i<a.length
   ·have h' : i<b.length:=by omega
    have hg:=je (apy h)
    have Jp:=je (apy h')
    rw[apV h,apV h'] at hc
    generalize a[i]=x at hg hc
    generalize b[i]=y at Jp hc
    rw[an] at hg Jp
    have w8:(a==b)=(x==y&&(a.drop (i+1)==b.drop (i+1))):=by rw[hc];rfl
    cases hb:(x==y) with
    | true =>
     rw[hb,aq6] at w8
     simp(disch:=omega)only[aG,aa,simprocAttr,e0,e1,iO,lr,hg,Jp,ba,dr,fu,hb]
     exact⟨h,w8⟩
    | false =>
     rw[hb,aqW] at w8
     simp(disch:=omega)only[aG,aa,simprocAttr,e0,e1,iO,lr,hg,Jp,ba,dr,fu,hb]
     exact w8
   ·have:i=a.length:=by omega
    subst this
    have PZ:b.drop a.length=[]:=by rw[show a.length=b.length by omega,aqm]
    rw[aqm,PZ] at hc
    simp(disch:=omega)only[aG,aa,simprocAttr,e0,e1,iO,lr,ba]
    exact hc
  ·rintro s hs
   obtain⟨T,rfl,hc⟩:=hs.out
   simp(disch:=omega)only[aG,aa,simprocAttr,hc]
  ·rintro s hs
   obtain⟨T,rfl,e4,hc⟩:=hs.out
   simp(disch:=omega)only[aG,aa,simprocAttr,e4,hc]
  ·simp(disch:=omega)only[aG,aa,simprocAttr,aqh,apK]
   try exact hl
 ·have bC:(a==b)=false:=by
   rw[arJ]
   rintro rfl
   exact hl rfl
  simp(disch:=omega)only[aG,aa,simprocAttr,ba,hl,bC]
theorem AM:∀ (s:fa) (k:Nat),(∃ i:Nat,i<s.length/\mK 46 k s=(k+i:Nat)/\kN s=some (s.take i,s.drop (i+1)))\/(mK 46 k s=-1/\kN s=none)
 | [],k=>.inr ⟨rfl,rfl⟩
 | c :: s,k=>by
  by_cases h:c=46
  ·subst h
   exact .inl ⟨0,by simp,rfl,rfl⟩
  ·have hd:decide ((c.toNat:Int)=46)=false:=by
    simp only[aqs]
    intro e
    apply h
    have:c.toNat=46:=by omega
    exact UInt8.toNat_inj.1 this
   rcases AM s (k+1) with ⟨i,h1,h2,h3⟩|⟨h1,h2⟩
   ·refine .inl ⟨i+1,by simp;omega,?_,?_⟩
    ·simp only[mK,hd,apE,h2];omega
    ·simp only[kN,if_neg h,h3];rfl
   ·refine .inr ⟨?_,?_⟩
    ·simp only[mK,hd,apE,h1]
    ·simp only[kN,if_neg h,h2];rfl
theorem GB(s:fa)(H:ag):az A 84 [.str s,.int .u8 46] H=some (.int .i64 (mK 46 0 s),none):=xL (g:=ib) rfl rfl
theorem Qy(s:fa)(H:ag):az A 60 [.str s,.str [46]] H=some (.int .i64 (mK 46 0 s),none):=by
 refine bT (fn:=SH) rfl rfl rfl ?_
 unfold SH
 have h:=GB s H
 have h46:((46:UInt8).toNat:Int)=46:=rfl
 by_cases hs:([46]:fa)=s
 ·subst hs
  have h1:mK 46 0 ([46]:fa)=0:=rfl
  simp(disch:=omega)only[aG,aa,simprocAttr,h,h46,h1]
 ·have hb:((([46]:fa))==s)=false:=by simpa using hs
  simp(disch:=omega)only[aG,aa,simprocAttr,h,h46,hb]
def Cm(s:fa):AV:=match kN s with|some r=>.tuple [.str r.1,.str r.2,.bool true]|none=>.tuple [.str s,.str [],.bool false]
def II(s:fa):AV:=match kN s with|some r=>.tuple [.str r.1,.str r.2,.bool true]|none=>.tuple [.str [],.str s,.bool false]
theorem aaB(s:fa)(H:ag)(hs:s.length<=4611686018427387904):az A 46 [.str s,.str [46]] H=some (Cm s,none):=by
 refine bT (fn:=SA) rfl rfl rfl ?_
 unfold SA
 have h:=Qy s H
 rcases AM s 0 with ⟨i,h1,h2,h3⟩|⟨h1,h2⟩
 ·rw[h2,Nat.zero_add] at h
  have ht:s.take s.length=s:=arp
  have hn:((i:Int)+1).toNat=i+1:=by omega
  simp(disch:=omega)only[aG,aa,simprocAttr,h,Cm,h3,ht,hn]
 ·rw[h1] at h
  simp(disch:=omega)only[aG,aa,simprocAttr,h,Cm,h2]
theorem Zq(s:fa)(H:ag)(hs:s.length<=4611686018427387904):az A 24 [.str s,.str [46]] H=some (Cm s,none):=by
 refine bT (fn:=Sk) rfl rfl rfl ?_
 unfold Sk
 have h:=aaB s H hs
 unfold Cm at *
 cases hc:kN s with
 | none =>
  rw[hc] at h
  simp(disch:=omega)only[aG,aa,simprocAttr,h]
 | some r =>
  rw[hc] at h
  simp(disch:=omega)only[aG,aa,simprocAttr,h]
theorem Mg{s:fa}{i:Nat}(h:i<s.length)(c:UInt8)(hc:s[i]=c)(bC:c≠46):kN (s.drop i)=(kN (s.drop (i+1))).map fun r=>(c :: r.1,r.2):=by
 rw[apV h,kN,hc,if_neg bC]
theorem sk(s:fa)(H:ag)(hs:s.length<=4611686018427387904):az A 30 [.str s] H=some (II s,none):=by
 refine bT (fn:=Sq) rfl rfl rfl ?_
 unfold Sq
 simp(disch:=omega)only[aG,aa,simprocAttr]
 refine bd s.length 0 (fun i=>Hd (fun T=>T 0=.str s/\T 5=.int .i64 i/\kN s=(kN (s.drop i)).map fun r=>(s.take i++r.1,r.2)) H H.length 0)
  (Hd (fun T=>T 0=.str s/\kN s=none) H H.length 0) (Hd (fun T=>∃ r,T 2=.str r.1/\T 3=.str r.2/\T 4=.bool true/\kN s=some r) H H.length 0) ?_ ?_ ?_ 0 _ (aqF _) ?_
 ·rintro i s' hi pb
  obtain⟨T,rfl,e0,e5,hc⟩:=pb.out
  by_cases h:i<s.length
  ·have hg:=apy h
   by_cases hd:s[i]=46
   ·have tG:kN s=some (s.take i,s.drop (i+1)):=by
     rw[hc,apV h,kN,if_pos hd]
     simp
    rw[hd] at hg
    have h46:((46:UInt8).toNat:Int)=46:=rfl
    have ht:s.take s.length=s:=arp
    simp(disch:=omega)only[aG,aa,simprocAttr,e0,e5,hg,h46,ht]
    exact⟨(s.take i,s.drop (i+1)),rfl,rfl,tG⟩
   ·have bC:((s[i].toNat:Int)=46)=False:=by
     simp only[eq_iff_iff,iff_false]
     intro e
     apply hd
     exact UInt8.toNat_inj.1 (show s[i].toNat=(46:UInt8).toNat by simp;omega)
    have hbe:((s[i].toNat:Int)==46)=false:=by simpa using bC
    simp(disch:=omega)only[aG,aa,simprocAttr,e0,e5,hg,hbe]
    refine⟨h,?_⟩
    rw[hc,Mg h _ rfl hd]
    have hp:∀ v,s.take i++s[i] :: v=s.take (i+1)++v:=fun v=>by rw[List.take_succ_eq_append_getElem h,aqL];rfl
    cases kN (s.drop (i+1))<;>simp[hp]
  ·have:i=s.length:=by omega
   subst this
   rw[aqm] at hc
   simp(disch:=omega)only[aG,aa,simprocAttr,e0,e5]
   exact hc
 ·rintro s' pb
  obtain⟨T,rfl,e0,hc⟩:=pb.out
  simp(disch:=omega)only[aG,aa,simprocAttr,e0,II,hc]
 ·rintro s' pb
  obtain⟨T,rfl,r,e2,e3,e4,hc⟩:=pb.out
  simp(disch:=omega)only[aG,aa,simprocAttr,e2,e3,e4,II,hc]
 ·simp(disch:=omega)only[aG,aa,simprocAttr,apK]
  simp
section
theorem Mz{x:Id}{l:List Id} : ux (x :: l)=.slice (al (x :: l)) false:=rfl
theorem Po:ux []=.ae:=rfl
section
variable {B:AP}{T:ax}{H:ag}{lo gen:Nat}{K:AS->Prop}{d:Bool}{os:List aj}{t:Nat}
theorem TD{x:ar}{neg:Bool} : WO B d (⟨some t,none,.nilS neg x⟩ :: os) ⟨T,H,lo,gen⟩ K=cZ B d ((zd (x.eval B.aO T)).map fun b=>.bool (neg != b)) t os T H lo gen K:=by
 refine fy ?_
 simp only[au]
 cases zd (x.eval B.aO T)<;>rfl
end
theorem NJ:zd .ae=some true:=rfl
theorem NI{x:Id}{l:List Id}{o:Bool} : zd (.slice (al (x :: l)) o)=some false:=rfl
theorem UK(l:List Id)(H:ag)(hl:l.length<=1000000):az A 27 [ux l] H=some (.slice (al l) true,none):=by
 refine bT (fn:=Sn) rfl rfl rfl ?_
 unfold Sn
 cases l with
 | nil =>
  simp(disch:=omega)only[aG,aa,simprocAttr,Po,nI,TD,NJ,show (false != true)=true from rfl]
 | cons x l =>
  have ha:=uc (l:=[]) (m:=x :: l) (o:=false) (by simp at *;omega)
  simp only[nI,aqa] at ha
  simp(disch:=omega)only[aG,aa,simprocAttr,Mz,ha,TD,NI,show (false != false)=false from rfl]
theorem aa1(p:Prog)(i:Id)(H:ag)(a:Nat)(hp:p.mods.length<=1000000)(hH:H[a]?=some (.box 26 (aF p))):az A 28 [.agg (an i),.ref a 0] H=some (.bool (!(dk p i).isSome),none):=by
 refine bT (fn:=So) rfl rfl rfl ?_
 unfold So
 have h:=fun H=>pA p i H hp
 rw[an] at *
 have mJ:(aF p).length=2:=rfl
 have Bi:(aF p).take 2=aF p:=rfl
 have ZO:(aF p).map AV.drop=aF p:=rfl
 cases hm:dk p i with
 | none =>
  have hR:jT p i=.tuple [.agg zM,.bool false]:=by rw[jT,hm]
  simp only[hR,zM] at h
  simp(disch:=omega)only[aG,aa,simprocAttr,h,hH,mJ,Bi,ZO]
  try simp
 | some m =>
  have hR:jT p i=.tuple [.agg (dw m),.bool true]:=by rw[jT,hm]
  simp only[hR] at h
  simp(disch:=omega)only[aG,aa,simprocAttr,h,hH,mJ,Bi,ZO,dJ,dm,dB,cV,fw]
  try simp
end
theorem oh{z:Nat} : ∀ {rows:List (List AV)},(∀ r∈rows,r.length=z)->chunks z rows.length rows.flatten=rows
 | [],_=>rfl
 | r :: rows,h=>by
  have hr:=h r (by simp)
  rw[List.length_cons,chunks,aqq,<- hr,List.take_left' rfl,List.drop_left' rfl,hr,oh fun r hr=>h r (by simp[hr])]
theorem j7{x:AV}(h:dp x=true):jU x=true:=by
 have:=AF h
 cases x with
 | int k n=>cases k<;>first|rfl|(simp[J1] at this)
 | any=>simp[J1] at this
 | _=>rfl
theorem nF{x:AV}(h:dp x=true){H:ag}{base k:Nat} : fh H base k x=x:=by
 have:=bM h
 cases k with
 | zero=>rfl
 | succ k=>cases x<;>first|rfl|(simp[AV.plain] at this)
theorem yz{H:ag}{base l z k:Nat}{o:ct}{rows:List (List AV)}(hb:base<=l)(hl:H[l]?=some o)(ho:j8 o=some rows.flatten)(hw:dT z rows)(hz:0<z) :
  fh H base (k+1) (.sref l 0 rows.length z)=.slice rows false:=by
 have hx:∀ x∈rows.flatten,dp x=true:=apA.1 hw.flat
 have h1:(rows.flatten.all fun x=>(fh H base k x.drop).plain&&jU x)=true:=by
  rw[apA]
  intro x h
  have:=hx x h
  rw[bQ this,nF this,bM this,j7 this];rfl
 have h2:rows.flatten.map (fun x=>fh H base k x.drop)=rows.flatten:=by
  conv=>rhs;rw[<- List.map_id rows.flatten]
  refine apY fun x h=>?_
  have:=hx x h
  rw[bQ this,nF this];rfl
 have h4:=dx hw.wide
 rw[fh]
 simp only[aqk hb,cond_true,hl,apB,ho,h1,h2,h4,Nat.zero_add,aqh,aqk (apz _),Bool.and_true]
 rw[show Nat.blt 0 z=true by simpa [ap0] using hz,cond_true,oh hw.wide]
theorem F5{base t l z:Nat}{fn:ay}{s:AS}{rows:List (List AV)}{o:ct}(hr:fn.results=[.tmp t])(m8:fn.muts.elem 888888=false)(m7:fn.muts.elem 777777=false)(hT:s.T t=.sref l 0 rows.length z)
  (hH:s.H[l]?=some o) (ho:j8 o=some rows.flatten) (hl:base<=l) (hw:dT z rows) (hz:0<z) (qO:s.lo=base):finish base fn s=some (.slice rows false,none):=by
 have h1:nV base s=true:=by simp[nV,qO]
 have hb:Nat.blt l base=false:=by rw[<- arT,ap0];omega
 have h0:gZ base [.tmp t] s=none:=by
  simp only[gZ,lg,mN,iZ,hT,aq,cond_true,apB,AV.leaves,AV.bp,AV.aJ,hb,apE]
 have hp:qj base [.tmp t] s=none:=by simp only[qj,List.length_cons,List.length_nil];rfl
 have hzz:=yz (k:=2) hl hH ho hw hz
 have hf:qi base [.tmp t] s=some (.slice rows false,none):=by
  simp only[qi,u3,iZ,hT,aq,cond_true,Option.map_some,AV.aX,AV.drop,MN,hzz,apB,AV.leaves,qO,Nat.beq_refl]
 have h3:kX base fn s=some (.slice rows false,none):=by
  unfold kX sn ou
  rw[h1,m8,hr]
  simp only[cond_true,apE,h0,hp,hf]
 unfold finish
 rw[h3,Option.map_some,nT m7]
theorem Vi{base t:Nat}{fn:ay}{s:AS}{rows:List (List AV)}{own:Bool}(hr:fn.results=[.tmp t])(m8:fn.muts.elem 888888=false)(m7:fn.muts.elem 777777=false)(hT:s.T t=.slice rows own)
  (qO:s.lo=base):finish base fn s=some (.slice rows own,none):=by
 have h1:nV base s=true:=by simp[nV,qO]
 have h0:gZ base [.tmp t] s=some (.slice rows own,none):=by
  simp only[gZ,lg,mN,iZ,hT,aq,cond_true,apB,AV.leaves,qO,Nat.beq_refl]
  try rfl
 have h3:kX base fn s=some (.slice rows own,none):=by
  unfold kX sn ou
  rw[h1,m8,hr]
  simp only[cond_true,apE,h0]
 unfold finish
 rw[h3,Option.map_some,nT m7]
def lb(l:List Id):List (List AV):=l.map fun x=>[.int .i64 x.bK,.int .i64 x.seq,.int .i64 x.index,.bool true]
theorem PO{i j:Id}{r:List AV} : bN [.i,.i,.i] [.int .i64 i.bK,.int .i64 i.seq,.int .i64 i.index] (.int .i64 j.bK :: .int .i64 j.seq :: .int .i64 j.index :: r)=some (i==j):=by
 obtain⟨a,b,c⟩:=i
 obtain⟨x,y,z⟩:=j
 simp only[bN,asc,cond_true,Option.map_some,Bool.and_true,apv]
 rw[Bool.eq_iff_iff]
 simp
theorem yr(x:Id):∀ l:List Id,∃ o,fH [.i,.i,.i] [.int .i64 x.bK,.int .i64 x.seq,.int .i64 x.index] (lb l)=some o/\((o=none/\l.contains x=false)\/∃ i,o=some i/\l[i]?=some x/\l.contains x=true)
 | []=>⟨none,rfl,.inl ⟨rfl,rfl⟩⟩
 | a :: l=>by
  obtain⟨o,h1,h2⟩:=yr x l
  show ∃ o,fH _ _ ([.int .i64 a.bK,.int .i64 a.seq,.int .i64 a.index,.bool true] :: lb l)=some o/\_
  rw[fH,PO,apB,h1,ar2]
  cases hb:(x==a) with
  | true =>
   have:=eq_of_beq hb
   subst this
   exact⟨some 0,rfl,.inr ⟨0,rfl,rfl,by simp⟩⟩
  | false =>
   refine⟨o.map (· + 1),rfl,?_⟩
   rcases h2 with ⟨rfl,h⟩|⟨i,rfl,h3,h4⟩
   ·exact .inl ⟨rfl,by simpa using h⟩
   ·exact .inr ⟨i+1,rfl,by simpa using h3,by simp only[h4,arz]⟩
def Hw(l:List Id)(x:Id):List Id:=if l.contains x then l else l++[x]
theorem GL{l:List Id}{x:Id}{i:Nat}(h:l[i]?=some x):(lb l).set i [.int .i64 x.bK,.int .i64 x.seq,.int .i64 x.index,.bool true]=lb l:=by
 unfold lb
 refine aqS fun j=>?_
 rw[ap6]
 split
 ·rename_i e
  subst e
  obtain⟨h1,h2⟩:=apw.1 h
  simp[h1,h2]
 ·rfl
def nmT(q:List Id):ag:=match q with|[]=>[]|_=>List.replicate (q.length-1) .dead++[.box aL (al q).flatten]
def rM(H:ag)(m q:List Id):ag:=H++.map 3 true false (lb m) :: nmT q
def Tj(H:ag)(q:List Id):AV:=match q with|[]=>.slice [] true|_=>.sref (H.length+q.length) 0 q.length 3
theorem XQ{q:List Id} : (nmT q).length=q.length:=by cases q<;>simp[nmT]
theorem Tk{H:ag}{m q:List Id} : (rM H m q).length=H.length+1+q.length:=by simp[rM,XQ];omega
theorem Tl{H:ag}{m q:List Id} : (rM H m q)[H.length]?=some (.map 3 true false (lb m)):=by simp[rM]
theorem Tm{H:ag}{m m' q:List Id} : (rM H m q).set H.length (.map 3 true false (lb m'))=rM H m' q:=by
 unfold rM
 rw[aqc _ _ (apz _),aqD];rfl
theorem J4{H:ag}{m q:List Id}(h:q≠[]):(rM H m q)[H.length+q.length]?=some (.box aL (al q).flatten):=by
 cases q with
 | nil=>exact absurd rfl h
 | cons a q =>
  unfold rM nmT
  rw[apM (by omega),show H.length+(a :: q).length-H.length=q.length+1 by simp,apT,
   apM (by simp)]
  simp
theorem ze{H:ag}{q:List Id}(h:q≠[]):Tj H q=.sref (H.length+q.length) 0 q.length 3:=by
 cases q with
 | nil=>exact absurd rfl h
 | cons a q=>rfl
theorem ac3{B:AP}{T:ax}{H:ag}{lo gen:Nat}{K:AS->Prop}{os:List aj}{t:Nat}{m q:List Id}{x:Id}{o:Bool}(hq:q.length<=1000000)(qO:lo=H.length) :
  BY B 3 24 (Tj H q) (.slice [[.int .i64 x.bK,.int .i64 x.seq,.int .i64 x.index]] o) t os T (rM H m q) lo gen K=WO B false os ⟨T.put t (Tj H (q++[x])),rM H m (q++[x]),H.length,gen⟩ K:=by
 subst qO
 have f2:cH [[.int .i64 x.bK,.int .i64 x.seq,.int .i64 x.index]]=true:=rfl
 cases q with
 | nil =>
  show BY B 3 24 (.slice [] true) _ t os T _ _ gen K=_
  rw[Ij (by rfl) f2]
  have e:(rM H m ([]:List Id)).length=H.length+1:=by simp[rM,nmT]
  have hb:Nat.blt (H.length+1) H.length=false:=by
   cases h:Nat.blt (H.length+1) H.length with
   | true=>have:=Nat.le_of_ble_eq_true h;omega
   | false=>rfl
  rw[e,hb]
  simp[rM,nmT,Tj,al,an]
 | cons a q =>
  show BY B 3 24 (.sref (H.length+(a :: q).length) 0 (a :: q).length 3) _ t os T _ _ gen K=_
  have pq:(al (a :: q)).flatten.length=(a :: q).length*3:=by rw[dx pv,ba]
  rw[xn (J4 (by simp)) pq (by simp at *;omega) (by simp at *;omega) (by rfl) f2]
  have hb:Nat.blt (H.length+(a :: q).length) H.length=false:=by
   cases h:Nat.blt (H.length+(a :: q).length) H.length with
   | true=>have:=Nat.le_of_ble_eq_true h;simp at this;omega
   | false=>rfl
  rw[hb,Tk]
  have dI:(rM H m (a :: q)).set (H.length+(a :: q).length) .dead++[.box aL ((al (a :: q)).flatten++[[.int .i64 x.bK,.int .i64 x.seq,.int .i64 x.index]].flatten)]=rM H m (a :: q++[x]):=by
   unfold rM nmT
   rw[aqc _ _ (by omega),show H.length+(a :: q).length-H.length=q.length+1 by simp,List.set_cons_succ,aqc _ _ (by simp)]
   simp only[List.length_cons,List.length_replicate,Nat.add_sub_cancel,aqD,List.set_cons_zero,ap2,apL,List.length_nil,Nat.zero_add,aqL]
   congr 2
   rw[show q.length+1=(q.length)+1 from rfl,List.replicate_succ',aqL]
   congr 1
   simp[al,an]
  rw[dI]
  have hA:Tj H (a :: q++[x])=.sref (H.length+1+(a :: q).length) 0 ((a :: q).length+1) 3:=by
   rw[ze (by simp)]
   simp
   omega
  rw[hA]
  rfl
theorem XR{H:ag}{m q:List Id}{x:Id} : Bs (rM H m q) false 3 true false [.i,.i,.i] [.bool false] (.mref H.length) (.agg [.int .i64 x.bK,.int .i64 x.seq,.int .i64 x.index])=some (.bool (m.contains x)):=by
 obtain⟨o,h1,h2⟩:=yr x m
 have hk:Xp (.agg [.int .i64 x.bK,.int .i64 x.seq,.int .i64 x.index]) 3 true=some [.int .i64 x.bK,.int .i64 x.seq,.int .i64 x.index]:=rfl
 simp only[Bs,hk,apB,Tl,h1,Option.map_some]
 rcases h2 with ⟨rfl,h⟩|⟨i,rfl,h3,h4⟩
 ·rw[h];rfl
 ·rw[h4]
  have:(lb m).getD i []=[.int .i64 x.bK,.int .i64 x.seq,.int .i64 x.index,.bool true]:=by
   rw[apX,lb,apG,h3];rfl
  simp only[py,this]
  rfl
theorem XS{T:ax}{H:ag}{gen:Nat}{m q:List Id}{x:Id} : nK ⟨T,rM H m q,H.length,gen⟩ 3 true false 1 [.i,.i,.i] (.mref H.length) (.agg [.int .i64 x.bK,.int .i64 x.seq,.int .i64 x.index]) (.bool true)=some ⟨T,rM H (Hw m x) q,H.length,gen⟩:=by
 obtain⟨o,h1,h2⟩:=yr x m
 have hc:(AV.agg [.int .i64 x.bK,.int .i64 x.seq,.int .i64 x.index]).drop.cells=some [.int .i64 x.bK,.int .i64 x.seq,.int .i64 x.index]:=rfl
 have hv:(AV.bool true).cells=some [.bool true]:=rfl
 have af8:(Nat.beq [AV.int .i64 x.bK,.int .i64 x.seq,.int .i64 x.index].length 3&&Nat.beq [AV.bool true].length 1&&Nat.beq 3 3&&true==true&&false==false&&true==(AV.agg [.int .i64 x.bK,.int .i64 x.seq,.int .i64 x.index]).drop.isAgg&&false==(AV.bool true).isAgg&&[AV.bool true].all (aV H.length)&&[AV.int .i64 x.bK,.int .i64 x.seq,.int .i64 x.index].all AV.plain)=true:=rfl
 have hb:Nat.blt H.length H.length=false:=by
  cases h:Nat.blt H.length H.length with
  | true=>have:=Nat.le_of_ble_eq_true h;omega
  | false=>rfl
 simp only[nK,Tl,hc,hv,apB,af8,cond_true,h1,Option.map_some,AS.fC,hb,apE]
 congr 2
 rcases h2 with ⟨rfl,h⟩|⟨i,rfl,h3,h4⟩
 ·rw[Hw,if_neg (by rw[h];simp)]
  refine Eq.trans ?_ (Tm (m:=m))
  congr 2
  simp[tU,lb]
 ·rw[Hw,if_pos h4]
  refine Eq.trans ?_ (Tm (m:=m))
  congr 2
  exact GL h3
def vP(ds:List Def):Nat->List Id
 | 0=>[]
 | n+1=>match ds[n]? with|some d=>Hw (vP ds n) d.id|none=>vP ds n
theorem At{l:List Id}{x y:Id} : (Hw l x).contains y=(l.contains y || x==y):=by
 unfold Hw
 split
 ·rename_i h
  by_cases he:x=y
  ·subst he;rw[h];rfl
  ·have:(x==y)=false:=by simpa using he
   rw[this,asa]
 ·rw[Bool.eq_iff_iff]
  simp only[List.contains_iff_mem,apC,apI,aqZ,aqI]
  exact⟨fun h=>h.imp id Eq.symm,fun h=>h.imp id Eq.symm⟩
theorem oU(ds:List Def)(x:Id):∀ n,(vP ds n).contains x=(ds.take n).any fun e=>e.id==x
 | 0=>by simp[vP]
 | n+1=>by
  rw[vP,List.take_add_one]
  cases h:ds[n]? with
  | none=>simpa using oU ds x n
  | some d=>simp only[At,oU ds x n,Option.toList_some,List.any_append,List.any_cons,List.any_nil,asa]
theorem Mr{α:Type}{l:List α}{n:Nat}{x:α}(h:l.length=n+1)(hx:l[n]?=some x):l.drop n=[x]:=by
 obtain⟨h1,h2⟩:=apw.1 hx
 rw[apV h1,h2,ar9 (by omega)]
theorem kL{s:AS}{v:AV} : s.bH (.cr v)=s:=rfl
theorem Dj(p:Prog)(mods:List Id)(name:fa)(H:ag)(hp:p.defs.length<=12)(hm:mods.length<=1000000):∃ o,az A 25 [.agg (aF p),.slice (al mods) false,.str name] H=some (.slice (al (fi p mods name)) o,none):=by
 have key:∃ r,az A 25 [.agg (aF p),.slice (al mods) false,.str name] H=some r/\∃ o,r=(.slice (al (fi p mods name)) o,none):=by
  refine sf (fn:=Sl) rfl rfl rfl ?_
  unfold Sl
  rw[aF]
  have hz:zD.map AV.drop=zD:=rfl
  have hlen:(H++[ct.map 3 true false []])=rM H [] []:=rfl
  simp(disch:=omega)only[aG,aa,simprocAttr,cq,hlen]
  refine bd p.defs.length 0 (fun k s=>∃ T g,s=⟨T,rM H (vP p.defs k) (oe (jf mods name) p.defs k),H.length,g⟩/\T 1=.slice (al mods) false/\T 2=.str name/\T 7=Tj H (oe (jf mods name) p.defs k)/\T 8=.mref H.length/\T 13=.slice (bz p.defs) false/\T 14=.int .i64 p.defs.length/\T 15=.int .i64 k)
   (fun s=>∃ T g,s=⟨T,rM H (vP p.defs p.defs.length) (oe (jf mods name) p.defs p.defs.length),H.length,g⟩/\T 7=Tj H (oe (jf mods name) p.defs p.defs.length)) (fun _=>False) ?_ ?_ (fun _ h=>h.elim) 0 _ (by omega) ?_
  ·rintro k s hk ⟨T,g,rfl,e1,e2,e7,e8,lr,sX,IQ⟩
   by_cases gm:k<p.defs.length
   ·have hd:=apy gm
    have vI:=qa hd
    have VD:vP p.defs (k+1)=Hw (vP p.defs k) (p.defs[k]).id:=by rw[vP,hd]
    have rF:oe (jf mods name) p.defs (k+1)=oe (jf mods name) p.defs k++(if !((vP p.defs k).contains (p.defs[k]).id)&&jf mods name p.defs[k] then [(p.defs[k]).id] else []):=by
     rw[oe,hd,oU]
    have Qn:=u0 (jf mods name) p.defs k
    generalize p.defs[k]=d at *
    generalize vP p.defs k=m at *
    generalize oe (jf mods name) p.defs k=q at *
    have h0:=rp (d:=d)
    have h4:=AN (d:=d)
    have h7:=xV (d:=d)
    rw[an] at h0 h4
    have Bg:=XR (H:=H) (m:=m) (q:=q) (x:=d.id)
    have yD:=Cl mods d.mod (rM H m q) (by omega)
    rw[an] at yD
    have yC:∀ {B:AP} {T:ax} {gen:Nat} {K:AS->Prop} {os:List aj} {t:Nat} {o:Bool},BY B 3 24 (Tj H q) (.slice [[.int .i64 d.id.bK,.int .i64 d.id.seq,.int .i64 d.id.index]] o) t os T (rM H m q) H.length gen K=WO B false os ⟨T.put t (Tj H (q++[d.id])),rM H m (q++[d.id]),H.length,gen⟩ K:=ac3 (by omega) rfl
    have dI:∀ {T:ax} {gen:Nat} {q:List Id},nK ⟨T,rM H m q,H.length,gen⟩ 3 true false 1 [.i,.i,.i] (.mref H.length) (.agg [.int .i64 d.id.bK,.int .i64 d.id.seq,.int .i64 d.id.index]) (.bool true)=some ⟨T,rM H (Hw m d.id) q,H.length,gen⟩:=XS
    cases hf:m.contains d.id with
    | true =>
     rw[hf] at Bg rF
     simp only[arv,aqW,aqf,aqG,aqt] at rF
     simp(disch:=omega)only[aG,aa,simprocAttr,cq,e1,e2,e7,e8,lr,sX,IQ,vI,cx,cv,cB,cd,di,h0,h4,h7,Bg,dI,VD,rF,yD,yC,kL]
     exact⟨gm,_,_,rfl,by simp(disch:=omega)only[aG,aa,simprocAttr,e1,e2,e7,e8,lr,sX,IQ]⟩
    | false =>
     rw[hf] at Bg rF
     cases hn:(d.name==name) with
     | false =>
      simp only[jf,hn,aqW,Bool.and_false,aqf,aqG,aqt] at rF
      simp(disch:=omega)only[aG,aa,simprocAttr,cq,e1,e2,e7,e8,lr,sX,IQ,vI,cx,cv,cB,cd,di,h0,h4,h7,Bg,dI,VD,rF,yD,yC,kL,hn]
      exact⟨gm,_,_,rfl,by simp(disch:=omega)only[aG,aa,simprocAttr,e1,e2,e7,e8,lr,sX,IQ]⟩
     | true =>
      cases hc:mods.contains d.mod with
      | false =>
       rw[hc] at yD
       simp only[jf,hn,hc,Bool.and_false,aqf,aqG,aqt] at rF
       simp(disch:=omega)only[aG,aa,simprocAttr,cq,e1,e2,e7,e8,lr,sX,IQ,vI,cx,cv,cB,cd,di,h0,h4,h7,Bg,dI,VD,rF,yD,yC,kL,hn]
       exact⟨gm,_,_,rfl,by simp(disch:=omega)only[aG,aa,simprocAttr,e1,e2,e7,e8,lr,sX,IQ]⟩
      | true =>
       rw[hc] at yD
       simp only[jf,hn,hc,aq2,Bool.and_true,aqH] at rF
       have hA:Tj H q=.slice [] true\/Tj H q=.sref (H.length+q.length) 0 q.length 3:=by
        cases q with
        | nil=>exact .inl rfl
        | cons a q=>exact .inr rfl
       have hB:=ze (H:=H) (q:=q++[d.id]) (by simp)
       rw[hB] at yC
       rcases hA with hA|hA
       all_goals
        rw[hA] at e7 yC
        simp(disch:=omega)only[aG,aa,simprocAttr,cq,e1,e2,e7,e8,lr,sX,IQ,vI,cx,cv,cB,cd,di,h0,h4,h7,Bg,dI,VD,rF,yD,yC,kL,hn]
        exact⟨gm,_,_,rfl,by simp(disch:=omega)only[aG,aa,simprocAttr,e1,e2,e7,e8,lr,sX,IQ,hB]⟩
   ·have:k=p.defs.length:=by omega
    subst this
    simp(disch:=omega)only[aG,aa,simprocAttr,e1,e2,e7,e8,lr,sX,IQ]
    exact⟨_,_,rfl,e7⟩
  ·rintro s ⟨T,g,rfl,e7⟩
   have hq:kI (oe (jf mods name) p.defs p.defs.length)=fi p mods name:=rfl
   have Qn:=u0 (jf mods name) p.defs p.defs.length
   generalize vP p.defs p.defs.length=m at *
   generalize oe (jf mods name) p.defs p.defs.length=q at *
   by_cases h0:q=[]
   ·subst h0
    have h:=fun H=>Y3 H
    have e7' : T 7=.slice [] true:=e7
    simp(disch:=omega)only[aG,aa,simprocAttr,e7',h]
    rw[<- hq]
    exact⟨_,Vi (t:=6) (rows:=[]) (own:=false) rfl (by decide) (by decide) (by simp[ax.put]) rfl,false,rfl⟩
   ·have hlen:=Tk (H:=H) (m:=m) (q:=q)
    have cD:∀ r,j9 (rM H m q).length (H.length+q.length) (BO (rM H m q) (H.length+q.length) aL r)=true:=by
     intro r
     have hl:(rM H m q).length=H.length+q.length+1:=by omega
     have:((BO (rM H m q) (H.length+q.length) aL r).take (rM H m q).length).drop (H.length+q.length)=[.box aL (al r).flatten]:=by
      rw[r7]
      exact Mr (by rw[vd,hl]) (DM (by omega))
     unfold j9
     rw[this]
     cases Nat.beq (H.length+q.length) (rM H m q).length<;>rfl
    obtain⟨c,h,hc⟩:=aen q (rM H m q) (H.length+q.length) aL (J4 h0) (by omega) cD
    rw[ze h0] at e7
    have hl:kI q≠[]:=by
     intro e
     have:=qq (l:=q)
     rw[e] at this
     exact h0 (List.eq_nil_of_length_eq_zero (by simpa using this.symm))
    have gr:(al (kI q)).length=q.length:=by rw[ba,qq]
    rw[<- hq]
    rcases hc with ⟨rfl,hs⟩|rfl
    ·simp(disch:=omega)only[aG,aa,simprocAttr,e7,h]
     refine⟨_,F5 (t:=6) (l:=H.length+q.length) (rows:=al (kI q)) (z:=3) rfl (by decide) (by decide) (by rw[gr];simp[ax.put]) (o:=.box aL (al (kI q)).flatten) (by rw[hs];exact J4 h0) rfl (by omega) qp (by omega) rfl,false,rfl⟩
    ·have hb:Nat.blt (H.length+q.length) H.length=false:=by
      cases h:Nat.blt (H.length+q.length) H.length with
      | true=>have:=Nat.le_of_ble_eq_true h;omega
      | false=>rfl
     simp(disch:=omega)only[aG,aa,simprocAttr,e7,h,hb]
     refine⟨_,F5 (t:=6) (l:=H.length+q.length) (rows:=al (kI q)) (z:=3) rfl (by decide) (by decide) (by rw[gr];simp[ax.put]) (DM (by omega)) rfl (by omega) qp (by omega) rfl,false,rfl⟩
  ·exact⟨_,_,rfl,by simp(disch:=omega)only[aG,aa,simprocAttr,apK,oe];rfl⟩
 obtain⟨r,h1,o,rfl⟩:=key
 exact⟨o,h1⟩
theorem GC(p:Prog)(l:List Id)(H:ag)(a:Nat)(hp:p.mods.length<=1000000)(hH:H[a]?=some (.box 26 (aF p)))(hl:l.length<=1000000)(hu:∀ x∈l,(dk p x).isSome=true) :
  az A 50 [.slice (al l) false,.func (.func 28) [] [.ref a 0]] H=some (.int .i64 (-1),none):=by
 refine bT (fn:=SE) rfl rfl rfl ?_
 unfold SE
 simp(disch:=omega)only[aG,aa,simprocAttr,ba]
 refine xj l.length (fun i=>Hd (fun T=>T 0=.slice (al l) false/\T 1=.func (.func 28) [] [.ref a 0]/\T 7=.int .i64 l.length/\T 8=.int .i64 i) H H.length 0) ?_ 0 _ (aqF _) ?_
 ·rintro i s hi hs
  obtain⟨T,rfl,h0,h1,h7,h8⟩:=hs.out
  by_cases h:i<l.length
  ·have hg:=je (apy h)
   have hx:=hu _ (aq7 h)
   generalize l[i]=e at hg hx
   have hd:=aa1 p e H a hp hH
   rw[hx] at hd
   rw[an] at hg hd
   simp(disch:=omega)only[aG,aa,simprocAttr,h0,h1,h7,h8,hg,hd,ba]
   exact h
  ·have:i=l.length:=by omega
   subst this
   simp(disch:=omega)only[aG,aa,simprocAttr,h0,h1,h7,h8,ba]
 ·simp(disch:=omega)only[aG,aa,simprocAttr,apK]
theorem Pb(p:Prog)(l:List Id)(H:ag)(a:Nat)(hp:p.mods.length<=1000000)(hH:H[a]?=some (.box 26 (aF p)))(hl:l.length<=1000000)(hu:∀ x∈l,(dk p x).isSome=true) :
  az A 26 [.slice (al l) false,.func (.func 28) [] [.ref a 0]] H=some (.slice (al l) false,none):=by
 refine bT (fn:=Sm) rfl rfl rfl ?_
 unfold Sm
 have h:=GC p l H a hp hH hl hu
 simp(disch:=omega)only[aG,aa,simprocAttr,ba,h]
theorem afo{x:Id}{l:List Id}(h:l.length<=1000000):bt false 3 24 (.slice [[.int .i64 x.bK,.int .i64 x.seq,.int .i64 x.index]] true) (ux l)=some (.slice (al (x :: l)) true):=by
 cases l with
 | nil=>rfl
 | cons y l=>exact uc (l:=[x]) (m:=y :: l) (by simp at *;omega)
theorem F8(p:Prog)(mod:Id)(name:fa)(H:ag)(hp:p.mods.length<=1000000)(hm:dk p mod=none):az A 8 [.agg (aF p),.agg (an mod),.str name] H=some (.slice [] true,none):=by
 refine bT (fn:=W4) rfl rfl rfl ?_
 unfold W4
 have hR:jT p mod=.tuple [.agg zM,.bool false]:=by rw[jT,hm]
 have h:=pA p mod (H++[.box 26 (aF p)]) hp
 rw[hR,zM] at h
 rw[aF,an] at *
 simp(disch:=omega)only[aG,aa,simprocAttr,h]
theorem F3{α:Type}(q:α->Bool)(l:List α)(i:Nat)(h:i<l.length):(l.take (i+1)).filter q=(l.take i).filter q++(if q l[i]=true then [l[i]] else []):=by
 rw[List.take_succ_eq_append_getElem h,List.filter_append,arc,List.filter_nil]
theorem I9(p:Prog)(mod:Id)(name:fa)(m:Mod)(r:fa × fa)(H:ag)(hp:p.mods.length<=1000000)(hd:p.defs.length<=12)(hm:dk p mod=some m)(hr:kN name=some r)(hn:name.length<=4611686018427387904)
  (hul:m.fY.length<=100000):∃ o,az A 8 [.agg (aF p),.agg (an mod),.str name] H=some (.slice (al (fi p ((mod :: m.fY).filter (mj p r.1)) r.2)) o,none):=by
 have key:∃ q,az A 8 [.agg (aF p),.agg (an mod),.str name] H=some q/\∃ o,q=(.slice (al (fi p ((mod :: m.fY).filter (mj p r.1)) r.2)) o,none):=by
  refine js (fn:=W4) rfl rfl rfl ?_
  unfold W4
  have hR:jT p mod=.tuple [.agg (dw m),.bool true]:=by rw[jT,hm]
  have h:=pA p mod (H++[.box 26 (aF p)]) hp
  rw[hR] at h
  have hmd:=fun x=>pA p x (H++[.box 26 (aF p)]) hp
  have hc:=Zq name (H++[.box 26 (aF p)]) hn
  have hcp:Cm name=.tuple [.str r.1,.str r.2,.bool true]:=by rw[Cm,hr]
  rw[hcp] at hc
  have ha:=afo (x:=mod) (l:=m.fY) (by omega)
  have h4:=Tb (m:=m)
  have hU:(m.fY=[]/\ux m.fY=.ae)\/ux m.fY=.slice (al m.fY) false:=by
   cases m.fY with
   | nil=>exact .inl ⟨rfl,rfl⟩
   | cons a l=>exact .inr rfl
  have hpp:aF p=[.slice (bD p.mods) false,.slice (bz p.defs) false]:=rfl
  simp only[aF,an] at h hc ⊢
  simp only[aF] at hmd
  generalize hL:mod :: m.fY=L at *
  have vg:L.length<=100001:=by rw[<- hL];simp;omega
  rcases hU with ⟨ZA,hU⟩|hU
  all_goals
   rw[hU] at ha h4
   simp(disch:=omega)only[aG,aa,simprocAttr,h,hc,ha,h4,dJ,dm,dB,cV,fw,ba]
   refine bd L.length 0 (fun k=>mz (fun T=>T 3=.ref H.length 0/\T 9=.str r.1/\T 10=.str r.2/\T 12=.slice (al ((L.take k).filter (mj p r.1))) true/\T 38=.slice (al L) true/\T 39=.int .i64 L.length/\T 40=.int .i64 k) (H++[.box 26 [.slice (bD p.mods) false,.slice (bz p.defs) false]]) H.length)
    (mz (fun T=>T 3=.ref H.length 0/\T 10=.str r.2/\T 12=.slice (al (L.filter (mj p r.1))) true) (H++[.box 26 [.slice (bD p.mods) false,.slice (bz p.defs) false]]) H.length) (fun _=>False) ?_ ?_ (fun _ h=>h.elim) 0 _ (aqF _) ?_
   ·rintro k s hk hs
    obtain⟨T,g,rfl,e3,e9,iE,iO,DT,e39,e40⟩:=hs.out
    by_cases gm:k<L.length
    ·have hg:=je (apy gm)
     have Qc:=F3 (mj p r.1) L k gm
     have hq:((L.take k).filter (mj p r.1)).length<=100001:=aqC (List.length_filter_le ..) (by rw[ard];omega)
     generalize L[k]=x at *
     generalize (L.take k).filter (mj p r.1)=q at *
     have D0:=hmd x
     have jq:=tu (l:=q) (i:=x) (o:=true) (by omega)
     rw[an] at hg D0
     cases hx:dk p x with
     | none =>
      have ho:mj p r.1 x=false:=by rw[mj,hx]
      rw[jT,hx] at D0
      simp only[zM] at D0
      rw[ho] at Qc
      simp only[aqf,aqG,aqt] at Qc
      simp(disch:=omega)only[aG,aa,simprocAttr,e3,e9,iE,iO,DT,e39,e40,hg,D0,Qc]
      exact gm
     | some y =>
      have ho:mj p r.1 x=(y.name==r.1):=by rw[mj,hx]
      rw[jT,hx] at D0
      simp only at D0
      have h3:=G1 (m:=y)
      cases hy:(y.name==r.1) with
      | false =>
       rw[ho,hy] at Qc
       simp only[aqf,aqG,aqt] at Qc
       simp(disch:=omega)only[aG,aa,simprocAttr,e3,e9,iE,iO,DT,e39,e40,hg,D0,Qc,h3,dJ,dm,dB,cV,fw,hy]
       exact gm
      | true =>
       rw[ho,hy,if_pos rfl] at Qc
       simp(disch:=omega)only[aG,aa,simprocAttr,e3,e9,iE,iO,DT,e39,e40,hg,D0,Qc,h3,dJ,dm,dB,cV,fw,hy,jq]
       exact gm
    ·have:k=L.length:=by omega
     subst this
     rw[arp] at iO
     simp(disch:=omega)only[aG,aa,simprocAttr,e3,e9,iE,iO,DT,e39,e40]
   ·rintro s hs
    obtain⟨T,g,rfl,e3,iE,iO⟩:=hs.out
    obtain⟨o,od⟩:=Dj p (L.filter (mj p r.1)) r.2 (H++[.box 26 [.slice (bD p.mods) false,.slice (bz p.defs) false]]) hd (aqC (List.length_filter_le ..) (by omega))
    rw[hpp] at od
    cases o
    all_goals
     simp(disch:=omega)only[aG,aa,simprocAttr,e3,iE,iO,od]
     exact⟨_,rfl⟩
   ·simp(disch:=omega)only[aG,aa,simprocAttr,apK]
    simp[al]
 obtain⟨q,h1,o,rfl⟩:=key
 exact⟨o,h1⟩
theorem filter_all{α:Type}(q:α->Bool):∀ l:List α,(∀ x∈l,q x=true)->l.filter q=l
 | [],_=>rfl
 | a :: l,h=>by rw[arc,if_pos (h a (by simp)),filter_all q l fun x hx=>h x (by simp[hx])]
theorem CQ(p:Prog)(mod:Id)(name:fa)(m:Mod)(H:ag)(hp:p.mods.length<=1000000)(hd:p.defs.length<=12)(hm:dk p mod=some m)(hr:kN name=none)(hn:name.length<=4611686018427387904)
  (hul:m.fY.length<=100000) (hu:∀ x∈m.fY,(dk p x).isSome=true) :
  ∃ o,az A 8 [.agg (aF p),.agg (an mod),.str name] H=some (.slice (al (if fi p [mod] name≠[] then fi p [mod] name else fi p m.fY name)) o,none):=by
 have key:∃ q,az A 8 [.agg (aF p),.agg (an mod),.str name] H=some q/\∃ o,q=(.slice (al (if fi p [mod] name≠[] then fi p [mod] name else fi p m.fY name)) o,none):=by
  refine js (fn:=W4) rfl rfl rfl ?_
  unfold W4
  have hR:jT p mod=.tuple [.agg (dw m),.bool true]:=by rw[jT,hm]
  have h:=pA p mod (H++[.box 26 (aF p)]) hp
  rw[hR] at h
  have hc:=Zq name (H++[.box 26 (aF p)]) hn
  have hcp:Cm name=.tuple [.str name,.str [],.bool false]:=by rw[Cm,hr]
  rw[hcp] at hc
  have h4:=Tb (m:=m)
  have hH:(H++[ct.box 26 (aF p)])[H.length]?=some (.box 26 (aF p)):=by simp
  have iw:=UK m.fY (H++[.box 26 (aF p)]) (by omega)
  have af9:=Pb p m.fY (H++[.box 26 (aF p)]) H.length hp hH (by omega) hu
  obtain⟨o1,s6⟩:=Dj p [mod] name (H++[.box 26 (aF p)]) hd (by simp)
  obtain⟨o2,wF⟩:=Dj p m.fY name (H++[.box 26 (aF p)]) hd (by omega)
  have h1l:(al (fi p [mod] name)).length=(fi p [mod] name).length:=ba
  have K0:al [mod]=[[.int .i64 mod.bK,.int .i64 mod.seq,.int .i64 mod.index]]:=rfl
  rw[K0] at s6
  have hU:(m.fY=[]/\ux m.fY=.ae)\/ux m.fY=.slice (al m.fY) false:=by
   cases m.fY with
   | nil=>exact .inl ⟨rfl,rfl⟩
   | cons a l=>exact .inr rfl
  simp only[aF,an] at h hc iw af9 s6 wF ⊢
  generalize fi p [mod] name=q at *
  generalize fi p m.fY name=q2 at *
  by_cases hq:q=[]
  ·subst hq
   have Nb:(List.length ([]:List Id))=0:=rfl
   rw[if_neg (by simp)]
   rcases hU with ⟨ZA,hU⟩|hU
   all_goals
    rw[hU] at h4 iw
    cases o1<;>cases o2
    all_goals
     simp(disch:=omega)only[aG,aa,simprocAttr,h,hc,h4,iw,af9,s6,wF,dJ,dm,dB,cV,fw,nI,List.length_nil,apK,gt_iff_lt,Int.lt_irrefl]
     exact⟨_,rfl⟩
  ·rw[if_pos hq]
   have yJ:0<q.length:=aqj.2 hq
   cases o1
   all_goals
    simp(disch:=omega)only[aG,aa,simprocAttr,h,hc,h4,s6,dJ,dm,dB,cV,fw,h1l,gt_iff_lt]
    exact⟨_,rfl⟩
 obtain⟨q,h1,o,rfl⟩:=key
 exact⟨o,h1⟩
structure Fit (p:Prog):Prop where
 mods:p.mods.length<=1000000
 defs:p.defs.length<=12
 fY:∀ m∈p.mods,m.fY.length<=1000/\∀ x∈m.fY,(dk p x).isSome=true
 mn:∀ m∈p.mods,m.name.length<=1000000
 dn:∀ d∈p.defs,d.name.length<=1000000
theorem PN(p:Prog)(hp:Fit p)(mod:Id)(name:fa)(H:ag)(hn:name.length<=4611686018427387904):∃ o,az A 8 [.agg (aF p),.agg (an mod),.str name] H=some (.slice (al (fb p mod name)) o,none):=by
 cases hm:dk p mod with
 | none =>
  have:fb p mod name=[]:=by rw[fb,hm]
  rw[this]
  exact⟨true,F8 p mod name H hp.mods hm⟩
 | some m =>
  obtain⟨h1,h2⟩:=hp.fY m (List.mem_of_find?_eq_some hm)
  cases hc:kN name with
  | some r =>
   have:fb p mod name=fi p ((mod :: m.fY).filter (mj p r.1)) r.2:=by rw[fb,hm];simp only[hc]
   rw[this]
   exact I9 p mod name m r H hp.mods hp.defs hm hc hn (by omega)
  | none =>
   have:fb p mod name=if fi p [mod] name≠[] then fi p [mod] name else fi p m.fY name:=by
    rw[fb,hm];simp only[hc]
    rw[filter_all _ _ h2]
   rw[this]
   exact CQ p mod name m H hp.mods hp.defs hm hc hn (by omega) h2
end Go.Proofs.YthbncinhhdogpaaGreatDoor
