/-
  A part of the proof of SyntaxLossless: U3, U4, U5, U6, U7, U9, U8, U10, U11, U12, U13, U14, U15, U16, U17, U18, U19, U20, U21, U22, U23.
-/
import Derived.Test.YtkoebdjmmgckdaaGreatDoorQ07
set_option linter.unusedSimpArgs false
set_option linter.unusedVariables false
set_option linter.defProp false
set_option maxHeartbeats 1000000
set_option maxRecDepth 100000
noncomputable section
namespace Go.Proofs.YtkoebdjmmgckdaaGreatDoor
open Go Go.Abs Go.Proofs
variable {o:Bool}{k p p' p1 x:Int}{cs:List AV}{d i j m:Nat}{α:Type}{a:av}
def cS(k:Int):av->Nat
 | []=>0
 | c :: r=>if kindOf c=2\/kindOf c=1/\k=1 then 1+cS k r else 0
def qs(k:Int):∀ s:av,cS k s<=s.length
 | []=>Nat.le_refl _
 | c :: r=>by
  have:=qs k r
  simp only[cS,List.length_cons];split<;>omega
def fW:av->Nat
 | []=>0
 | b :: r=>if 0<kindOf b then (if 16<1+cS (kindOf b) r then 0 else 1+cS (kindOf b) r)
  else if 1<=r.length/\kU ((b :: r).take 2)=true then 2 else if kU [b]=true then 1 else 0
theorem wz:∀ s:av,fW s<=s.length
 | []=>Nat.le_refl _
 | b :: r=>by
  have:=qs (kindOf b) r
  simp only[fW,List.length_cons]
  grind
theorem IY(c:UInt8):kindOf c=0\/kindOf c=1\/kindOf c=2:=by
 unfold kindOf
 grind
theorem acE(s:av)(at' : Nat)(H:aa)(ft:at' < s.length)(hs:s.length<=4611686018427387904) :
  ai A 43 [.str s,.int .i64 at'] H=some (.int .i64 (if fW (s.drop at')=0 then -1 else ((at' + fW (s.drop at'):Nat):Int)),none):=by
 refine cy (fn:=agd) rfl rfl rfl ?_;unfold agd;have hd:=axk ft;generalize hb:s[at']=b at hd;have kG:s[at']?=some b:=by rw[aw3 ft,hb]
 refine Yo kG @xU ?_;refine ju ?_ ?_<;>intro hk
 ·have ZQ:fW (s.drop at')=if 16<1+cS (kindOf b) (s.drop (at' + 1)) then 0 else 1+cS (kindOf b) (s.drop (at' + 1)):=by
   rw[hd];simp only[fW,if_pos hk]
  refine N6 ?_;refine bK s.length 0 (fun i=>Hd (fun T=>T 0=.str s/\T 1=.int .i64 at'/\T 5=.int .i64 (kindOf b)/\T 6=.int .i64 i/\at' + 1+cS (kindOf b) (s.drop (at' + 1))=i+cS (kindOf b) (s.drop i)) H H.length 0)
   (Hd (fun T=>T 1=.int .i64 at'/\T 6=.int .i64 ((at' + 1+cS (kindOf b) (s.drop (at' + 1)):Nat):Int)) H H.length 0) (fun _=>False) ?_ ?_ (fun _ h=>h.elim) (at' + 1) _ af ?_
  ·rintro i st hi gP
   obtain⟨T,rfl,h0,h1,h5,h6,hc⟩:=gP.out
   by_cases h:(i:Int)<s.length
   ·have j6:i<s.length:=af
    rw[axk j6] at hc;simp only[cS] at hc;have B3:s[i]?=some s[i]:=aw3 j6;generalize s[i]=c at hc B3
    by_cases k2:kindOf c=2
    ·rw[if_pos (.inl k2)] at hc
     refine I6 h0 h1 h5 (j5 h6 h B3 @xU k2) ?_;omega
    by_cases k1:kindOf c=1
    ·by_cases kb:kindOf b=1
     ·rw[if_pos (.inr ⟨k1,kb⟩)] at hc
      rw[kb] at h5 hc ⊢;refine I6 h0 h1 (j2 h5 h6) (j5 h B3 @xU k1 @Int.reduceBEq.eq_1) ?_;omega
     ·rw[if_neg (by simp[k1,kb])] at hc
      refine I6 h0 h1 (j3 h5 h6 h) (j5 B3 @xU k1 (show (kindOf b==1)=false by simpa using kb) @Int.reduceBEq.eq_1) ?_
      omega
    ·have k0:kindOf c=0:=by rcases IY c with h|h|h<;>simp_all
     rw[if_neg (by simp[k0])] at hc
     refine I6 h0 h1 h6 (j5 h B3 @xU k0 @Int.reduceBEq.eq_1) ?_;omega
   ·have:i=s.length:=af
    subst this;rw[ayy] at hc;simp only[cS] at hc;refine I6 h0 h1 h6 h ?_;omega
  ·intro st gP
   obtain⟨T,rfl,h1,h6⟩:=gP.out;have hle:=qs (kindOf b) (s.drop (at' + 1));rw[axD] at hle;rw[ZQ];generalize cS (kindOf b) (s.drop (at' + 1))=w at h6 hle;refine Yo h1 h6 ?_;refine ju ?_ ?_<;>intro h16
   ·simp(disch:=omega)only[yQ,ab,simprocAttr,if_pos (show 16<1+w by omega)]
   ·simp(disch:=omega)only[yQ,ab,simprocAttr,if_neg (show ¬ 16<1+w by omega),h6,if_neg (show ¬ 1+w=0 by omega)]
    omega
  ·exact vE0
 ·have ZQ:fW (s.drop at')=if 1<=(s.drop (at' + 1)).length/\kU ((b :: s.drop (at' + 1)).take 2)=true then 2 else if kU [b]=true then 1 else 0:=by
   rw[hd];simp only[fW,if_neg hk]
  have e1:List.drop at' (List.take (at' + 1) s)=[b]:=by
   grind
  have e2:List.drop at' (List.take (at' + 2) s)=(b :: s.drop (at' + 1)).take 2:=by
   grind
  generalize (b :: s.drop (at' + 1)).take 2=two at e2 ZQ;have e3:(s.drop (at' + 1)).length=s.length-(at' + 1):=axD ..;rw[ZQ,e3]
  by_cases h2:(at' : Int)+1<s.length
  ·cases xP:kU two with
   | true =>
    refine I6 h2 e2 @OF xP ?_;rw[if_pos (show 1<=s.length-(at' + 1) by omega)]
    rw[if_neg af];rfl
   | false =>
    cases pH:kU [b] <;>
    simp(disch:=omega)only[yQ,ab,simprocAttr,h2,e2,e1,OF,xP,pH,ayg,and_false]<;>rfl
  ·have hn:¬ 1<=s.length-(at' + 1):=af
   cases pH:kU [b] <;>
   simp(disch:=omega)only[yQ,ab,simprocAttr,h2,e1,OF,pH,hn,false_and,ayg]<;>rfl
def NR(H:aa):ai A 85 [] H=some (.slice (strs fg) true,none):=by
 refine cy (fn:=ags) rfl rfl rfl ?_;unfold ags;simp only[X3,Mm,W6,ye,ad8,Ml,HE];refine ad0 (.slice (strs fg) true) cB ?_;exact vE0
def isWord(s:av):Bool:=match s with
 | []=>false
 | b :: _=>decide (kindOf b=1)&&!fg.contains s&&decide (fW s=s.length)
theorem qW(s:av)(H:aa)(hs:s.length<=4611686018427387904):ai A 45 [.str s] H=some (.bool (isWord s),none):=by
 refine cy (fn:=agf) rfl rfl rfl ?_;unfold agf;cases wY:s with
 | nil=>exact Yn @isWord.eq_1 tv
 | cons b r =>
 rw[<- wY];have hl:((s.length:Int)==0)=false:=by rw[wY];simp;omega
 have hb:s[0]?=some b:=by rw[wY];rfl
 by_cases hk:kindOf b=1
 ·simp(disch:=omega)only[yQ,ab,simprocAttr,hl,hb,xU,hk,bne_self_eq_false,NR]
  have h27:fg.length=27:=rfl;refine bK 27 0 (fun i=>Hd (fun T=>T 0=.str s/\T 3=.slice (strs fg) true/\T 4=.int .i64 i/\fg.contains s=(fg.drop i).contains s) H H.length 0)
   (Hd (fun T=>T 0=.str s/\fg.contains s=false) H H.length 0) (Hd (fun T=>T 2=.bool false/\fg.contains s=true) H H.length 0) ?_ ?_ ?_ 0 _ af ?_
  ·rintro i st hi gP
   obtain⟨T,rfl,h0,h3,h4,hc⟩:=gP.out;refine I6 h3 h4 @bu h27 ?_;refine ju ?_ ?_<;>intro h
   ·have j6:i<fg.length:=by rw[h27];omega
    refine I6 h0 h3 h4 (gY (aw3 j6)) ?_;refine jI ?_ ?_<;>intro hb
    ·simp(disch:=omega)only[yQ,ab,simprocAttr,hc,axk j6,ayJ,show (s==fg[i])=true by rw[axL] at hb ⊢;exact hb.symm]
    ·refine nE3 h0 h3 h4 ?_
     exact⟨af,by rw[hc,axk j6,ayJ,show (s==fg[i])=false by rw[ayI] at hb ⊢;exact hb.symm,ax2]⟩
   ·have:i=27:=af
    subst this;rw[show fg.drop 27=[] from rfl] at hc
    simp(disch:=omega)only[yQ,ab,simprocAttr,h0,hc,List.contains_nil]
  ·intro st gP
   obtain⟨T,rfl,h0,hc⟩:=gP.out;have e1:=acE s 0 H (by rw[wY];simp) hs
   rw[List.drop_zero] at e1;rw[Int.natCast_zero] at e1;refine Yo h0 e1 ?_;have hw:isWord s=decide (fW s=s.length):=by rw[wY] at hc ⊢;simp only[isWord,hk,hc,azV,ayb,axF]
   grind
  ·intro st gP
   obtain⟨T,rfl,h2,hc⟩:=gP.out;have hw:isWord s=false:=by rw[wY] at hc ⊢;simp only[isWord,hc,ax7,Bool.and_false,axt]
   exact vE2 h2 hw
  ·exact vE0
 ·have hw:isWord s=false:=by rw[wY];simp only[isWord,hk,decide_false,axt]
  exact vE5 hl hb xU (show (kindOf b != 1)=true by simpa using hk) hw
section
def lD{n:Int}(hk:0<k):0<=mq n k/\mq n k<k:=by
 unfold mq;have h0:(0:Int)<=(if n<0 then -(n+1) else n):=by split<;>omega
 rw[axU h0];exact⟨Int.emod_nonneg _ af,Int.emod_lt_of_pos _ hk⟩
theorem GB{l:List Int}{i:Int}(hk:0<k):0<=atZ l i k/\atZ l i k<k:=by
 unfold atZ;split
 ·grind
 ·exact lD hk
inductive Wd where
 | mk (name:av) (kids:List Wd)
inductive Tm where
 | mk (kind n:Int) (name field wn:av) (wk:List Wd) (kids:List Tm) (names:List av)
def Wd.name:Wd->av|.mk n _=>n
def Wd.kids:Wd->List Wd|.mk _ k=>k
def Tm.kind:Tm->Int|.mk k _ _ _ _ _ _ _=>k
def Tm.n:Tm->Int|.mk _ n _ _ _ _ _ _=>n
def Tm.name:Tm->av|.mk _ _ a _ _ _ _ _=>a
def Tm.field:Tm->av|.mk _ _ _ f _ _ _ _=>f
def Tm.wn:Tm->av|.mk _ _ _ _ w _ _ _=>w
def Tm.wk:Tm->List Wd|.mk _ _ _ _ _ w _ _=>w
def Tm.kids:Tm->List Tm|.mk _ _ _ _ _ _ k _=>k
def Tm.names:Tm->List av|.mk _ _ _ _ _ _ _ n=>n
mutual
def fN:Wd->List AV
 | .mk n ks=>[.str n,.slice (aM ks) false]
def aM:List Wd->List (List AV)
 | []=>[]
 | w :: r=>fN w :: aM r
end
mutual
def aK:Tm->List AV
 | .mk k n a f wn wk ks ns=>[.int .i64 k,.int .i64 n,.str a,.str f,.str wn,.slice (aM wk) false,.slice (aF ks) false,.slice (strs ns) false]
def aF:List Tm->List (List AV)
 | []=>[]
 | t :: r=>aK t :: aF r
end
def fI(w:Wd):fN w=[.str w.name,.slice (aM w.kids) false]:=by cases w;simp only[fN,Wd.name,Wd.kids]
theorem aj(t:Tm):aK t=[.int .i64 t.kind,.int .i64 t.n,.str t.name,.str t.field,.str t.wn,.slice (aM t.wk) false,.slice (aF t.kids) false,.slice (strs t.names) false]:=by
 cases t;simp only[aK,Tm.kind,Tm.n,Tm.name,Tm.field,Tm.wn,Tm.wk,Tm.kids,Tm.names]
def vH:∀ l:List Wd,aM l=l.map fN
 | []=>by simp[aM]
 | t :: r=>by simp[aM,vH r]
theorem jZ:∀ l:List Tm,aF l=l.map aK
 | []=>by simp[aF]
 | t :: r=>by simp[aF,jZ r]
def gF{l:List Wd} : (aM l).length=l.length:=by rw[vH];simp
theorem cx{l:List Tm} : (aF l).length=l.length:=by rw[jZ];simp
def X0{l:List Wd}{e:Wd}(h:l[i]?=some e):(aM l)[i]?=some (fN e):=by rw[vH];simp[h]
def BT{l:List Tm}{e:Tm}(h:l[i]?=some e):(aF l)[i]?=some (aK e):=by rw[jZ];simp[h]
def F4:Nat->Wd->Prop
 | 0,w=>w.name.length<=1100000/\w.kids=[]
 | h+1,w=>w.name.length<=1100000/\w.kids.length<=1/\∀ k∈w.kids,F4 h k
inductive Tj:Nat->Tm->Prop where
 | mk (h:Nat) (k n:Int) (a f wn:av) (wk:List Wd) (ks:List Tm) (ns:List av) (h1:-2199023255552<=n/\n<=2199023255552) (hk:-100<=k/\k<=100) (h2:a.length<=1100000/\f.length<=1100000)
   (h3:F4 3 (.mk wn wk)) (h4:ks.length<=3) (h5:∀ t∈ks,Tj h t) (h6:ns.length<=8/\∀ s∈ns,s.length<=1100000):Tj (h+1) (.mk k n a f wn wk ks ns)
inductive Bj (m:Nat):Nat->Tm->Prop where
 | mk (h:Nat) (k n:Int) (a f wn:av) (wk:List Wd) (ks:List Tm) (ns:List av) (h1:-2199023255552<=n/\n<=2199023255552) (hk:-100<=k/\k<=100) (h2:a.length<=1100000/\f.length<=1100000)
   (h3:F4 3 (.mk wn wk)) (h4:ks.length<=3) (h5:∀ t∈ks,Bj m h t) (h6:ns.length<=m/\∀ s∈ns,s.length<=1100000):Bj m (h+1) (.mk k n a f wn wk ks ns)
def Bj.le(hm:m<=8):∀ (h h' : Nat) (t:Tm),h<=h'->Bj m h t->Tj h' t
 | 0,_,t,_,hb=>by cases hb
 | h+1,0,t,hh,_=>af
 | h+1,h' + 1,t,hh,hb=>by
  cases hb with
  | mk h k n a f wn wk ks ns h1 hk h2 h3 h4 h5 h6=>exact .mk h' k n a f wn wk ks ns h1 hk h2 h3 h4 (fun u hu=>Bj.le hm h h' u af (h5 u hu)) ⟨af,h6.2⟩
def Bj.up{m':Nat}(hm:m<=m'):∀ (h h' : Nat) (t:Tm),h<=h'->Bj m h t->Bj m' h' t
 | 0,_,t,_,hb=>by cases hb
 | h+1,0,t,hh,_=>af
 | h+1,h' + 1,t,hh,hb=>by
  cases hb with
  | mk h k n a f wn wk ks ns h1 hk h2 h3 h4 h5 h6=>exact .mk h' k n a f wn wk ks ns h1 hk h2 h3 h4 (fun u hu=>Bj.up hm h h' u af (h5 u hu)) ⟨af,h6.2⟩
def bL{f:FuncId}{fn:aD}(ho:A.ov f=none)(hf:A.fns f=some fn){args:List AV}{H:aa}{r:AV × Option fw}(hn:Nat.beq args.length fn.np=true)(hm:fn.muts.elem 777777=true)
  (h:W A fn.body { T:=dO args,H,lo:=H.length,gen:=0 } (Bu H.length fn.results fun x=>(nC x.1,x.2)=r)):ai A f args H=some r:=by
 obtain⟨r',h1,h2⟩:=nQ (P:=fun x=>x=r) ho hf hn hm h
 rw[h1,h2]
def cr{cs:List AV} : nC (.agg cs)=.agg (cs.map n2):=rfl
def ahc : nC (.tuple cs)=.tuple (cs.map n3):=rfl
def ag'{k:IntKind}{n:Int} : nC (.int k n)=.int k n:=rfl
def Of{l:av} : nC (.str l)=.str l:=rfl
def aha{e:List (List AV)} : nC (.slice e false)=.slice (e.map fun r=>r.map n1) false:=rfl
def ahb{e:List (List AV)} : nC (.slice e true)=.slice e true:=rfl
def agS : n3 (.agg cs)=.agg (cs.map n2):=rfl
def agT{k:IntKind}{n:Int} : n3 (.int k n)=.int k n:=rfl
def dp{k:IntKind}{n:Int} : n2 (.int k n)=.int k n:=rfl
def cq{l:av} : n2 (.str l)=.str l:=rfl
def cI:n2 .al=.slice [] false:=rfl
def dR{e:List (List AV)} : n2 (.slice e false)=.slice (e.map fun r=>r.map n1) false:=rfl
def kV{k:IntKind}{n:Int} : n1 (.int k n)=.int k n:=rfl
def jR{l:av} : n1 (.str l)=.str l:=rfl
def nA{e:List (List AV)}{o:Bool} : n1 (.slice e o)=.slice e o:=rfl
def aqS{w:Wd} : (fN w).map n1=fN w:=by rw[fI];rfl
def aqR{t:Tm} : (aK t).map n1=aK t:=by rw[aj];rfl
def aaG{l:List Wd} : ((aM l).map fun r=>r.map n1)=aM l:=by
 rw[vH,List.map_map];exact List.map_congr_left fun w _=>aqS
def LC{l:List Tm} : ((aF l).map fun r=>r.map n1)=aF l:=by
 rw[jZ,List.map_map];exact List.map_congr_left fun w _=>aqR
def D6{l:List av} : ((strs l).map fun r=>r.map n1)=strs l:=by
 rw[strs,List.map_map];exact List.map_congr_left fun w _=>rfl
structure Cc where
 mm:Nat
 l:List Int
def Y1(c:Cc)(p:Int):List AV:=[.slice (ints c.l) false,.int .i64 p]
def cT(c:Cc)(p:Int)(H:aa):aa:=H.set c.mm (.box 60 (Y1 c p))
structure CH (c:Cc) (p:Int) (H:aa):Prop where
 h0:H[c.mm]?=some (.box 60 (Y1 c p))
 hl:∀ n∈c.l,CU n
 len:H.length=c.mm+1
def CH.lt{c:Cc}{H:aa}(h:CH c p H):c.mm<H.length:=(aw5.1 h.h0).1
def CH.set{c:Cc}{H:aa}(h:CH c p H):CH c p' (cT c p' H):=⟨by unfold cT;rw[List.getElem?_set_self h.lt],h.hl,by unfold cT;rw[List.length_set];exact h.len⟩
theorem aZ{c:Cc}{H:aa} : cT c p (cT c p' H)=cT c p H:=by unfold cT;rw[List.set_set]
def Xz{c:Cc}{H:aa} : (cT c p H).length=H.length:=by unfold cT;rw[List.length_set]
def bw{c:Cc}{p:Int}{H:aa} : (cT c p H).take H.length=cT c p H:=axy (Nat.le_of_eq Xz)
def HN{H:aa}{i:Nat}{o:bG} : (H.set i o).take H.length=H.set i o:=axy (Nat.le_of_eq List.length_set)
theorem CH.open{c:Cc}{H:aa}(h:CH c p H)(cs:List AV):mc H.length c.mm (H.set c.mm (.box 60 cs))=true:=by
 have h1:((H.set c.mm (.box 60 cs)).take H.length).drop c.mm=[.box 60 cs]:=by
  rw[HN];refine ayq fun j=>?_
  rw[ax9,axI];cases j with
  | zero=>simp[h.lt]
  | succ j =>
   rw[if_neg af,List.getElem?_eq_none (by have:=h.len;omega)]
   simp
 unfold mc
 grind
def CH.jj{c:Cc}{H:aa}(h:CH c p H):mc H.length c.mm (cT c p' H)=true:=h.open _
def mU{c:Cc}{H:aa}(h:CH c p H)(n:Int)(hn:0<n):∃ x p',0<=x/\x<n/\ai A 18 [.ref c.mm 0,.int .i64 n] H=some (.int .i64 x,some ⟨cT c p' H,c.mm⟩):=by
 refine⟨atZ c.l (IntKind.i64.wrap (IntKind.i64.wrap (p+1)-1)) n,IntKind.i64.wrap (p+1),(GB hn).1,(GB hn).2,?_⟩;refine bL (fn:=af7) rfl rfl rfl rfl ?_;unfold af7;have h0:=h.h0;have aP:=h.lt;have ft:=fun i H=>aor c.l i n H h.hl hn
 have dH:=h.open;have gP:∀ x:bG,(H.set c.mm x)[c.mm]?=some x:=fun x=>List.getElem?_set_self aP
 rw[Y1] at h0;exact Ac h0 gP dH @HN (j5 ft @ag' @Y1.eq_1 @cT.eq_1 @aW.eq_1) tv
def N' : List av:=[[97],[98],[102],[80,111,105,110,116],[83,104,97,112,101],[120,49],[99,111,114,101],[117]]
def lt8(h0:0<=x)(h1:x<8):x=0\/x=1\/x=2\/x=3\/x=4\/x=5\/x=6\/x=7:=af
def oO{c:Cc}{H:aa}(h:CH c p H):∃ s p',s∈N'/\ai A 17 [.ref c.mm 0] H=some (.str s,some ⟨cT c p' H,c.mm⟩):=by
 obtain⟨x,p',h0,h1,dL⟩:=mU h 8 af;have aP:=h.lt;have dH:=h.jj (p':=p');refine⟨(N'[x.toNat]?).getD [],p',?_,?_⟩
 ·rcases lt8 h0 h1 with rfl|rfl|rfl|rfl|rfl|rfl|rfl|rfl<;>decide
 ·refine bL (fn:=af6) rfl rfl rfl rfl ?_
  unfold af6
  rcases lt8 h0 h1 with rfl|rfl|rfl|rfl|rfl|rfl|rfl|rfl
  all_goals
   refine nO4 dL dH @bw @Of ?_;rfl
section
variable {P Q A B C D E F G H:Prop}
def nT1(a:A)(q:Q)(z:(A->P=Q):=by intro a;simp(disch:=omega)only[dJ,ab,simprocAttr,Tm.kind,Tm.n,Tm.name,Tm.field,Tm.wn,Tm.wk,Tm.kids,Tm.names,aF,aM,strs,aW,a]<;>rfl):P:=(z a).mpr q
def vV(a:A)(b:B)(c:C)(d:D)(e:E)(q:Q)(z:(A->B->C->D->E->P=Q):=by intro a b c d e;simp(disch:=omega)only[dJ,ab,simprocAttr,Tm.kind,Tm.n,Tm.name,Tm.field,Tm.wn,Tm.wk,Tm.kids,Tm.names,aF,aM,strs,aW,a,b,c,d,e]<;>rfl):P:=(z a b c d e).mpr q
end
end
variable {l:List Tm}{b:Tm}{w:Wd}
theorem iT:∀ s∈N',s.length<=5:=aB
def xW{c:Cc}{H:aa}(h:CH c p H):∃ s p',s.length<=1100000/\ai A 52 [.ref c.mm 0] H=some (.str s,some ⟨cT c p' H,c.mm⟩):=by
 obtain⟨x,p1,h0,h1,dL⟩:=mU h 4 af;obtain⟨s,p2,hs,rR⟩:=oO (h.set (p':=p1));rw[aZ] at rR;have qu:=iT s hs;have dH:=h.jj (p':=p2);have aP:=h.lt
 by_cases hx:x=1
 ·subst hx
  refine⟨[107,46]++s,p2,df,bL (fn:=VX) rfl rfl rfl rfl ?_⟩;unfold VX;exact Ac dL rR dH @bw @Of tv
 ·refine⟨s,p2,af,bL (fn:=VX) rfl rfl rfl rfl ?_⟩
  unfold VX;exact Ac dL rR dH @bw @Of tv
def tV{s:av}(h:s.length<=1100000):F4 d (.mk s []):=by
 cases d with
 | zero=>exact⟨h,rfl⟩
 | succ d=>exact⟨h,by simp[Wd.kids],by simp[Wd.kids]⟩
def ab6(h:F4 d w):F4 (d+1) (.mk [76,105,115,116] [w]):=⟨by simp[Wd.name],by simp[Wd.kids],by simp[Wd.kids];exact h⟩
def Li{c:Cc} : ∀ (d:Nat) (p:Int) (H:aa),d<=100->CH c p H->∃ w p',F4 d w/\ai A 21 [.ref c.mm 0,.int .i64 d] H=some (.agg (fN w),some ⟨cT c p' H,c.mm⟩):=by
 intro d
 induction d with
 | zero =>
  intro p H hd h;obtain⟨x,p1,h0,h1,dL⟩:=mU h 5 af;obtain⟨s,p2,hs,u6⟩:=xW (h.set (p':=p1));rw[aZ] at u6;have dH:=h.jj (p':=p1);have afF:=h.jj (p':=p2);have aP:=h.lt
  by_cases od:x=1
  ·refine⟨.mk [66,111,111,108] [],p1,tV aB,bL (fn:=xQ) rfl rfl rfl rfl ?_⟩
   unfold xQ;exact Ac dL dH @bw @cr (j5 @cq @cI @fN.eq_1 @aM.eq_1 @aW.eq_1) tv
  by_cases F0:x=2
  ·refine⟨.mk s [],p2,tV hs,bL (fn:=xQ) rfl rfl rfl rfl ?_⟩
   unfold xQ;exact Ac dL u6 afF (j2 @bw @cr) (j5 @cq @cI @fN.eq_1 @aM.eq_1 @aW.eq_1) tv
  by_cases hx3:x=3
  all_goals
   refine⟨.mk [73,110,116] [],p1,tV aB,bL (fn:=xQ) rfl rfl rfl rfl ?_⟩;unfold xQ;exact Ac dL dH @bw @cr (j5 @cq @cI @fN.eq_1 @aM.eq_1 @aW.eq_1) tv
 | succ d ih =>
  intro p H hd h;obtain⟨x,p1,h0,h1,dL⟩:=mU h 5 af;obtain⟨s,p2,hs,u6⟩:=xW (h.set (p':=p1));rw[aZ] at u6;obtain⟨w,p3,hw,acW⟩:=ih p1 (cT c p1 H) af h.set;rw[aZ,fI] at acW;have dH:=h.jj (p':=p1);have afF:=h.jj (p':=p2);have ap0:=h.jj (p':=p3);have aP:=h.lt;have AD:(d:Int)+1-1=d:=af
  by_cases od:x=1
  ·refine⟨.mk [66,111,111,108] [],p1,tV aB,bL (fn:=xQ) rfl rfl rfl rfl ?_⟩
   unfold xQ;exact Ac dL dH @bw @cr (j5 @cq @cI @fN.eq_1 @aM.eq_1 @aW.eq_1) tv
  by_cases F0:x=2
  ·refine⟨.mk s [],p2,tV hs,bL (fn:=xQ) rfl rfl rfl rfl ?_⟩
   unfold xQ;exact Ac dL u6 afF (j2 @bw @cr) (j5 @cq @cI @fN.eq_1 @aM.eq_1 @aW.eq_1) tv
  by_cases hx3:x=3
  ·refine⟨.mk [76,105,115,116] [w],p3,ab6 hw,bL (fn:=xQ) rfl rfl rfl rfl ?_⟩
   unfold xQ;simp(disch:=omega)only[gO,ab,simprocAttr,dL,AD,acW,ap0,aW,bw,cr,cq,dR,jR,nA,fN,aM,fI]
  ·refine⟨.mk [73,110,116] [],p1,tV aB,bL (fn:=xQ) rfl rfl rfl rfl ?_⟩
   unfold xQ;exact Ac dL dH @bw @cr (j5 @cq @cI @fN.eq_1 @aM.eq_1 @aW.eq_1) tv
def ja{t:Tm} : (aK t).length=8:=by rw[aj];rfl
theorem arc{t:Tm} : Tb (aK t)=true:=by
 grind [aj,W8,W7,adS,adU,adT]
theorem ah7 : wO 8 (aF l):=by
 rw[jZ];exact⟨fun r hr=>by simp only[List.mem_map] at hr;obtain⟨n,_,rfl⟩:=hr;exact ja,AR fun r hr=>by simp only[List.mem_map] at hr;obtain⟨n,_,rfl⟩:=hr;exact arc⟩
theorem TG{m:List Tm}(h:l.length+m.length<=100000000):aC false 8 136 (.slice (aF l) true) (.slice (aF m) o)=some (.slice (aF (l++m)) true):=by
 grind [xw,ah7,cx,jZ]
def aco{l:List Tm}{t:Tm}{o:Bool}(h:l.length<=10000000):aC false 8 136 (.slice (aF l) true) (.slice [[.int .i64 t.kind,.int .i64 t.n,.str t.name,.str t.field,.str t.wn,.slice (aM t.wk) false,.slice (aF t.kids) false,.slice (strs t.names) false]] o)=some (.slice (aF (l++[t])) true):=by
 have:=TG (l:=l) (m:=[t]) (o:=o) df
 rw[show aF [t]=[aK t] by simp[aF],aj] at this
 exact this
def ts0:aF []=[]:=by simp[aF]
def CX(c:Cc)(d:Nat):Prop:=∀ (p:Int) (H:aa),CH c p H->∃ t p',Bj 4 (d+1) t/\ai A 22 [.ref c.mm 0,.int .i64 d] H=some (.agg (aK t),some ⟨cT c p' H,c.mm⟩)
theorem Jq{c:Cc}(hS:CX c d)(jA:Int)(h0:0<=jA/\jA<=1000)(p:Int)(H:aa)(h:CH c p H) :
  ∃ l p',(l.length:Int)<=jA/\(∀ t∈l,Bj 4 (d+1) t)/\ai A 53 [.ref c.mm 0,.int .i64 d,.int .i64 jA] H=some (.slice (aF l) false,some ⟨cT c p' H,c.mm⟩):=by
 have key:∃ r,ai A 53 [.ref c.mm 0,.int .i64 d,.int .i64 jA] H=some r/\∃ l p',(l.length:Int)<=jA/\(∀ t∈l,Bj 4 (d+1) t)/\r=(.slice (aF l) false,some ⟨cT c p' H,c.mm⟩):=by
  obtain⟨x,p1,CC,od,dL⟩:=mU h (jA+1) af;have aP:=h.lt;refine nQ (fn:=agk) rfl rfl rfl rfl ?_;unfold agk;refine Lx dL ?_;refine bK x.toNat 0 (fun i s=>∃ T p1 acc,s=⟨T,cT c p1 H,c.mm,0⟩/\T 0=.ref c.mm 0/\T 1=.int .i64 d/\T 7=.slice (aF acc) true/\T 8=.int .i64 x/\T 9=.int .i64 i/\acc.length=i/\∀ t∈acc,Bj 4 (d+1) t)
   (fun s=>∃ T p1 acc,s=⟨T,cT c p1 H,c.mm,0⟩/\T 7=.slice (aF acc) true/\(acc.length:Int)<=jA/\∀ t∈acc,Bj 4 (d+1) t) (fun _=>False) ?_ ?_ (fun _ h=>h.elim) 0 _ af ?_
  ·rintro i s hi ⟨T,p1,acc,rfl,e0,e1,e7,e8,e9,hl,hb⟩
   by_cases hc:(i:Int)<x
   ·obtain⟨t,p2,ht,kj⟩:=hS p1 (cT c p1 H) h.set
    rw[aZ,aj] at kj;refine l8 e0 e1 e7 e8 e9 (j2 kj @aco) ?_;exact⟨af,_,p2,acc++[t],rfl,cV e0,cV e1,dS,cV e8,dS,by simp[hl],fun u hu=>by
     rcases aw9.1 hu with hu|hu
     ·exact hb u hu
     ·rw[axi.1 hu];exact ht⟩
   ·refine qx e8 e9 ?_
    exact⟨_,p1,acc,rfl,e7,af,hb⟩
  ·rintro s ⟨T,p1,acc,rfl,e7,hl,hb⟩
   have dH:=h.jj (p':=p1);refine Ac e7 dH @bw @aha @LC ?_
   grind
  ·exact⟨_,p1,[],rfl,by simp(disch:=omega)only[gO,ab,simprocAttr,ts0];simp⟩
 grind
def lO{h:Nat} : F4 h (.mk [] []):=tV aB
def zS{a b:Int}(h:0<=a):a.tdiv b=a / b:=ay5 h
def jV{a b:Int}(h:0<=a):a.tmod b=a % b:=axU h
def jU{h:Nat}{n:Int}(h1:-2199023255552<=n/\n<=2199023255552)(hk:0<=k/\k<=100)(h2:a.length<=1100000):Bj 4 (h+1) (.mk k n a [] [] [] [] []) :=
 .mk h k n a [] [] [] [] [] h1 af ⟨h2,aB⟩ lO aB ae ⟨aB,ae⟩
def lt4(h0:0<=x)(h1:x<4):x=0\/x=1\/x=2\/x=3:=af
def lt2(h0:0<=x)(h1:x<2):x=0\/x=1:=af
def anb{c:Cc} : CX c 0:=by
 intro p H h;obtain⟨x,p1,CC,od,dL⟩:=mU h 24 af;have hm:0<=x % 5/\x % 5<5:=af;have aP:=h.lt
 by_cases c0:x % 5=0
 ·obtain⟨y,p2,y0,y1,gC⟩:=mU (h.set (p':=p1)) 30 af
  rw[aZ] at gC;have dH:=h.jj (p':=p2);refine⟨.mk 0 (y-9) [] [] [] [] [] [],p2,jU af af aB,bL (fn:=dZ) rfl rfl rfl rfl ?_⟩;unfold dZ;exact vV dL gC dH (j3 c0 @jV @bw) (j5 @cr @dp @cq @cI @aj) tv
 by_cases c1:x % 5=1
 ·obtain⟨y,p2,y0,y1,gC⟩:=mU (h.set (p':=p1)) 4 af
  rw[aZ] at gC;have dH:=h.jj (p':=p2)
  rcases lt4 y0 y1 with rfl|rfl|rfl|rfl
  ·refine⟨.mk 0 0 [] [] [] [] [] [],p2,jU af af aB,bL (fn:=dZ) rfl rfl rfl rfl ?_⟩
   unfold dZ;exact vV dL gC dH (j3 c1 @jV @bw) (j5 @cr @dp @cq @cI @aj) tv
  ·refine⟨.mk 0 1099511627776 [] [] [] [] [] [],p2,jU af af aB,bL (fn:=dZ) rfl rfl rfl rfl ?_⟩
   unfold dZ;exact vV dL gC dH (j3 c1 @jV @bw) (j5 @cr @dp @cq @cI @aj) tv
  ·refine⟨.mk 0 (-1099511627776) [] [] [] [] [] [],p2,jU af af aB,bL (fn:=dZ) rfl rfl rfl rfl ?_⟩
   unfold dZ;exact vV dL gC dH (j3 c1 @jV @bw) (j5 @cr @dp @cq @cI @aj) tv
  ·refine⟨.mk 0 10 [] [] [] [] [] [],p2,jU af af aB,bL (fn:=dZ) rfl rfl rfl rfl ?_⟩
   unfold dZ;exact vV dL gC dH (j3 c1 @jV @bw) (j5 @cr @dp @cq @cI @aj) tv
 by_cases c2:x % 5=2
 ·obtain⟨y,p2,y0,y1,gC⟩:=mU (h.set (p':=p1)) 2 af
  rw[aZ] at gC;have dH:=h.jj (p':=p2);refine⟨.mk 1 y [] [] [] [] [] [],p2,jU af af aB,bL (fn:=dZ) rfl rfl rfl rfl ?_⟩;unfold dZ;exact vV dL gC dH (j3 c2 @jV @bw) (j5 @cr @dp @cq @cI @aj) tv
 obtain⟨s,p2,sh,gC⟩:=oO (h.set (p':=p1));have sl:=iT _ sh;rw[aZ] at gC;have dH:=h.jj (p':=p2);refine⟨.mk 2 0 s [] [] [] [] [],p2,jU af af af,bL (fn:=dZ) rfl rfl rfl rfl ?_⟩;unfold dZ;exact vV dL gC dH (j2 @jV @bw) (j5 @cr @dp @cq @cI @aj) tv
def aat{P:Tm->Prop}{a:Tm}(h:P a):∀ t∈[a],P t:=fun t ht=>by rw[axi.1 ht];exact h
theorem Ca{P:Tm->Prop}{a:Tm}(h:P a)(h2:P b):∀ t∈[a,b],P t:=fun t ht=>by
 grind
theorem al6{P:Tm->Prop}{a d:Tm}(h:P a)(h2:P b)(h3:P d):∀ t∈[a,b,d],P t:=fun t ht=>by
 grind
def oD:(0:Nat)<=4/\∀ s∈([]:List av),s.length<=1100000:=⟨aB,ae⟩
def ma{h:Nat}{n:Int}{f wn:av}{wk:List Wd}{ks:List Tm}{ns:List av}(h5:∀ t∈ks,Bj 4 h t)(h4:ks.length<=3)(h1:-2199023255552<=n/\n<=2199023255552)(hk:0<=k/\k<=100)(h2:a.length<=1100000/\f.length<=1100000)
  (h3:F4 3 (.mk wn wk)) (h6:ns.length<=4/\∀ s∈ns,s.length<=1100000):Bj 4 (h+1) (.mk k n a f wn wk ks ns):=.mk h k n a f wn wk ks ns h1 af h2 h3 h4 h5 h6
def XY{d':Nat} : ∀ {w:Wd},d<=d'->F4 d w->F4 d' w:=by
 induction d generalizing d' with
 | zero =>
  intro w _ h;cases d' with
  | zero=>exact h
  | succ d'=>exact⟨h.1,by rw[h.2];simp,by rw[h.2];simp⟩
 | succ d ih =>
  intro w hd h;cases d' with
  | zero=>omega
  | succ d'=>exact⟨h.1,h.2.1,fun k hk=>ih af (h.2.2 k hk)⟩
def anc{c:Cc}(ih:CX c d){H:aa}(h:CH c p H)(dL:ai A 18 [.ref c.mm 0,.int .i64 24] H=some (.int .i64 9,some ⟨cT c p1 H,c.mm⟩))(hd:d<=100) :
  ∃ t p',Bj 4 (d+1+1) t/\ai A 22 [.ref c.mm 0,.int .i64 ((d+1:Nat):Int)] H=some (.agg (aK t),some ⟨cT c p' H,c.mm⟩):=by
 have key:∃ r,ai A 22 [.ref c.mm 0,.int .i64 ((d+1:Nat):Int)] H=some r/\∃ t p',Bj 4 (d+1+1) t/\r=(.agg (aK t),some ⟨cT c p' H,c.mm⟩):=by
  have aP:=h.lt;have AD:(d:Int)+1-1=d:=af;obtain⟨l,p2,ln,lh,gC⟩:=Jq ih 2 af p1 (cT c p1 H) h.set;rw[aZ] at gC;refine nQ (fn:=dZ) rfl rfl rfl rfl ?_;unfold dZ;refine ry dL gC AD ?_;refine bK l.length 1 (fun i s=>∃ T p3 acc,s=⟨T,cT c p3 H,c.mm,1⟩/\T 0=.ref c.mm 0/\T 4=.lbox 0 [.int .i64 0,.int .i64 0,.str [],.str [],.str [],.al,.al,.al]/\T 6=.slice (aF l) false/\T 7=.slice (strs acc) true/\T 8=.int .i64 i/\acc.length=i/\∀ s∈acc,s.length<=1100000)
   (fun s=>∃ T p3 acc,s=⟨T,cT c p3 H,c.mm,1⟩/\T 0=.ref c.mm 0/\T 4=.lbox 0 [.int .i64 0,.int .i64 0,.str [],.str [],.str [],.al,.al,.al]/\T 6=.slice (aF l) false/\T 7=.slice (strs acc) true/\acc.length<=l.length/\∀ s∈acc,s.length<=1100000) (fun _=>False) ?_ ?_ (fun _ h=>h.elim) 0 _ af ?_
  ·rintro i s hi ⟨T,p3,acc,rfl,e0,e4,e6,e7,e8,hl,hb⟩
   by_cases hc:i<l.length
   ·obtain⟨s,p4,hs,rR⟩:=oO (h.set (p':=p3))
    rw[aZ] at rR;have qu:=iT s hs;have DA:aC false 1 16 (.slice (strs acc) true) (.slice [[.str s]] true)=some (.slice (strs (acc++[s])) true):=fM af;refine l8 e0 e6 e7 e8 @cx (j2 rR DA) ?_;refine⟨af,_,p4,acc++[s],rfl,cV e0,cV e4,cV e6,dS,dS,by simp[hl],fun u hu=>?_⟩
    rcases aw9.1 hu with hu|hu
    ·exact hb u hu
    ·rw[axi.1 hu];omega
   ·refine ry e6 e8 @cx ?_
    exact⟨_,p3,acc,rfl,e0,e4,e6,e7,af,hb⟩
  ·rintro s ⟨T,p3,acc,rfl,e0,e4,e6,e7,hl,hb⟩
   obtain⟨s,p4,hs,u6⟩:=xW (h.set (p':=p3));rw[aZ] at u6;have dH:=h.jj (p':=p4);refine l8 e0 e4 e6 (j2 e7 u6) (j5 dH @bw @cr @dp @cq) (j5 @cI @dR @LC @D6 @aW.eq_1) ?_;exact⟨.mk 7 0 s [] [] [] l acc,p4,ma lh af af af ⟨hs,aB⟩ lO ⟨af,hb⟩,by simp only[aK,aM];exact⟨trivial,trivial⟩⟩
  ·exact⟨_,p2,[],rfl,by simp(disch:=omega)only[gO,ab,simprocAttr,strs];simp⟩
 obtain⟨r,h1,t,p',h2,rfl⟩:=key;exact⟨t,p',h2,h1⟩
def aej{t u:Tm}(h:l.length<=1000):aC false 8 136 (.slice [[.int .i64 t.kind,.int .i64 t.n,.str t.name,.str t.field,.str t.wn,.slice (aM t.wk) false,.slice (aF t.kids) false,.slice (strs t.names) false],[.int .i64 u.kind,.int .i64 u.n,.str u.name,.str u.field,.str u.wn,.slice (aM u.wk) false,.slice (aF u.kids) false,.slice (strs u.names) false]] true) (.slice (aF l) o)=some (.slice (aF ([t,u]++l)) true):=by
 have:=TG (l:=[t,u]) (m:=l) (o:=o) df
 rw[show aF [t,u]=[aK t,aK u] by simp[aF],aj t,aj u] at this
 exact this
def MK{l:List av}{b:av}(h:l.length<=1000):aC false 1 16 (.slice (strs l) true) (.slice [[.str a],[.str b]] o)=some (.slice (strs (l++[a,b])) true):=ca (m:=[a,b]) df
def ah'{c:Cc}(ih:CX c d){H:aa}(h:CH c p H)(dL:ai A 18 [.ref c.mm 0,.int .i64 24] H=some (.int .i64 12,some ⟨cT c p1 H,c.mm⟩))(hd:d<=100) :
  ∃ t p',Bj 4 (d+1+1) t/\ai A 22 [.ref c.mm 0,.int .i64 ((d+1:Nat):Int)] H=some (.agg (aK t),some ⟨cT c p' H,c.mm⟩):=by
 have key:∃ r,ai A 22 [.ref c.mm 0,.int .i64 ((d+1:Nat):Int)] H=some r/\∃ t p',Bj 4 (d+1+1) t/\r=(.agg (aK t),some ⟨cT c p' H,c.mm⟩):=by
  have aP:=h.lt;have AD:(d:Int)+1-1=d:=af;obtain⟨t,p2,th,gC⟩:=ih p1 (cT c p1 H) h.set;rw[aZ,aj] at gC;obtain⟨u,p3,uh,pG⟩:=ih p2 (cT c p2 H) h.set;rw[aZ,aj] at pG;obtain⟨l,p4,ln,lh,wE⟩:=Jq ih 1 af p3 (cT c p3 H) h.set;rw[aZ] at wE;have DA:=aej (t:=t) (u:=u) (l:=l) (o:=false) af;have S3:∀ s∈[t,u]++l,Bj 4 (d+1) s:=fun s hs=>by
   rcases aw9.1 hs with hs|hs
   ·exact Ca (P:=Bj 4 (d+1)) th uh s hs
   ·exact lh s hs
  obtain⟨k,hk⟩:∃ k,k=[t,u]++l:=⟨_,rfl⟩;have Gf:2<=k.length/\k.length<=3:=by rw[hk];simp;omega
  rw[<- hk] at DA S3;refine nQ (fn:=dZ) rfl rfl rfl rfl ?_;unfold dZ;refine l8 dL gC pG wE AD DA ?_;refine bK (k.length-1) 3 (fun i s=>∃ T p3 acc,s=⟨T,cT c p3 H,c.mm,1⟩/\T 0=.ref c.mm 0/\T 4=.lbox 0 [.int .i64 0,.int .i64 0,.str [],.str [],.str [],.al,.al,.al]/\T 9=.slice (aF k) true/\T 10=.slice (strs acc) true/\T 11=.int .i64 (i+1)/\acc.length=2*i/\∀ s∈acc,s.length<=1100000)
   (fun s=>∃ T p3 acc,s=⟨T,cT c p3 H,c.mm,1⟩/\T 0=.ref c.mm 0/\T 4=.lbox 0 [.int .i64 0,.int .i64 0,.str [],.str [],.str [],.al,.al,.al]/\T 9=.slice (aF k) true/\T 10=.slice (strs acc) true/\acc.length<=4/\∀ s∈acc,s.length<=1100000) (fun _=>False) ?_ ?_ (fun _ h=>h.elim) 0 _ af ?_
  ·rintro i s hi ⟨T,p3,acc,rfl,e0,e4,e9,zY,e11,hl,hb⟩
   by_cases hc:i+1<k.length
   ·obtain⟨a,p4,ha,rR⟩:=oO (h.set (p':=p3))
    rw[aZ] at rR;have S3:=iT a ha;obtain⟨b,p5,kG,Vj⟩:=oO (h.set (p':=p4));rw[aZ] at Vj;have yZ:=iT b kG;have aki:aC false 1 16 (.slice (strs acc) true) (.slice [[.str a],[.str b]] true)=some (.slice (strs (acc++[a,b])) true):=MK af;refine l8 e0 e9 zY e11 @cx (j3 rR Vj aki) ?_;refine⟨af,_,p5,acc++[a,b],rfl,cV e0,cV e4,cV e9,dS,dS,by simp[hl];omega,fun u hu=>?_⟩
    rcases aw9.1 hu with hu|hu
    ·exact hb u hu
    ·rcases axs.1 hu with rfl|hu
     ·omega
     ·rw[axi.1 hu];omega
   ·refine ry e9 e11 @cx ?_
    exact⟨_,p3,acc,rfl,e0,e4,e9,zY,af,hb⟩
  ·rintro s ⟨T,p3,acc,rfl,e0,e4,e9,zY,hl,hb⟩
   obtain⟨s,p4,hs,u6⟩:=xW (h.set (p':=p3));rw[aZ] at u6;have dH:=h.jj (p':=p4);refine l8 e0 e4 e9 (j2 zY u6) (j5 dH @bw @cr @dp @cq) (j5 @cI @dR @LC @D6 @aW.eq_1) ?_;exact⟨.mk 10 0 s [] [] [] k acc,p4,ma S3 af af af ⟨hs,aB⟩ lO ⟨af,hb⟩,by simp only[aK,aM];exact⟨trivial,trivial⟩⟩
  ·exact⟨_,p4,[],rfl,by simp(disch:=omega)only[gO,ab,simprocAttr,strs];simp⟩
 obtain⟨r,h1,t,p',h2,rfl⟩:=key;exact⟨t,p',h2,h1⟩
def ane{c:Cc}(hd:d<=100)(ih:CX c d):CX c (d+1):=by
 intro p H h;obtain⟨x,p1,CC,od,dL⟩:=mU h 24 af;have aP:=h.lt;have AD:(d:Int)+1-1=d:=af
 by_cases c0:x=0
 ·obtain⟨y,p2,y0,y1,gC⟩:=mU (h.set (p':=p1)) 30 af
  rw[aZ] at gC;have dH:=h.jj (p':=p2);refine⟨.mk 0 (y-9) [] [] [] [] [] [],p2,jU af af aB,bL (fn:=dZ) rfl rfl rfl rfl ?_⟩;unfold dZ;exact vV dL gC dH (j2 c0 @bw) (j5 @cr @dp @cq @cI @aj) tv
 by_cases c1:x=1
 ·obtain⟨y,p2,y0,y1,gC⟩:=mU (h.set (p':=p1)) 4 af
  rw[aZ] at gC;have dH:=h.jj (p':=p2)
  rcases lt4 y0 y1 with rfl|rfl|rfl|rfl
  ·refine⟨.mk 0 0 [] [] [] [] [] [],p2,jU af af aB,bL (fn:=dZ) rfl rfl rfl rfl ?_⟩
   unfold dZ;exact vV dL gC dH (j2 c1 @bw) (j5 @cr @dp @cq @cI @aj) tv
  ·refine⟨.mk 0 1099511627776 [] [] [] [] [] [],p2,jU af af aB,bL (fn:=dZ) rfl rfl rfl rfl ?_⟩
   unfold dZ;exact vV dL gC dH (j2 c1 @bw) (j5 @cr @dp @cq @cI @aj) tv
  ·refine⟨.mk 0 (-1099511627776) [] [] [] [] [] [],p2,jU af af aB,bL (fn:=dZ) rfl rfl rfl rfl ?_⟩
   unfold dZ;exact vV dL gC dH (j2 c1 @bw) (j5 @cr @dp @cq @cI @aj) tv
  ·refine⟨.mk 0 10 [] [] [] [] [] [],p2,jU af af aB,bL (fn:=dZ) rfl rfl rfl rfl ?_⟩
   unfold dZ;exact vV dL gC dH (j2 c1 @bw) (j5 @cr @dp @cq @cI @aj) tv
 by_cases c2:x=2
 ·obtain⟨y,p2,y0,y1,gC⟩:=mU (h.set (p':=p1)) 2 af
  rw[aZ] at gC;have dH:=h.jj (p':=p2);refine⟨.mk 1 y [] [] [] [] [] [],p2,jU af af aB,bL (fn:=dZ) rfl rfl rfl rfl ?_⟩;unfold dZ;exact vV dL gC dH (j2 c2 @bw) (j5 @cr @dp @cq @cI @aj) tv
 by_cases c5:x=5
 ·obtain⟨s,p2,sl,gC⟩:=xW (h.set (p':=p1))
  rw[aZ] at gC;obtain⟨l,p3,ln,lh,pG⟩:=Jq ih 3 af p2 (cT c p2 H) h.set;rw[aZ] at pG;have dH:=h.jj (p':=p3);refine⟨.mk 3 0 s [] [] [] l [],p3,ma lh af af af ⟨sl,aB⟩ lO oD,bL (fn:=dZ) rfl rfl rfl rfl ?_⟩;unfold dZ;exact vV dL gC (j2 pG dH) (j5 c5 AD @bw @cr @dp) (j5 @cq @cI @dR @LC @aj) tv
 by_cases c6:x=6
 ·obtain⟨t,p2,th,gC⟩:=ih p1 (cT c p1 H) h.set
  rw[aZ,aj] at gC;obtain⟨u,p3,uh,pG⟩:=ih p2 (cT c p2 H) h.set;rw[aZ,aj] at pG;obtain⟨v,p4,vh,wE⟩:=ih p3 (cT c p3 H) h.set;rw[aZ,aj] at wE;have dH:=h.jj (p':=p4);refine⟨.mk 5 0 [] [] [] [] [t,u,v] [],p4,ma (al6 th uh vh) ae af af ⟨aB,aB⟩ lO oD,bL (fn:=dZ) rfl rfl rfl rfl ?_⟩;unfold dZ;exact vV dL gC (j5 pG wE dH c6 AD) (j5 @bw @cr @dp @cq @cI) (j5 @dR @kV @jR @nA @aj) tv
 by_cases c7:x=7
 ·obtain⟨s,p2,sh,gC⟩:=oO (h.set (p':=p1))
  have sl:=iT _ sh;rw[aZ] at gC;obtain⟨t,p3,th,pG⟩:=ih p2 (cT c p2 H) h.set;rw[aZ,aj] at pG;obtain⟨u,p4,uh,wE⟩:=ih p3 (cT c p3 H) h.set;rw[aZ,aj] at wE;have dH:=h.jj (p':=p4);refine⟨.mk 6 0 [] [] [] [] [t,u] [s],p4,ma (Ca th uh) ae af af ⟨aB,aB⟩ lO ⟨ae,df⟩,bL (fn:=dZ) rfl rfl rfl rfl ?_⟩;unfold dZ;exact vV dL gC (j5 pG wE dH c7 AD) (j5 @bw @cr @dp @cq @cI) (j5 @dR @kV @jR @nA @aj) tv
 by_cases c8:x=8
 ·obtain⟨s,p2,sh,gC⟩:=oO (h.set (p':=p1))
  have sl:=iT _ sh;rw[aZ] at gC;obtain⟨r,p3,rh,pG⟩:=oO (h.set (p':=p2));have rl:=iT _ rh;rw[aZ] at pG;obtain⟨t,p4,th,wE⟩:=ih p3 (cT c p3 H) h.set;rw[aZ,aj] at wE;obtain⟨u,p5,uh,hc5⟩:=ih p4 (cT c p4 H) h.set;rw[aZ,aj] at hc5;obtain⟨v,p6,vh,hc6⟩:=ih p5 (cT c p5 H) h.set;rw[aZ,aj] at hc6;have dH:=h.jj (p':=p6);refine⟨.mk 12 0 [] [] [] [] [t,u,v] [s,r],p6,ma (al6 th uh vh) ae af af ⟨aB,aB⟩ lO ⟨ae,df⟩,bL (fn:=dZ) rfl rfl rfl rfl ?_⟩;unfold dZ;exact vV dL (j3 gC pG wE) (j5 hc5 hc6 dH c8 AD) (j5 @bw @cr @dp @cq @cI) (j5 @dR @kV @jR @nA @aj) tv
 by_cases c10:x=10
 ·obtain⟨s,p2,sl,gC⟩:=xW (h.set (p':=p1))
  rw[aZ] at gC;obtain⟨r,p3,rh,pG⟩:=oO (h.set (p':=p2));have rl:=iT _ rh;rw[aZ] at pG;obtain⟨t,p4,th,wE⟩:=ih p3 (cT c p3 H) h.set;rw[aZ,aj] at wE;have dH:=h.jj (p':=p4);refine⟨.mk 8 0 s r [] [] [t] [],p4,ma (aat th) ae af af ⟨sl,af⟩ lO oD,bL (fn:=dZ) rfl rfl rfl rfl ?_⟩;unfold dZ;exact vV dL gC (j5 pG wE dH c10 AD) (j5 @bw @cr @dp @cq @cI) (j5 @dR @kV @jR @nA @aj) tv
 by_cases c11:x=11
 ·obtain⟨s,p2,sl,gC⟩:=xW (h.set (p':=p1))
  rw[aZ] at gC;obtain⟨r,p3,rh,pG⟩:=oO (h.set (p':=p2));have rl:=iT _ rh;rw[aZ] at pG;obtain⟨t,p4,th,wE⟩:=ih p3 (cT c p3 H) h.set;rw[aZ,aj] at wE;have dH:=h.jj (p':=p4);refine⟨.mk 9 0 s r [] [] [t] [],p4,ma (aat th) ae af af ⟨sl,af⟩ lO oD,bL (fn:=dZ) rfl rfl rfl rfl ?_⟩;unfold dZ;exact vV dL gC (j5 pG wE dH c11 AD) (j5 @bw @cr @dp @cq @cI) (j5 @dR @kV @jR @nA @aj) tv
 by_cases c13:x=13
 ·obtain⟨w,p2,wh,gC⟩:=Li 2 p1 (cT c p1 H) af h.set
  rw[aZ,fI] at gC;rw[show ((2:Nat):Int)=2 from rfl] at gC
  obtain⟨l,p3,ln,lh,pG⟩:=Jq ih 3 af p2 (cT c p2 H) h.set;rw[aZ] at pG;have dH:=h.jj (p':=p3);refine⟨.mk 11 0 [] [] w.name w.kids l [],p3,ma lh af af af ⟨aB,aB⟩ (by cases w;exact XY af wh) oD,bL (fn:=dZ) rfl rfl rfl rfl ?_⟩
  unfold dZ;exact vV dL gC (j3 pG dH c13) (j5 AD @bw @cr @dp @cq) (j5 @cI @dR @LC @aaG @aj) tv
 by_cases c14:x=14
 ·obtain⟨y,p2,y0,y1,gC⟩:=mU (h.set (p':=p1)) 2 af
  rw[aZ] at gC;obtain⟨t,p3,th,pG⟩:=ih p2 (cT c p2 H) h.set;rw[aZ,aj] at pG;have dH:=h.jj (p':=p3)
  rcases lt2 y0 y1 with rfl|rfl
  ·refine⟨.mk 4 9 [] [] [] [] [t] [],p3,ma (aat th) ae af af ⟨aB,aB⟩ lO oD,bL (fn:=dZ) rfl rfl rfl rfl ?_⟩
   unfold dZ;exact vV dL gC (j4 pG dH c14 AD) (j5 @bw @cr @dp @cq @cI) (j5 @dR @kV @jR @nA @aj) tv
   first|done|rfl
  ·refine⟨.mk 4 11 [] [] [] [] [t] [],p3,ma (aat th) ae af af ⟨aB,aB⟩ lO oD,bL (fn:=dZ) rfl rfl rfl rfl ?_⟩
   unfold dZ;exact vV dL gC (j4 pG dH c14 AD) (j5 @bw @cr @dp @cq @cI) (j5 @dR @kV @jR @nA @aj) tv
   first|done|rfl
 by_cases c9:x=9
 ·subst c9;exact anc ih h dL hd
 by_cases c12:x=12
 ·subst c12;exact ah' ih h dL hd
 by_cases c15:14<x
 ·obtain⟨y,p2,y0,y1,gC⟩:=mU (h.set (p':=p1)) 10 af
  rw[aZ] at gC;obtain⟨t,p3,th,pG⟩:=ih p2 (cT c p2 H) h.set;rw[aZ,aj] at pG;obtain⟨u,p4,uh,wE⟩:=ih p3 (cT c p3 H) h.set;rw[aZ,aj] at wE;have dH:=h.jj (p':=p4);have hy:y=0\/y=1\/y=2\/y=3\/y=4\/y=5\/y=6\/y=7\/y=8\/y=9:=af
  rcases hy with rfl|rfl|rfl|rfl|rfl|rfl|rfl|rfl|rfl|rfl
  ·refine⟨.mk 4 0 [] [] [] [] [t,u] [],p4,ma (Ca th uh) ae af af ⟨aB,aB⟩ lO oD,bL (fn:=dZ) rfl rfl rfl rfl ?_⟩
   unfold dZ;exact vV dL gC (j4 pG wE dH AD) (j5 @bw @cr @dp @cq @cI) (j5 @dR @kV @jR @nA @aj) tv
  ·refine⟨.mk 4 1 [] [] [] [] [t,u] [],p4,ma (Ca th uh) ae af af ⟨aB,aB⟩ lO oD,bL (fn:=dZ) rfl rfl rfl rfl ?_⟩
   unfold dZ;exact vV dL gC (j4 pG wE dH AD) (j5 @bw @cr @dp @cq @cI) (j5 @dR @kV @jR @nA @aj) tv
  ·refine⟨.mk 4 2 [] [] [] [] [t,u] [],p4,ma (Ca th uh) ae af af ⟨aB,aB⟩ lO oD,bL (fn:=dZ) rfl rfl rfl rfl ?_⟩
   unfold dZ;exact vV dL gC (j4 pG wE dH AD) (j5 @bw @cr @dp @cq @cI) (j5 @dR @kV @jR @nA @aj) tv
  ·refine⟨.mk 4 3 [] [] [] [] [t,u] [],p4,ma (Ca th uh) ae af af ⟨aB,aB⟩ lO oD,bL (fn:=dZ) rfl rfl rfl rfl ?_⟩
   unfold dZ;exact vV dL gC (j4 pG wE dH AD) (j5 @bw @cr @dp @cq @cI) (j5 @dR @kV @jR @nA @aj) tv
  ·refine⟨.mk 4 4 [] [] [] [] [t,u] [],p4,ma (Ca th uh) ae af af ⟨aB,aB⟩ lO oD,bL (fn:=dZ) rfl rfl rfl rfl ?_⟩
   unfold dZ;exact vV dL gC (j4 pG wE dH AD) (j5 @bw @cr @dp @cq @cI) (j5 @dR @kV @jR @nA @aj) tv
  ·refine⟨.mk 4 5 [] [] [] [] [t,u] [],p4,ma (Ca th uh) ae af af ⟨aB,aB⟩ lO oD,bL (fn:=dZ) rfl rfl rfl rfl ?_⟩
   unfold dZ;exact vV dL gC (j4 pG wE dH AD) (j5 @bw @cr @dp @cq @cI) (j5 @dR @kV @jR @nA @aj) tv
  ·refine⟨.mk 4 6 [] [] [] [] [t,u] [],p4,ma (Ca th uh) ae af af ⟨aB,aB⟩ lO oD,bL (fn:=dZ) rfl rfl rfl rfl ?_⟩
   unfold dZ;exact vV dL gC (j4 pG wE dH AD) (j5 @bw @cr @dp @cq @cI) (j5 @dR @kV @jR @nA @aj) tv
  ·refine⟨.mk 4 7 [] [] [] [] [t,u] [],p4,ma (Ca th uh) ae af af ⟨aB,aB⟩ lO oD,bL (fn:=dZ) rfl rfl rfl rfl ?_⟩
   unfold dZ;exact vV dL gC (j4 pG wE dH AD) (j5 @bw @cr @dp @cq @cI) (j5 @dR @kV @jR @nA @aj) tv
  ·refine⟨.mk 4 8 [] [] [] [] [t,u] [],p4,ma (Ca th uh) ae af af ⟨aB,aB⟩ lO oD,bL (fn:=dZ) rfl rfl rfl rfl ?_⟩
   unfold dZ;exact vV dL gC (j4 pG wE dH AD) (j5 @bw @cr @dp @cq @cI) (j5 @dR @kV @jR @nA @aj) tv
  ·refine⟨.mk 4 10 [] [] [] [] [t,u] [],p4,ma (Ca th uh) ae af af ⟨aB,aB⟩ lO oD,bL (fn:=dZ) rfl rfl rfl rfl ?_⟩
   unfold dZ;exact vV dL gC (j4 pG wE dH AD) (j5 @bw @cr @dp @cq @cI) (j5 @dR @kV @jR @nA @aj) tv
 have avc:x=3\/x=4:=af;obtain⟨s,p2,sh,gC⟩:=oO (h.set (p':=p1));have sl:=iT _ sh;rw[aZ] at gC;have dH:=h.jj (p':=p2);refine⟨.mk 2 0 s [] [] [] [] [],p2,jU af af af,bL (fn:=dZ) rfl rfl rfl rfl ?_⟩;unfold dZ;exact vV dL gC dH @bw (j5 @cr @dp @cq @cI @aj) tv
def aU:av->av × av × Bool
 | []=>([],[],false)
 | b :: r=>if b.toNat=46 then ([],r,true) else (b :: (aU r).1,(aU r).2.1,(aU r).2.2)
theorem uT:∀ {s:av},(aU s).2.2=false->aU s=(s,[],false)
 | [],_=>rfl
 | b :: r,h=>by
  unfold aU at h ⊢;split at h
  ·cases h
  ·rename_i hb
   rw[if_neg hb,uT h]
def Po(s:av)(H:aa)(hs:s.length<=10000000):ai A 122 [.str s] H=some (.tuple [.str (aU s).1,.str (aU s).2.1,.bool (aU s).2.2],none):=by
 refine cW adq.eq_1 ?_;refine Lw ?_;refine bK s.length 0 (fun i=>Hd (fun T=>T 0=.str s/\T 5=.int .i64 i/\aU s=(s.take i++(aU (s.drop i)).1,(aU (s.drop i)).2.1,(aU (s.drop i)).2.2)) H H.length 0)
  (Hd (fun T=>T 0=.str s/\aU s=(s,[],false)) H H.length 0) (Hd (fun T=>T 2=.str (aU s).1/\T 3=.str (aU s).2.1/\T 4=.bool (aU s).2.2) H H.length 0) ?_ ?_ ?_ 0 _ (axh _) ?_
 ·rintro i st hi gP
  obtain⟨T,rfl,h0,h5,hc⟩:=gP.out
  by_cases h:i<s.length
  ·have hx:=aw3 h
   have hd:=axk h;generalize s[i]=b at hx hd;have yZ:b.toNat<256:=azH b
   by_cases b46:b.toNat=46
   ·have e:aU (s.drop i)=([],s.drop (i+1),true):=by rw[hd,aU,if_pos b46]
    rw[e] at hc;simp only[List.append_nil] at hc;refine nO4 h0 h5 hx hc ?_;rw[axz]
   ·have e:aU (s.drop i)=(b :: (aU (s.drop (i+1))).1,(aU (s.drop (i+1))).2.1,(aU (s.drop (i+1))).2.2):=by rw[hd,aU,if_neg b46]
    rw[e] at hc;have mD:s.take (i+1)=s.take i++[b]:=by rw[ayr,hx];rfl
    refine nO3 h0 h5 hx ?_;exact⟨h,by rw[hc,mD];simp⟩
  ·have e:s.drop i=[]:=List.drop_eq_nil_of_le af
   rw[e,aU,axy af] at hc;simp only[List.append_nil] at hc;refine Wt h0 h5 ?_;exact hc
 ·rintro st gP
  obtain⟨T,rfl,h0,hc⟩:=gP.out;exact XX h0 hc
 ·rintro st gP
  obtain⟨T,rfl,h2,h3,h4⟩:=gP.out;exact vO3 h2 h3 h4
 ·exact dS
def pV:∀ s:av,(aU s).1.length<=s.length/\(aU s).2.1.length<=s.length
 | []=>⟨Nat.le_refl _,Nat.le_refl _⟩
 | b :: r=>by
  have:=pV r
  unfold aU;split
  ·exact⟨ae,ae⟩
  ·exact⟨iA,iA⟩
def gK(s:av):Bool:=isWord (aU s).1&&(!(aU s).2.2 || isWord (aU s).2.1)
def aL(s:av):List av:=if (aU s).2.2=true then [(aU s).1,[46],(aU s).2.1] else [(aU s).1]
def WV(s:av)(H:aa)(hs:s.length<=10000000):ai A 120 [.str s] H=some (.bool (gK s),none):=by
 have hf:=Po s H hs;obtain⟨l1,l2⟩:=pV s;refine cW adp.eq_1 ?_;have w1:=qW (aU s).1 H af;have w2:=qW (aU s).2.1 H af;unfold gK;cases h1:isWord (aU s).1<;>cases h2:(aU s).2.2<;>rw[h1] at w1<;>rw[h2] at hf<;>exact vO3 hf w1 w2
def wj(s:av)(H:aa)(hs:s.length<=10000000):ai A 88 [.str s] H=some (.slice (strs (aL s)) true,none):=by
 have hf:=Po s H hs;refine cW alM.eq_1 ?_;unfold aL;cases h2:(aU s).2.2<;>rw[h2] at hf<;>simp(disch:=omega)only[gO,ab,simprocAttr,hf,strs,reduceCtorEq,ayg]
def LA(l:List av)(H:aa)(hl:l.length<=10000000)(hs:∀ s∈l,s.length<=10000000):ai A 46 [.slice (strs l) false] H=some (.bool (l.all isWord),none):=by
 refine cW alz.eq_1 ?_;refine Lw ?_;refine bK l.length 0 (fun i=>Hd (fun T=>T 0=.slice (strs l) false/\T 3=.int .i64 i/\l.all isWord=(l.drop i).all isWord) H H.length 0)
  (Hd (fun T=>l.all isWord=true) H H.length 0) (Hd (fun T=>T 2=.bool false/\l.all isWord=false) H H.length 0) ?_ ?_ ?_ 0 _ (axh _) ?_
 ·rintro i st hi gP
  obtain⟨T,rfl,h0,h3,hc⟩:=gP.out
  by_cases h:i<l.length
  ·have hx:=aw3 h
   have hd:=axk h;have hm:=axn h;generalize l[i]=b at hx hd hm;have hw:=qW b H (by have:=hs b hm;omega)
   rw[hd,List.all_cons] at hc;have ft:=gY hx;cases hb:isWord b<;>rw[hb] at hw hc
   ·refine Ac h0 h3 @bu ft hw ?_
    rw[hc];rfl
   ·refine Ac h0 h3 @bu ft hw ?_
    exact⟨h,by rw[hc,axF]⟩
  ·have e:l.drop i=[]:=List.drop_eq_nil_of_le af
   rw[e,List.all_nil] at hc;refine nO3 h0 h3 @bu ?_;exact hc
 ·rintro st gP
  obtain⟨T,rfl,hc⟩:=gP.out;exact cV hc
 ·rintro st gP
  obtain⟨T,rfl,h2,hc⟩:=gP.out;exact XX h2 hc
 ·exact dS
abbrev cz:av:=[76,105,115,116]
abbrev Fz:av:=[73,110,116]
abbrev vt:av:=[66,111,111,108]
def bD:Wd->Bool
 | .mk n [k]=>if n=cz then bD k else false
 | .mk n []=>if n=cz then false else (n==Fz || n==vt || gK n)
 | .mk n _=>false
def bM:Wd->List av
 | .mk n [k]=>if n=cz then [cz,[40]]++bM k++[[41]] else (if n=Fz\/n=vt then [n] else aL n)
 | .mk n _=>if n=Fz\/n=vt then [n] else aL n
theorem AY:∀ (h:Nat) (w:Wd) (H:aa),F4 h w->ai A 86 [.agg (fN w)] H=some (.bool (bD w),none):=by
 have leaf:∀ (n:av) (H:aa),n.length<=1100000->ai A 86 [.agg (fN (.mk n []))] H=some (.bool (bD (.mk n [])),none):=by
  intro n H hn;have hq:=WV n H af;refine cW agt.eq_1 ?_;rw[fN,aM]
  by_cases h1:n=cz
  ·have e1:(n==[76,105,115,116])=true:=cJ h1
   simp(disch:=omega)only[dJ,ab,simprocAttr,e1,bD,if_pos h1]
  have e1:(n==[76,105,115,116])=false:=cJ h1
  by_cases h2:n=Fz
  ·have e2:(n==[73,110,116])=true:=cJ h2
   simp(disch:=omega)only[dJ,ab,simprocAttr,e1,e2,bD,if_neg h1]
  have e2:(n==[73,110,116])=false:=cJ h2
  by_cases h3:n=vt
  ·have e3:(n==[66,111,111,108])=true:=cJ h3
   simp(disch:=omega)only[dJ,ab,simprocAttr,e1,e2,e3,bD,if_neg h1]
  have e3:(n==[66,111,111,108])=false:=cJ h3;simp(disch:=omega)only[dJ,ab,simprocAttr,e1,e2,e3,hq,bD,if_neg h1]
 intro h
 induction h with
 | zero =>
  intro w H hw;obtain⟨n,ks⟩:=w;obtain⟨h1,h2⟩:=hw;simp only[Wd.kids,Wd.name] at h1 h2
  grind
 | succ h ih =>
  intro w H hw;obtain⟨n,ks⟩:=w;obtain⟨h1,h2,h3⟩:=hw;simp only[Wd.kids,Wd.name] at h1 h2 h3
  match ks,h2,h3 with
  | [],_,_=>exact leaf n H h1
  | [k],_,h3 =>
   have hk:=ih k H (h3 k ae);rw[fI] at hk;refine cW agt.eq_1 ?_;rw[fN,aM,aM,fI]
   by_cases h1:n=cz
   ·have e1:(n==[76,105,115,116])=true:=cJ h1
    simp(disch:=omega)only[dJ,ab,simprocAttr,e1,hk,bD,if_pos h1]
   ·have e1:(n==[76,105,115,116])=false:=cJ h1
    simp(disch:=omega)only[dJ,ab,simprocAttr,e1,bD,if_neg h1]
theorem lK(s:av):(aL s).length<=3:=by unfold aL;split<;>simp
theorem mW:∀ (h:Nat) (w:Wd),F4 h w->(bM w).length<=3*h+3
 | 0,.mk n ks,hw=>by
  obtain⟨_,h2⟩:=hw;simp only[Wd.kids] at h2;subst h2;unfold bM
  grind [lK]
 | h+1,.mk n [],_=>by
  unfold bM
  grind [lK]
 | h+1,.mk n [k],hw=>by
  have hk:=mW h k (hw.2.2 k (by simp[Wd.kids]))
  have:=lK n
  unfold bM
  grind
 | h+1,.mk n (a :: b :: r),hw=>by
  have:=hw.2.1
  simp[Wd.kids] at this
theorem JB:∀ (h:Nat) (w:Wd) (H:aa),h<=1000->F4 h w->bD w=true->ai A 48 [.agg (fN w)] H=some (.slice (strs (bM w)) true,none):=by
 have leaf:∀ (n:av) (H:aa),n.length<=1100000->bD (.mk n [])=true->ai A 48 [.agg (fN (.mk n []))] H=some (.slice (strs (bM (.mk n []))) true,none):=by
  intro n H hn hp;have hq:=wj n H af;have h1:n≠cz:=fun e=>by subst e;simp[bD] at hp
  have e1:(n==[76,105,115,116])=false:=cJ h1;refine cW agi.eq_1 ?_;rw[fN,aM]
  by_cases h2:n=Fz
  ·have e2:(n==[73,110,116])=true:=cJ h2
   simp(disch:=omega)only[dJ,ab,simprocAttr,e1,e2,bM,if_pos (Or.inl h2),strs]
  have e2:(n==[73,110,116])=false:=cJ h2
  by_cases h3:n=vt
  ·have e3:(n==[66,111,111,108])=true:=cJ h3
   simp(disch:=omega)only[dJ,ab,simprocAttr,e1,e2,e3,bM,if_pos (Or.inr h3),strs]
  have e3:(n==[66,111,111,108])=false:=cJ h3;simp(disch:=omega)only[dJ,ab,simprocAttr,e1,e2,e3,hq,bM,if_neg (show ¬ (n=Fz\/n=vt) from fun h=>h.elim h2 h3)]
 intro h
 induction h with
 | zero =>
  intro w H _ hw hp;obtain⟨n,ks⟩:=w;obtain⟨h1,h2⟩:=hw;simp only[Wd.kids,Wd.name] at h1 h2
  grind
 | succ h ih =>
  intro w H hh hw hp;obtain⟨n,ks⟩:=w;obtain⟨h1,h2,h3⟩:=hw;simp only[Wd.kids,Wd.name] at h1 h2 h3
  match ks,h2,h3,hp with
  | [],_,_,hp=>exact leaf n H h1 hp
  | [k],_,h3,hp =>
   have hl:n=cz:=by
    unfold bD at hp
    grind
   have oU:bD k=true:=by
    unfold bD at hp
    rwa [if_pos hl] at hp
   have hk:=ih k H af (h3 k ae) oU;have hlen:=mW h k (h3 k ae);rw[fI] at hk;have a1:aC false 1 16 (.slice [[.str [76,105,115,116]],[.str [40]]] true) (.slice (strs (bM k)) true)=some (.slice (strs ([cz,[40]]++bM k)) true):=ca (l:=[cz,[40]]) df;have a2:aC false 1 16 (.slice (strs ([cz,[40]]++bM k)) true) (.slice [[.str [41]]] true)=some (.slice (strs ([cz,[40]]++bM k++[[41]])) true):=fM df;have hw:bM (.mk n [k])=[cz,[40]]++bM k++[[41]]:=by rw[bM,if_pos hl]
   generalize [cz,[40]]++bM k=l1 at a1 a2 hw;have e1:(n==[76,105,115,116])=true:=cJ hl;refine cW agi.eq_1 ?_;rw[fN,aM,aM,fI];exact Hk e1 hk a1 a2 hw tv
def XA(h0:¬ x<0)(h1:¬ 11<x):x=0\/x=1\/x=2\/x=3\/x=4\/x=5\/x=6\/x=7\/x=8\/x=9\/x=10\/x=11:=by omega
def Jo(n:Int)(H:aa):ai A 91 [.int .i64 n] H=some (.tuple [.str (cD n).1,.int .i64 (cD n).2],none):=by
 refine cy (fn:=agu) rfl rfl rfl ?_;unfold agu
 by_cases h0:n<0
 ·have e:cD n=([],0):=by unfold cD;rw[if_pos (Or.inl h0)]
  exact My h0 e
 by_cases h1:11<n
 ·have e:cD n=([],0):=by unfold cD;rw[if_pos (Or.inr h1)]
  exact vK3 h0 h1 e
 rcases XA h0 h1 with rfl|rfl|rfl|rfl|rfl|rfl|rfl|rfl|rfl|rfl|rfl|rfl
 all_goals
  refine Ce ?_;rfl
def bo(t:Tm):Int:=if t.kind=5\/t.kind=6\/t.kind=12 then 0 else if t.kind=4 then (cD t.n).2 else 8
def aan(t:Tm)(H:aa):ai A 123 [.agg (aK t)] H=some (.int .i64 (bo t),none):=by
 have hs:=Jo t.n H;refine cy (fn:=VK) rfl rfl rfl ?_;unfold VK;rw[aj]
 by_cases h5:t.kind=5
 ·exact ry h5 true_or @bo.eq_1 tv
 by_cases h6:t.kind=6
 ·exact wK h6 true_or or_true @bo.eq_1 tv
 by_cases h12:t.kind=12
 ·exact ry h12 or_true @bo.eq_1 tv
 have hn:¬ (t.kind=5\/t.kind=6\/t.kind=12):=by omega
 by_cases h4:t.kind=4
 ·have e:bo t=(cD t.n).2:=by unfold bo;rw[if_neg hn,if_pos h4]
  exact vK3 h4 hs e
 ·have e:bo t=8:=by unfold bo;rw[if_neg hn,if_neg h4]
  exact n8 e
def bP(k n:Int)(len:Nat):Int × Int :=
 if k=0\/k=1\/k=2 then (0,0) else if k=3\/k=11 then (-1,0)
 else if k=4 then (if (cD n).1=[] then (-2,0) else if (cD n).2=7 then (1,0) else (2,0))
 else if k=5 then (3,0) else if k=6 then (2,1) else if k=7 then (-1,len) else if k=8\/k=9 then (1,0)
 else if k=10 then (if len<2 then (-2,0) else (-1,2*((len:Int)-1))) else if k=12 then (3,2) else (-2,0)
def tG(k:Int):k=0\/k=1\/k=2\/k=3\/k=4\/k=5\/k=6\/k=7\/k=8\/k=9\/k=10\/k=11\/k=12\/(k<0\/12<k):=by omega
theorem T9(t:Tm)(H:aa)(hl:t.kids.length<=1000):ai A 121 [.agg (aK t)] H=some (.tuple [.int .i64 (bP t.kind t.n t.kids.length).1,.int .i64 (bP t.kind t.n t.kids.length).2],none):=by
 have hs:=Jo t.n H;refine cy (fn:=VJ) rfl rfl rfl ?_;unfold VJ;rw[aj]
 rcases tG t.kind with h|h|h|h|h|h|h|h|h|h|h|h|h|h
 ·rw[h];simp(disch:=omega)only[dJ,ab,simprocAttr,cx];rfl
 ·rw[h];simp(disch:=omega)only[dJ,ab,simprocAttr,cx];rfl
 ·rw[h];simp(disch:=omega)only[dJ,ab,simprocAttr,cx];rfl
 ·rw[h];simp(disch:=omega)only[dJ,ab,simprocAttr,cx];rfl
 ·rw[h]
  by_cases h1:(cD t.n).1=[]
  ·have e1:((cD t.n).1==[])=true:=by rw[h1];rfl
   have e:bP 4 t.n t.kids.length=(-2,0):=by simp[bP,h1]
   rw[e];exact ry @cx hs e1 tv
  ·have e1:((cD t.n).1==[])=false:=by simpa using h1
   by_cases h2:(cD t.n).2=7
   ·have e:bP 4 t.n t.kids.length=(1,0):=by simp[bP,h1,h2]
    rw[e];exact wK @cx hs e1 h2 tv
   ·have e:bP 4 t.n t.kids.length=(2,0):=by simp[bP,h1,h2]
    rw[e];exact ry @cx hs e1 tv
 ·rw[h];simp(disch:=omega)only[dJ,ab,simprocAttr,cx];rfl
 ·rw[h];simp(disch:=omega)only[dJ,ab,simprocAttr,cx];rfl
 ·rw[h];simp(disch:=omega)only[dJ,ab,simprocAttr,cx];rfl
 ·rw[h];simp(disch:=omega)only[dJ,ab,simprocAttr,cx];rfl
 ·rw[h];simp(disch:=omega)only[dJ,ab,simprocAttr,cx];rfl
 ·rw[h]
  by_cases h1:t.kids.length<2
  ·have e:bP 10 t.n t.kids.length=(-2,0):=by simp[bP,h1]
   rw[e];exact P9 @cx tv
  ·have e:bP 10 t.n t.kids.length=(-1,2*((t.kids.length:Int)-1)):=by simp[bP,h1]
   rw[e];exact P9 @cx tv
 ·rw[h];simp(disch:=omega)only[dJ,ab,simprocAttr,cx];rfl
 ·rw[h];simp(disch:=omega)only[dJ,ab,simprocAttr,cx];rfl
 ·have e:bP t.kind t.n t.kids.length=(-2,0):=by
   unfold bP
   grind
  rw[e];exact P9 @cx tv
def US(h:j<8):∃ s:av,s.length<=7 /\
  ([[.str []],[.str [32]],[.str [10]],[.str [32,32]],[.str [35,32,97,32,40,98,10]],[.str [32,35,10,32]],[.str [10,10]],[.str [35,255,35,32,49,10]]]:List (List AV))[j]?=some [.str s]:=by
 have hj:j=0\/j=1\/j=2\/j=3\/j=4\/j=5\/j=6\/j=7:=af
 rcases hj with rfl|rfl|rfl|rfl|rfl|rfl|rfl|rfl<;>exact⟨_,aB,rfl⟩
def amc(h0:0<=x)(h1:x<8):∃ j:Nat,j<8/\x=j:=⟨x.toNat,af,af⟩
def acJ(n k:Int)(H:aa)(hn:CU n):∃ s:av,s.length<=1100000/\ai A 20 [.int .i64 n,.int .i64 k] H=some (.str s,none):=by
 have hr:=lD (n:=n) (k:=1000000) af;have ha:=rF n 1000000 H hn af;generalize mq n 1000000=x at hr ha;obtain⟨i,hi,ei⟩:=amc (x:=x % 8) af af;obtain⟨j,hj,ej⟩:=amc (x:=x / 8 % 8) af af;obtain⟨s,hs,ats⟩:=US hi;obtain⟨u,hu,atu⟩:=US hj;have key:∃ r,ai A 20 [.int .i64 n,.int .i64 k] H=some r/\∃ s:av,s.length<=1100000/\r=(.str s,none):=by
  refine uL (fn:=af9) rfl rfl rfl ?_;unfold af9
  by_cases h3:x % 3=0
  ·obtain⟨v,hv⟩:∃ v,v=s++u:=⟨_,rfl⟩
   have Yj:v.length<=14:=by rw[hv];simp;omega
   cases hb:(v==[]) with
   | false =>
    rw[hv] at hb;refine l8 ha @jV @zS ei ej (j4 ats atu h3 hb) ?_;exact⟨_,by rw[<- hv];omega,rfl⟩
   | true =>
    rw[hv] at hb
    by_cases hk:k=0
    ·refine l8 ha @jV @zS ei ej (j5 ats atu h3 hb hk) ?_
     exact⟨_,by rw[<- hv];omega,rfl⟩
    ·refine l8 ha @jV @zS ei ej (j4 ats atu h3 hb) ?_
     exact⟨[32],aB,rfl⟩
  ·cases hb:(s==[]) with
   | false =>
    refine Hk ha @jV ei ats hb ?_;exact⟨s,af,rfl⟩
   | true =>
    by_cases hk:k=0
    ·refine l8 ha @jV ei ats hb hk ?_
     exact⟨s,af,rfl⟩
    ·refine Hk ha @jV ei ats hb ?_
     exact⟨[32],aB,rfl⟩
 obtain⟨r,h1,s,h2,rfl⟩:=key;exact⟨s,h2,h1⟩
def aeF(h:j<4):∃ s:av,s.length<=1100000/\([[.str [10]],[.str [32,10]],[.str [35,32,120,10]],[.str [32,32,35,32,121,32,40,10]]]:List (List AV))[j]?=some [.str s]:=by
 have hj:j=0\/j=1\/j=2\/j=3:=af
 rcases hj with rfl|rfl|rfl|rfl<;>exact⟨_,aB,rfl⟩
def G7(h0:0<=x)(h1:x<1000000):CU x:=⟨af,af⟩
def Wb{c:Cc}{H:aa}(h:CH c p H)(n:Nat)(hn:n<=100000)(b:av)(hb:b.length<=1100000) :
  ∃ (out:List av) (p' : Int),out.length<=n+2/\(∀ s∈out,s.length<=1100000)/\ai A 19 [.ref c.mm 0,.int .i64 n,.str b] H=some (.slice (strs out) true,some ⟨cT c p' H,c.mm⟩):=by
 have key:∃ r,ai A 19 [.ref c.mm 0,.int .i64 n,.str b] H=some r/\∃ (out:List av) (p' : Int),out.length<=n+2/\(∀ s∈out,s.length<=1100000)/\r=(.slice (strs out) true,some ⟨cT c p' H,c.mm⟩):=by
  have aP:=h.lt;refine nQ (fn:=af8) rfl rfl rfl rfl ?_;unfold af8;refine Ce ?_;refine bK (n-1) 0 (fun i s=>∃ T G lo p3 acc,s=⟨T,G,lo,0⟩/\(G=H/\lo=H.length/\i=0\/G=cT c p3 H/\lo=c.mm)/\T 0=.ref c.mm 0/\T 1=.int .i64 n/\T 7=.slice (strs acc) true/\T 8=.int .i64 (i+1)/\acc.length=i+1/\∀ s∈acc,s.length<=1100000)
   (fun s=>∃ T G lo p3 acc,s=⟨T,G,lo,0⟩/\(G=H/\lo=H.length\/G=cT c p3 H/\lo=c.mm)/\T 0=.ref c.mm 0/\T 7=.slice (strs acc) true/\acc.length<=n+1/\∀ s∈acc,s.length<=1100000) (fun _=>False) ?_ ?_ (fun _ h=>h.elim) 0 _ af ?_
  ·rintro i s hi ⟨T,G,lo,p3,acc,rfl,hG,e0,e1,e7,e8,hl,hbd⟩
   by_cases hc:i+1<n
   ·have dL:∃ x p4,0<=x/\x<1000/\ai A 18 [.ref c.mm 0,.int .i64 1000] G=some (.int .i64 x,some ⟨cT c p4 H,c.mm⟩):=by
     rcases hG with ⟨rfl,rfl,rfl⟩|⟨rfl,rfl⟩
     ·exact mU h 1000 af
     ·obtain⟨x,p4,x0,x1,hx⟩:=mU (h.set (p':=p3)) 1000 af
      rw[aZ] at hx;exact⟨x,p4,x0,x1,hx⟩
    obtain⟨x,p4,x0,x1,dL⟩:=dL;obtain⟨g,hg,aps⟩:=acJ x 1 (cT c p4 H) (G7 x0 af);have DA:aC false 1 16 (.slice (strs acc) true) (.slice [[.str g]] true)=some (.slice (strs (acc++[g])) true):=fM af;have yp:(bif decide (c.mm<lo) then c.mm else lo)=c.mm:=by
     rcases hG with ⟨_,rfl,_⟩|⟨_,rfl⟩
     ·rw[decide_eq_true aP];rfl
     ·simp
    refine l8 e0 e1 e7 e8 dL (j3 aps DA yp) ?_;refine⟨af,_,_,_,p4,acc++[g],rfl,.inr ⟨rfl,rfl⟩,cV e0,cV e1,dS,dS,by simp[hl],fun u hu=>?_⟩
    rcases aw9.1 hu with hu|hu
    ·exact hbd u hu
    ·rw[axi.1 hu];omega
   ·refine qx e1 e8 ?_
    refine⟨_,G,lo,p3,acc,rfl,?_,e0,e7,af,hbd⟩
    rcases hG with ⟨h1,h2,_⟩|h1
    ·exact .inl ⟨h1,h2⟩
    ·exact .inr h1
  ·rintro s ⟨T,G,lo,p3,acc,rfl,hG,e0,e7,hl,hbd⟩
   have dL:∃ x p4,0<=x/\x<4/\ai A 18 [.ref c.mm 0,.int .i64 4] G=some (.int .i64 x,some ⟨cT c p4 H,c.mm⟩):=by
    rcases hG with ⟨rfl,rfl⟩|⟨rfl,rfl⟩
    ·exact mU h 4 af
    ·obtain⟨x,p4,x0,x1,hx⟩:=mU (h.set (p':=p3)) 4 af
     rw[aZ] at hx;exact⟨x,p4,x0,x1,hx⟩
   obtain⟨x,p4,x0,x1,dL⟩:=dL;obtain⟨j,hj,rfl⟩:∃ j:Nat,j<4/\x=j:=⟨x.toNat,af,af⟩;obtain⟨e,he,ate⟩:=aeF hj;have DA:aC false 1 16 (.slice (strs acc) true) (.slice [[.str e]] true)=some (.slice (strs (acc++[e])) true):=fM af;have yp:(bif decide (c.mm<lo) then c.mm else lo)=c.mm:=by
    rcases hG with ⟨_,rfl⟩|⟨_,rfl⟩
    ·rw[decide_eq_true aP];rfl
    ·simp
   have dH:=h.jj (p':=p4);refine l8 e0 e7 dL ate DA (j4 yp dH @bw @ahb) ?_;refine⟨acc++[e],p4,by simp[hl],fun u hu=>?_,rfl,rfl⟩
   rcases aw9.1 hu with hu|hu
   ·exact hbd u hu
   ·rw[axi.1 hu];exact he
  ·refine⟨_,H,H.length,0,[b],rfl,.inl ⟨rfl,rfl,rfl⟩,?_⟩
   refine Lx @strs.eq_1 ?_;exact fun s hs=>by rw[axi.1 hs];exact hb
 obtain⟨r,h1,out,p',h2,h3,rfl⟩:=key;exact⟨out,p',h2,h3,h1⟩
def jE(k:Int):Bool:=decide (k=3\/k=7\/k=8\/k=9\/k=10)
def om(c1 c2 l m:Int)(w:Bool):Bool:=decide (c1=-2) || decide (0<=c1/\l≠c1) || decide (m≠c2) || !w
def rG(t:Tm):Bool:=om (bP t.kind t.n t.kids.length).1 (bP t.kind t.n t.kids.length).2 t.kids.length t.names.length (t.names.all isWord)
def sV(t:Tm):Bool:=bif jE t.kind then !(gK t.name) else bif decide (t.kind=2) then !(isWord t.name) else decide (t.name≠[])
def sW(t:Tm):Bool:=bif decide (t.kind=8\/t.kind=9) then !(isWord t.field) else decide (t.field≠[])
def rH(t:Tm):Bool:=bif decide (t.kind=11) then !(bD (.mk t.wn t.wk)) else (decide (t.wn≠[]) || decide (0<t.wk.length))
def rI(t:Tm):Bool:=bif decide (t.kind=0) then decide (t.n < -1099511627776\/1099511627776<t.n) else bif decide (t.kind=1) then decide (t.n≠0/\t.n≠1) else false
def sY(t:Tm):Bool:=decide (t.kind≠0/\t.kind≠1/\t.kind≠4/\t.n≠0)
def oQ(t:Tm):Bool:=!(rG t || sV t || sW t || rH t || rI t || sY t)
mutual
def ax:Tm->Bool
 | .mk k n a f wn wk ks ns=>oQ (.mk k n a f wn wk ks ns)&&sk ks
def sk:List Tm->Bool
 | []=>true
 | t :: r=>ax t&&sk r
end
def fp(t:Tm):ax t=(oQ t&&sk t.kids):=by cases t;rw[ax,Tm.kids]
def dk:∀ l:List Tm,sk l=l.all ax
 | []=>by simp[sk]
 | t :: r=>by simp[sk,dk r]
structure OV (h:Nat) (t:Tm):Prop where
 n:-2199023255552<=t.n/\t.n<=2199023255552
 k:-100<=t.kind/\t.kind<=100
 a:t.name.length<=1100000
 f:t.field.length<=1100000
 w:F4 3 (.mk t.wn t.wk)
 kl:t.kids.length<=3
 kb:∀ u∈t.kids,Tj h u
 nl:t.names.length<=8
 nb:∀ s∈t.names,s.length<=1100000
def Tj.out{h:Nat}{t:Tm}(hb:Tj (h+1) t):OV h t:=by
 cases hb with
 | mk h k n a f wn wk ks ns h1 hk h2 h3 h4 h5 h6=>exact⟨h1,hk,h2.1,h2.2,h3,h4,h5,h6.1,h6.2⟩
def JY(t:Tm)(H:aa)(s:AS):Prop:=∃ T,s=⟨T,H,H.length,1⟩/\T 1=.lbox 0 [.int .i64 t.kind,.int .i64 t.n,.str t.name,.str t.field,.str t.wn,.slice (aM t.wk) false,.slice (aF t.kids) false,.slice (strs t.names) false]
abbrev jL(H:aa)(b:Bool):bB->AS->Prop:=done H.length [.tmp 2] (.bool b,none)
def am5{t:Tm}{h:Nat}(hb:OV h t){H:aa}(hf:rG t=true->ax t=false) :
  W A (xS.body.pre 2) { T:=dO [.agg (aK t)],H,lo:=H.length,gen:=0 } (andThen (fun s'=>JY t H s'/\rG t=false) (jL H (ax t))):=by
 have hc:=T9 t H (by have:=hb.kl;omega)
 have hn:=LA t.names H (by have:=hb.nl;omega) (fun s hs=>by have:=hb.nb s hs;omega)
 unfold rG at hf ⊢;unfold JY;rw[aj] at hc ⊢;generalize ax t=pr at hf ⊢;generalize (bP t.kind t.n t.kids.length).1=c1 at hc hf ⊢;generalize (bP t.kind t.n t.kids.length).2=c2 at hc hf ⊢;generalize t.names.all isWord=aw at hn hf ⊢;have Gf:=hb.kl;have u9:=hb.nl;unfold xS;simp only[aG.pre];unfold om at hf ⊢
 by_cases a1:c1=-2
 ·have e:=hf (by simp[a1])
  exact wK hc a1 e @jL.eq_1 tv
 by_cases a2:0<=c1
 ·by_cases a3:(t.kids.length:Int)=c1
  ·by_cases a4:(t.names.length:Int)=c2
   ·cases aw with
    | false =>
     have e:=hf (by simp)
     exact l8 hc @cx @bu a3 a4 (j3 hn e @jL.eq_1) tv
    | true =>
     refine l8 hc @cx @bu a3 a4 (j2 hn @jL.eq_1) ?_;exact⟨⟨_,rfl,dS⟩,by simp[a1]⟩
   ·have e:=hf (by simp[a4])
    exact l8 hc @cx @bu a3 e @jL.eq_1 tv
  ·have e:=hf (by simp[a2,a3])
   exact wK hc @cx e @jL.eq_1 tv
 ·by_cases a4:(t.names.length:Int)=c2
  ·cases aw with
   | false =>
    have e:=hf (by simp)
    exact l8 hc @bu a2 a4 hn (j2 e @jL.eq_1) tv
   | true =>
    refine l8 hc @bu a2 a4 hn @jL.eq_1 ?_;exact⟨⟨_,rfl,dS⟩,by simp[a1]⟩
  ·have e:=hf (by simp[a4])
   exact Hk hc @bu a2 e @jL.eq_1 tv
def am6{t:Tm}{h:Nat}(hb:OV h t){H:aa}(hf:sV t=true->ax t=false)(s:AS)(hs:JY t H s) :
  W A ((xS.body.post 2).pre 1) s (andThen (fun s'=>JY t H s'/\sV t=false) (jL H (ax t))):=by
 obtain⟨T,rfl,e1⟩:=hs;unfold sV at hf ⊢;unfold JY;generalize ax t=pr at hf ⊢;have hq:=WV t.name H (by have:=hb.a;omega)
 have hw:=qW t.name H (by have:=hb.a;omega)
 generalize gK t.name=q at hq hf ⊢;generalize isWord t.name=w at hw hf ⊢;unfold xS;simp only[aG.pre,aG.post]
 by_cases ty:t.kind=3\/t.kind=7\/t.kind=8\/t.kind=9\/t.kind=10
 ·have et:jE t.kind=true:=decide_eq_true ty
  rw[et] at hf ⊢
  rcases ty with ty|ty|ty|ty|ty
  all_goals
   cases q with
   | false =>
    have e:=hf rfl;exact Hk e1 ty hq e @jL.eq_1 tv
   | true =>
    refine wK e1 ty hq @jL.eq_1 ?_
    exact⟨_,rfl,by first|exact Lx e1 tv|(simp(disch:=omega)only[gO,ab,simprocAttr,e1,ty];done)|(simp(disch:=omega)only[gO,ab,simprocAttr,e1,k2];done)|(simp(disch:=omega)only[gO,ab,simprocAttr,e1,k0];done)|(simp(disch:=omega)only[gO,ab,simprocAttr,e1,k1];done)|(simp(disch:=omega)only[gO,ab,simprocAttr,e1,kk];done)⟩
 ·have et:jE t.kind=false:=ax1 ty
  rw[et] at hf ⊢
  by_cases k2:t.kind=2
  ·rw[decide_eq_true k2] at hf ⊢
   cases w with
   | false =>
    have e:=hf rfl;exact Hk e1 k2 hw e @jL.eq_1 tv
   | true =>
    refine wK e1 k2 hw @jL.eq_1 ?_
    exact⟨_,rfl,by first|exact Lx e1 tv|(simp(disch:=omega)only[gO,ab,simprocAttr,e1];done)|(simp(disch:=omega)only[gO,ab,simprocAttr,e1,k2];done)|(simp(disch:=omega)only[gO,ab,simprocAttr,e1,k0];done)|(simp(disch:=omega)only[gO,ab,simprocAttr,e1,k1];done)|(simp(disch:=omega)only[gO,ab,simprocAttr,e1,kk];done)⟩
  ·rw[ax1 k2] at hf ⊢
   by_cases na:t.name=[]
   ·have en:(t.name==[])=true:=by rw[na];rfl
    simp(disch:=omega)only[dJ,ab,simprocAttr,e1,en,bne,jL]
    exact⟨⟨_,rfl,by first|exact Lx e1 tv|(simp(disch:=omega)only[gO,ab,simprocAttr,e1,ty];done)|(simp(disch:=omega)only[gO,ab,simprocAttr,e1,k2];done)|(simp(disch:=omega)only[gO,ab,simprocAttr,e1,k0];done)|(simp(disch:=omega)only[gO,ab,simprocAttr,e1,k1];done)|(simp(disch:=omega)only[gO,ab,simprocAttr,e1,kk];done)⟩,by simp[na]⟩
   ·have en:(t.name==[])=false:=cJ na
    have e:=hf (by simp[na])
    simp(disch:=omega)only[dJ,ab,simprocAttr,e1,en,bne,e,jL]
def am7{t:Tm}{h:Nat}(hb:OV h t){H:aa}(hf:sW t=true->ax t=false)(s:AS)(hs:JY t H s) :
  W A (((xS.body.post 2).post 1).pre 1) s (andThen (fun s'=>JY t H s'/\sW t=false) (jL H (ax t))):=by
 obtain⟨T,rfl,e1⟩:=hs;unfold sW at hf ⊢;unfold JY;generalize ax t=pr at hf ⊢;have hw:=qW t.field H (by have:=hb.f;omega)
 generalize isWord t.field=w at hw hf ⊢;unfold xS;simp only[aG.pre,aG.post]
 by_cases ty:t.kind=8\/t.kind=9
 ·rw[decide_eq_true ty] at hf ⊢
  rcases ty with ty|ty
  all_goals
   cases w with
   | false =>
    have e:=hf rfl;exact Hk e1 ty hw e @jL.eq_1 tv
   | true =>
    refine wK e1 ty hw @jL.eq_1 ?_
    exact⟨_,rfl,by first|exact Lx e1 tv|(simp(disch:=omega)only[gO,ab,simprocAttr,e1,ty];done)|(simp(disch:=omega)only[gO,ab,simprocAttr,e1,k2];done)|(simp(disch:=omega)only[gO,ab,simprocAttr,e1,k0];done)|(simp(disch:=omega)only[gO,ab,simprocAttr,e1,k1];done)|(simp(disch:=omega)only[gO,ab,simprocAttr,e1,kk];done)⟩
 ·rw[ax1 ty] at hf ⊢
  by_cases na:t.field=[]
  ·have en:(t.field==[])=true:=by rw[na];rfl
   refine ry e1 en @jL.eq_1 ?_
   exact⟨⟨_,rfl,by first|exact Lx e1 tv|(simp(disch:=omega)only[gO,ab,simprocAttr,e1,ty];done)|(simp(disch:=omega)only[gO,ab,simprocAttr,e1,k2];done)|(simp(disch:=omega)only[gO,ab,simprocAttr,e1,k0];done)|(simp(disch:=omega)only[gO,ab,simprocAttr,e1,k1];done)|(simp(disch:=omega)only[gO,ab,simprocAttr,e1,kk];done)⟩,by simp[na]⟩
  ·have en:(t.field==[])=false:=cJ na
   have e:=hf (by simp[na])
   exact wK e1 en e @jL.eq_1 tv
def am8{t:Tm}{h:Nat}(hb:OV h t){H:aa}(hf:rH t=true->ax t=false)(s:AS)(hs:JY t H s) :
  W A ((((xS.body.post 2).post 1).post 1).pre 0) s (andThen (fun s'=>JY t H s'/\rH t=false) (jL H (ax t))):=by
 obtain⟨T,rfl,e1⟩:=hs;unfold rH at hf ⊢;unfold JY;generalize ax t=pr at hf ⊢;have hw:ai A 86 [.agg [.str t.wn,.slice (aM t.wk) false]] H=some (.bool (bD (.mk t.wn t.wk)),none):=by
  have:=AY 3 (.mk t.wn t.wk) H hb.w
  rwa [fN] at this
 have hwk:t.wk.length<=1:=hb.w.2.1;generalize bD (.mk t.wn t.wk)=w at hw hf ⊢;unfold xS;simp only[aG.pre,aG.post]
 by_cases ty:t.kind=11
 ·rw[decide_eq_true ty] at hf ⊢
  cases w with
  | false =>
   have e:=hf rfl;exact Hk e1 ty hw e @jL.eq_1 tv
  | true =>
   refine wK e1 ty hw @jL.eq_1 ?_
   exact⟨_,rfl,by first|exact Lx e1 tv|(simp(disch:=omega)only[gO,ab,simprocAttr,e1,ty];done)|(simp(disch:=omega)only[gO,ab,simprocAttr,e1,k2];done)|(simp(disch:=omega)only[gO,ab,simprocAttr,e1,k0];done)|(simp(disch:=omega)only[gO,ab,simprocAttr,e1,k1];done)|(simp(disch:=omega)only[gO,ab,simprocAttr,e1,kk];done)⟩
 ·rw[ax1 ty] at hf ⊢
  by_cases na:t.wn=[]
  ·have en:(t.wn==[])=true:=by rw[na];rfl
   by_cases nk:0<t.wk.length
   ·have e:=hf (by simp[nk])
    simp(disch:=omega)only[dJ,ab,simprocAttr,e1,en,bne,gF,e,jL]
   ·simp(disch:=omega)only[dJ,ab,simprocAttr,e1,en,bne,gF,jL]
    exact⟨⟨_,rfl,by first|exact Lx e1 tv|(simp(disch:=omega)only[gO,ab,simprocAttr,e1,ty];done)|(simp(disch:=omega)only[gO,ab,simprocAttr,e1,k2];done)|(simp(disch:=omega)only[gO,ab,simprocAttr,e1,k0];done)|(simp(disch:=omega)only[gO,ab,simprocAttr,e1,k1];done)|(simp(disch:=omega)only[gO,ab,simprocAttr,e1,kk];done)⟩,by simp[na,nk]⟩
  ·have en:(t.wn==[])=false:=cJ na
   have e:=hf (by simp[na])
   simp(disch:=omega)only[dJ,ab,simprocAttr,e1,en,bne,e,jL]
def am9{t:Tm}{h:Nat}(hb:OV h t){H:aa}(hf:rI t=true->ax t=false)(s:AS)(hs:JY t H s) :
  W A (((((xS.body.post 2).post 1).post 1).post 0).pre 0) s (andThen (fun s'=>JY t H s'/\rI t=false) (jL H (ax t))):=by
 obtain⟨T,rfl,e1⟩:=hs;unfold rI at hf ⊢;unfold JY;generalize ax t=pr at hf ⊢;have hn:=hb.n;unfold xS;simp only[aG.pre,aG.post]
 by_cases k0:t.kind=0
 ·rw[decide_eq_true k0] at hf ⊢
  by_cases a1:t.n < -1099511627776
  ·have e:=hf (by simp[a1])
   exact wK e1 k0 e @jL.eq_1 tv
  by_cases a2:1099511627776<t.n
  ·have e:=hf (by simp[a2])
   exact wK e1 k0 e @jL.eq_1 tv
  ·refine ry e1 k0 @jL.eq_1 ?_
   exact⟨⟨_,rfl,by first|exact Lx e1 tv|(simp(disch:=omega)only[gO,ab,simprocAttr,e1,ty];done)|(simp(disch:=omega)only[gO,ab,simprocAttr,e1,k2];done)|(simp(disch:=omega)only[gO,ab,simprocAttr,e1,k0];done)|(simp(disch:=omega)only[gO,ab,simprocAttr,e1,k1];done)|(simp(disch:=omega)only[gO,ab,simprocAttr,e1,kk];done)⟩,df⟩
 rw[ax1 k0] at hf ⊢
 by_cases k1:t.kind=1
 ·rw[decide_eq_true k1] at hf ⊢
  by_cases a0:t.n=0
  ·refine ry e1 k1 @jL.eq_1 ?_
   exact⟨⟨_,rfl,by first|exact Lx e1 tv|(simp(disch:=omega)only[gO,ab,simprocAttr,e1,ty];done)|(simp(disch:=omega)only[gO,ab,simprocAttr,e1,k2];done)|(simp(disch:=omega)only[gO,ab,simprocAttr,e1];done)|(simp(disch:=omega)only[gO,ab,simprocAttr,e1,k1];done)|(simp(disch:=omega)only[gO,ab,simprocAttr,e1,kk];done)⟩,by simp[a0]⟩
  by_cases a1:t.n=1
  ·refine ry e1 k1 @jL.eq_1 ?_
   exact⟨⟨_,rfl,by first|exact Lx e1 tv|(simp(disch:=omega)only[gO,ab,simprocAttr,e1,ty];done)|(simp(disch:=omega)only[gO,ab,simprocAttr,e1,k2];done)|(simp(disch:=omega)only[gO,ab,simprocAttr,e1];done)|(simp(disch:=omega)only[gO,ab,simprocAttr,e1,k1];done)|(simp(disch:=omega)only[gO,ab,simprocAttr,e1,kk];done)⟩,by simp[a1]⟩
  ·have e:=hf (by simp[a0,a1])
   exact wK e1 k1 e @jL.eq_1 tv
 ·rw[ax1 k1] at hf ⊢
  refine qx e1 @jL.eq_1 ?_
  exact⟨_,rfl,by first|exact Lx e1 tv|(simp(disch:=omega)only[gO,ab,simprocAttr,e1,ty];done)|(simp(disch:=omega)only[gO,ab,simprocAttr,e1,k2];done)|(simp(disch:=omega)only[gO,ab,simprocAttr,e1,k0];done)|(simp(disch:=omega)only[gO,ab,simprocAttr,e1,k1];done)|(simp(disch:=omega)only[gO,ab,simprocAttr,e1,kk];done)⟩
def am'{t:Tm}{h:Nat}(hb:OV h t){H:aa}(hf:sY t=true->ax t=false)(s:AS)(hs:JY t H s) :
  W A ((((((xS.body.post 2).post 1).post 1).post 0).post 0).pre 0) s (andThen (fun s'=>JY t H s'/\sY t=false) (jL H (ax t))):=by
 obtain⟨T,rfl,e1⟩:=hs;unfold sY at hf ⊢;unfold JY;generalize ax t=pr at hf ⊢;unfold xS;simp only[aG.pre,aG.post]
 by_cases kk:t.kind=0\/t.kind=1\/t.kind=4
 ·rcases kk with kk|kk|kk
  all_goals
   refine ry e1 kk @jL.eq_1 ?_
   exact⟨⟨_,rfl,by first|exact Lx e1 tv|(simp(disch:=omega)only[gO,ab,simprocAttr,e1,ty];done)|(simp(disch:=omega)only[gO,ab,simprocAttr,e1,k2];done)|(simp(disch:=omega)only[gO,ab,simprocAttr,e1,k0];done)|(simp(disch:=omega)only[gO,ab,simprocAttr,e1,k1];done)|(simp(disch:=omega)only[gO,ab,simprocAttr,e1,kk];done)⟩,ae⟩
 ·by_cases a0:t.n=0
  ·refine qx e1 @jL.eq_1 ?_
   exact⟨⟨_,rfl,by first|exact Lx e1 tv|(simp(disch:=omega)only[gO,ab,simprocAttr,e1,ty];done)|(simp(disch:=omega)only[gO,ab,simprocAttr,e1,k2];done)|(simp(disch:=omega)only[gO,ab,simprocAttr,e1,k0];done)|(simp(disch:=omega)only[gO,ab,simprocAttr,e1,k1];done)|(simp(disch:=omega)only[gO,ab,simprocAttr,e1,kk];done)⟩,by simp[a0]⟩
  ·have e:=hf (by simp[a0];omega)
   exact ry e1 e @jL.eq_1 tv
def nT{t:Tm}(h:oQ t=false):ax t=false:=by rw[fp,h,axt]
def HB:∀ (h:Nat) (t:Tm) (H:aa),Tj h t->ai A 87 [.agg (aK t)] H=some (.bool (ax t),none)
 | 0,t,H,hb=>by cases hb
 | h+1,t,H,hb=>by
  have ih:=HB h;have hF:=hb.out;refine cy (fn:=xS) rfl rfl rfl ?_;refine iC 2 _ (am5 hF fun hx=>nT (by unfold oQ;rw[hx];rfl)) ?_
  rintro s1 ⟨pH,b1⟩
  refine iC 1 _ (am6 hF (fun hx=>nT (by unfold oQ;rw[hx];simp)) s1 pH) ?_
  rintro s2 ⟨xP,b2⟩
  refine iC 1 _ (am7 hF (fun hx=>nT (by unfold oQ;rw[hx];simp)) s2 xP) ?_
  rintro s3 ⟨hs3,b3⟩
  refine iC 0 _ (am8 hF (fun hx=>nT (by unfold oQ;rw[hx];simp)) s3 hs3) ?_
  rintro s4 ⟨hs4,b4⟩
  refine iC 0 _ (am9 hF (fun hx=>nT (by unfold oQ;rw[hx];simp)) s4 hs4) ?_
  rintro s5 ⟨hs5,b5⟩
  refine iC 0 _ (am' hF (fun hx=>nT (by unfold oQ;rw[hx];simp)) s5 hs5) ?_
  rintro s6 ⟨⟨T,rfl,e1⟩,b6⟩
  have ho:oQ t=true:=by unfold oQ;rw[b1,b2,b3,b4,b5,b6];rfl
  have hp:ax t=t.kids.all ax:=by rw[fp,ho,axF,dk]
  rw[hp];have Gf:=hF.kl;unfold xS;simp only[aG.post];refine Ce ?_;refine bK t.kids.length 0 (fun i s=>∃ T,s=⟨T,H,H.length,1⟩/\T 1=.lbox 0 [.int .i64 t.kind,.int .i64 t.n,.str t.name,.str t.field,.str t.wn,.slice (aM t.wk) false,.slice (aF t.kids) false,.slice (strs t.names) false]/\T 7=.int .i64 i/\t.kids.all ax=(t.kids.drop i).all ax)
   (fun s=>∃ T,s=⟨T,H,H.length,1⟩/\t.kids.all ax=true) (fun s=>∃ T,s=⟨T,H,H.length,1⟩/\T 2=.bool false/\t.kids.all ax=false) ?_ ?_ ?_ 0 _ (axh _) ?_
  ·rintro i st hi ⟨T,rfl,e1,e7,hc⟩
   by_cases aP:i<t.kids.length
   ·have hx:=aw3 aP
    have hd:=axk aP;have hm:=axn aP;generalize t.kids[i]=u at hx hd hm;have hu:=ih u H (hF.kb u hm);have ft:=BT hx;rw[aj] at hu ft;rw[hd,List.all_cons] at hc;cases PG:ax u with
    | false =>
     rw[PG] at hu hc;refine Hk e1 e7 @cx ft hu ?_;exact⟨_,rfl,dS,by rw[hc];rfl⟩
    | true =>
     rw[PG] at hu hc;refine Hk e1 e7 @cx ft hu ?_;exact⟨aP,_,rfl,cV e1,dS,by rw[hc,axF]⟩
   ·have e:t.kids.drop i=[]:=List.drop_eq_nil_of_le (by omega)
    rw[e,List.all_nil] at hc;refine ry e1 e7 @cx ?_;exact⟨_,rfl,hc⟩
  ·rintro st ⟨T,rfl,hc⟩
   exact n8 hc
  ·rintro st ⟨T,rfl,h2,hc⟩
   exact My h2 hc
  ·exact⟨_,rfl,cV e1,dS,by simp⟩
def mO(a l:List av)(x y:av)(H:aa)(ha:a.length<=10000000)(hl:l.length<=10000000)(o o' : Bool) :
  ai A 89 [.slice (strs a) false,.str x,.slice (strs l) false,.str y] H=some (.slice (strs (a++[x]++l++[y])) true,none):=by
 have h1:aC false 1 16 (.slice [] true) (.slice (strs a) false)=some (.slice (strs a) true):=ca (l:=[]) df;have h2:aC false 1 16 (.slice (strs a) true) (.slice [[.str x]] true)=some (.slice (strs (a++[x])) true):=fM af;have h3:aC false 1 16 (.slice (strs (a++[x])) true) (.slice (strs l) false)=some (.slice (strs (a++[x]++l)) true):=ca df;have h4:aC false 1 16 (.slice (strs (a++[x]++l)) true) (.slice [[.str y]] true)=some (.slice (strs (a++[x]++l++[y])) true):=fM df;generalize a++[x]++l++[y]=l3 at h4 ⊢;generalize a++[x]++l=l2 at h3 h4;generalize a++[x]=l1 at h2 h3;refine cW alN.eq_1 ?_;exact vK4 h1 h2 h3 h4
def lV(k:Nat):av:=gy (k+1) k []
def yM:∀ (f g n:Nat) (acc:av),n<f->n<g->gy f n acc=gy g n acc
 | 0,_,n,acc,h,_=>af
 | f+1,0,n,acc,_,h=>af
 | f+1,g+1,n,acc,h,h2=>by
  unfold gy;cases hn:Nat.blt n 10 with
  | true=>rfl
  | false =>
   have:¬ n<10:=fun h=>by
    have:Nat.blt n 10=true:=by simpa [axp] using h
    rw[hn] at this;cases this
   simp only[cond_false];exact yM f g (n / 10) _ af af
theorem Df(k:Nat)(H:aa)(hk:k<=2199023255552):ai A 49 [.int .i64 k] H=some (.str (lV k),none):=by
 refine cW alA.eq_1 ?_;refine Ce ?_;refine o6 0 (fun m s=>∃ T acc,s=⟨T,H,H.length,0⟩/\m<=2199023255552/\T 0=.int .i64 m/\T 3=.str acc/\acc.length+m<=k/\lV k=gy (m+1) m acc)
  (fun s=>∃ T acc m,s=⟨T,H,H.length,0⟩/\m<10/\T 0=.int .i64 (m:Nat)/\T 3=.str acc/\acc.length+m<=k/\lV k=UInt8.ofNat (48+m) :: acc) (fun _=>False) ?_ ?_ (fun _ h=>h.elim) k _ ?_
 ·rintro m s ⟨T,acc,rfl,hm,e0,e3,hl,hc⟩
  by_cases h9:9<m
  ·have hb:Nat.blt m 10=false:=by cases h:Nat.blt m 10 with|false=>rfl|true=>simp[axp] at h;omega
   have e:gy (m+1) m acc=gy (m / 10+1) (m / 10) (UInt8.ofNat (48+m % 10) :: acc):=by
    rw[gy,hb,cond_false];exact yM _ _ _ _ af af
   rw[e] at hc;simp(disch:=omega)only[dJ,ab,simprocAttr,e0,e3,jV,zS,XZ,mK,oq,bytesOf];have em:(48+(m:Int) % 10).toNat=48+m % 10:=af;have ed:(m:Int) / 10=((m / 10:Nat):Int):=af;exact⟨m / 10,af,_,UInt8.ofNat (48+m % 10) :: acc,rfl,af,cV ed,cV em,iA,hc⟩
  ·have hb:Nat.blt m 10=true:=by simp[axp];omega
   have e:gy (m+1) m acc=UInt8.ofNat (48+m) :: acc:=by rw[gy,hb,cond_true]
   rw[e] at hc;refine P9 e0 ?_;exact⟨_,acc,m,rfl,af,cV e0,cV e3,hl,hc⟩
 ·rintro s ⟨T,acc,m,rfl,hm,e0,e3,hl,hc⟩
  simp(disch:=omega)only[dJ,ab,simprocAttr,e0,e3,XZ,mK,oq,bytesOf]
  grind
 ·exact⟨_,[],rfl,hk,dS,dS,ae,rfl⟩
def fV(p:List av × Int)(least:Int):List av:=if p.2<least then [[40]]++p.1++[[41]] else p.1
def ar:List (List av)->List av
 | []=>[]
 | [a]=>a
 | a :: b :: r=>a++[[44]]++ar (b :: r)
def jJ(x:List av):∀ l:List (List av),ar (l++[x])=if l=[] then x else ar l++[[44]]++x
 | []=>by simp[ar]
 | [a]=>by simp[ar]
 | a :: b :: r=>by
  have:=jJ x (b :: r)
  simp only[axN,ar] at this ⊢;rw[this];simp
def ig:List av->List (List av × Int)->List (List av)
 | p :: q :: ns,y :: ys=>([p,q,[45,62]]++y.1) :: ig ns ys
 | _,_=>[]
def fK(k n:Int)(a f:av)(w:Wd)(ns:List av)(tl:List (List av × Int)):List av :=
 if k=0 then (if n<0 then [[45],lV (-n).toNat] else [lV n.toNat])
 else if k=1 then [if n=0 then [102,97,108,115,101] else [116,114,117,101]]
 else if k=2 then [a]
 else if k=3 then aL a++[[40]]++ar (tl.map (·.1))++[[41]]
 else if k=4 then (match tl with
  | [x]=>[(cD n).1]++fV x 7
  | [x,y]=>fV x (if (cD n).2=3 then 4 else (cD n).2)++[(cD n).1]++fV y ((cD n).2+1)
  | _=>[])
 else if k=5 then (match tl with|[x,y,z]=>[[105,102]]++x.1++[[116,104,101,110]]++y.1++[[101,108,115,101]]++z.1|_=>[])
 else if k=6 then (match tl,ns with|[x,y],[s]=>[[108,101,116],s,[61]]++x.1++[[105,110]]++y.1|_,_=>[])
 else if k=7 then aL a++[[123]]++ar (List.zipWith (fun s (x:List av × Int)=>[s,[61]]++x.1) ns tl)++[[125]]
 else if k=8 then (match tl with|[x]=>aL a++[[58],f]++[[91]]++x.1++[[93]]|_=>[])
 else if k=9 then (match tl with|[x]=>aL a++[[58],f]++[[40]]++x.1++[[41]]|_=>[])
 else if k=10 then (match tl with
  | x :: ys=>[[109,97,116,99,104]]++aL a++[[40]]++x.1++[[41]]++[[123]]++ar (ig ns ys)++[[125]]
  | _=>[])
 else if k=11 then [cz]++[[40]]++bM w++[[41]]++[[91]]++ar (tl.map (·.1))++[[93]]
 else if k=12 then (match tl,ns with|[x,y,z],[s,u]=>[[102,111,108,100],s,[44],u,[61]]++y.1++[[111,118,101,114]]++x.1++[[100,111]]++z.1|_,_=>[])
 else []
mutual
def ag:Tm->List av
 | .mk k n a f wn wk ks ns=>fK k n a f (.mk wn wk) ns (FL ks)
def FL:List Tm->List (List av × Int)
 | []=>[]
 | t :: r=>(ag t,bo t) :: FL r
end
def FM:∀ l:List Tm,FL l=l.map fun t=>(ag t,bo t)
 | []=>by simp[FL]
 | t :: r=>by simp[FL,FM r]
def bC(t:Tm):ag t=fK t.kind t.n t.name t.field (.mk t.wn t.wk) t.names (t.kids.map fun t=>(ag t,bo t)):=by
 cases t;rw[ag,FM,Tm.kind,Tm.n,Tm.name,Tm.field,Tm.wn,Tm.wk,Tm.names,Tm.kids]
structure uF (t:Tm):Prop where
 d:∀ H,ai A 50 [.agg (aK t)] H=some (.slice (strs (ag t)) true,none)
 len:(ag t).length<=100000
def V5{t:Tm}(h:uF t)(least:Int)(H:aa):ai A 92 [.agg (aK t),.int .i64 least] H=some (.slice (strs (fV (ag t,bo t) least)) true,none):=by
 have h1:=h.d H;have h2:=aan t H;have hl:=h.len;rw[aj] at h1 h2 ⊢;have a1:aC false 1 16 (.slice [[.str [40]]] true) (.slice (strs (ag t)) true)=some (.slice (strs ([[40]]++ag t)) true):=ca (l:=[[40]]) df;have a2:aC false 1 16 (.slice (strs ([[40]]++ag t)) true) (.slice [[.str [41]]] true)=some (.slice (strs ([[40]]++ag t++[[41]])) true):=fM df;unfold fV;generalize [[40]]++ag t++[[41]]=l2 at a2 ⊢;generalize [[40]]++ag t=l1 at a1 a2;refine cW alP.eq_1 ?_
 by_cases hc:bo t<least
 ·rw[if_pos hc]
  exact vK4 h1 h2 a1 a2
 ·rw[if_neg hc]
  exact My h1 h2
theorem jg:∀ (l:List (List av)) (n:Nat),(∀ x∈l,x.length<=n)->(ar l).length<=l.length*(n+1)
 | [],_,_=>by simp[ar]
 | [a],n,h=>by have:=h a ae;simp only[ar,List.length_cons,List.length_nil];omega
 | a :: b :: r,n,h=>by
  have h1:=h a ae;have h2:=jg (b :: r) n (fun x hx=>h x (by simp only[axs] at hx ⊢;exact .inr hx))
  simp only[ar,List.length_append,List.length_cons,List.length_nil] at h2 ⊢
  grind
theorem Lo(hl:l.length<=10)(h:∀ t∈l,uF t)(H:aa):ai A 90 [.slice (aF l) false] H=some (.slice (strs (ar (l.map ag))) false,none):=by
 refine cW alO.eq_1 ?_;refine Ce ?_;refine bK l.length 0 (fun i s=>∃ T,s=⟨T,H,H.length,0⟩/\T 0=.slice (aF l) false/\T 3=.slice (strs (ar ((l.take i).map ag))) true/\T 4=.int .i64 i)
  (fun s=>∃ T,s=⟨T,H,H.length,0⟩/\T 3=.slice (strs (ar (l.map ag))) true) (fun _=>False) ?_ ?_ (fun _ h=>h.elim) 0 _ (axh _) ?_
 ·rintro i s hi ⟨T,rfl,e0,e3,e4⟩
  by_cases aP:i<l.length
  ·have hx:=aw3 aP
   have hm:=axn aP;have mD:l.take (i+1)=l.take i++[l[i]]:=by rw[ayr,hx];rfl
   generalize l[i]=u at hx hm mD;have hu:=(h u hm).d H;have PN:=(h u hm).len;have ft:=BT hx;rw[aj] at hu ft;have yV:(ar ((l.take i).map ag)).length<=10*100001:=by
    have h1:=jg ((l.take i).map ag) 100000 (fun x hx=>by
     obtain⟨t,ht,rfl⟩:=List.mem_map.1 hx;exact (h t (axV ht)).len)
    grind
   have jm:(l.take (i+1)).map ag=(l.take i).map ag++[ag u]:=by rw[mD];simp
   have hs:=jJ (ag u) ((l.take i).map ag);rw[<- jm] at hs
   by_cases h0:i=0
   ·subst h0
    simp only[axQ,axB,ayE] at hs e3;have a1:aC false 1 16 (.slice (strs (ar [])) true) (.slice (strs (ag u)) true)=some (.slice (strs (ag u)) true):=ca (l:=[]) df;refine l8 e0 e3 e4 @cx ft (j2 hu a1) ?_;exact⟨aP,_,rfl,cV e0,by rw[hs];exact Lw tv,dS⟩
   ·have da:¬ ((l.take i).map ag=[]):=fun e=>by
     simp_all
    rw[if_neg da] at hs;generalize ar ((l.take i).map ag)=acc at e3 yV hs;have a1:aC false 1 16 (.slice (strs acc) true) (.slice [[.str [44]]] true)=some (.slice (strs (acc++[[44]])) true):=fM af;have a2:aC false 1 16 (.slice (strs (acc++[[44]])) true) (.slice (strs (ag u)) true)=some (.slice (strs (acc++[[44]]++ag u)) true):=ca df;generalize acc++[[44]]++ag u=l2 at a2 hs;generalize acc++[[44]]=l1 at a1 a2;refine l8 e0 e3 e4 @cx ft (j3 hu a1 a2) ?_;exact⟨aP,_,rfl,cV e0,by rw[hs];exact Lw tv,dS⟩
  ·rw[axy af] at e3
   refine ry e0 e4 @cx ?_;exact⟨_,rfl,cV e3⟩
 ·rintro s ⟨T,rfl,e3⟩
  exact n8 e3
 ·exact⟨_,rfl,dS,Wt @ar.eq_1 @strs.eq_1 tv,dS⟩
section
structure F2 (t:Tm):Prop where
 b1:rG t=false
 b2:sV t=false
 b3:sW t=false
 b4:rH t=false
 b5:rI t=false
 b6:sY t=false
 kids:∀ u∈t.kids,ax u=true
def qR{t:Tm}(h:ax t=true):F2 t:=by
 rw[fp,aw4,dk] at h;obtain⟨h1,h2⟩:=h;simp only[oQ,axq,axG] at h1;obtain⟨⟨⟨⟨⟨a1,a2⟩,a3⟩,a4⟩,a5⟩,a6⟩:=h1;exact⟨a1,a2,a3,a4,a5,a6,fun u hu=>aw8.1 h2 u hu⟩
def gm{t:Tm}(h:F2 t){c1 c2:Int}(hc:bP t.kind t.n t.kids.length=(c1,c2)):c1≠-2/\(0<=c1->(t.kids.length:Int)=c1)/\(t.names.length:Int)=c2:=by
 have h1:=h.b1;unfold rG at h1;rw[hc] at h1;simp only[om,axG,axo,not_and,Decidable.not_not] at h1;exact⟨h1.1.1.1,h1.1.1.2,h1.1.2⟩
def vl{t:Tm}(h:F2 t):0<=t.kind/\t.kind<=12:=by
 rcases tG t.kind with e|e|e|e|e|e|e|e|e|e|e|e|e|e
 all_goals first|omega|skip
 have hc:bP t.kind t.n t.kids.length=(-2,0):=by
  unfold bP
  repeat rw[if_neg af]
 exact absurd rfl (gm h hc).1
def wJ{l:List α}(h:l.length=1):∃ a,l=[a]:=by
 match l,h with
 | [a],_=>exact⟨a,rfl⟩
def ux{l:List α}(h:l.length=2):∃ a b,l=[a,b]:=by
 match l,h with
 | [a,b],_=>exact⟨a,b,rfl⟩
def I3{l:List α}(h:l.length=3):∃ a b c,l=[a,b,c]:=by
 match l,h with
 | [a,b,c],_=>exact⟨a,b,c,rfl⟩
section
variable {t:Tm}{h:Nat}(hF:OV h t)(hO:F2 t)(hK:∀ u∈t.kids,uF u)(H:aa)
include hF hO hK
def tk0(hk:t.kind=0):ai A 50 [.agg (aK t)] H=some (.slice (strs (ag t)) true,none):=by
 have _:=hF;have _:=hK;have hn:=hO.b5;unfold rI at hn;rw[decide_eq_true hk] at hn;simp only[cond_true,axo,not_or,Int.not_lt] at hn;rw[bC,aj];refine cW xR.eq_1 ?_
 by_cases h0:t.n<0
 ·obtain⟨m,hm⟩:∃ m:Nat, -t.n=m:=⟨(-t.n).toNat,af⟩
  have hm0:0-t.n=m:=af;have hd:=Df m H af;have e:fK t.kind t.n t.name t.field (.mk t.wn t.wk) t.names (t.kids.map fun t=>(ag t,bo t))=[[45],lV m]:=by
   unfold fK;rw[if_pos hk,if_pos h0,hm];rfl
  rw[e];exact wK hk hm0 hd @strs.eq_1 tv
 ·obtain⟨m,hm⟩:∃ m:Nat,t.n=m:=⟨t.n.toNat,af⟩
  have hd:=Df m H af;have e:fK t.kind t.n t.name t.field (.mk t.wn t.wk) t.names (t.kids.map fun t=>(ag t,bo t))=[lV m]:=by
   unfold fK;rw[if_pos hk,if_neg h0,hm];rfl
  rw[e];exact wK hk hm hd @strs.eq_1 tv
def tk2(hk:t.kind=2):ai A 50 [.agg (aK t)] H=some (.slice (strs (ag t)) true,none):=by
 have _:=hF;have _:=hO;have _:=hK;rw[bC,aj];refine cW xR.eq_1 ?_;have e:fK t.kind t.n t.name t.field (.mk t.wn t.wk) t.names (t.kids.map fun t=>(ag t,bo t))=[t.name]:=by
  rw[hk];rfl
 rw[e];exact qx hk @strs.eq_1 tv
def tk3(hk:t.kind=3):ai A 50 [.agg (aK t)] H=some (.slice (strs (ag t)) true,none):=by
 have _:=hO;have hq:=wj t.name H (by have:=hF.a;omega)
 have hl:=Lo (l:=t.kids) (by have:=hF.kl;omega) hK H
 have hb:=mO (aL t.name) (ar (t.kids.map ag)) [40] [41] H (by have:=lK t.name;omega) (by
  have h1:=jg (t.kids.map ag) 100000 (fun x hx=>by obtain⟨u,hu,rfl⟩:=List.mem_map.1 hx;exact (hK u hu).len)
  rw[List.length_map] at h1;have:=hF.kl
  have h2:t.kids.length*(100000+1)<=3*100001:=axg _ this;omega) true false
 rw[bC,aj];have e:fK t.kind t.n t.name t.field (.mk t.wn t.wk) t.names (t.kids.map fun t=>(ag t,bo t))=aL t.name++[[40]]++ar (t.kids.map ag)++[[41]]:=by
  rw[hk]
  show aL t.name++[[40]]++ar ((t.kids.map fun t=>(ag t,bo t)).map (·.1))++[[41]]=_
  rw[List.map_map];rfl
 rw[e];generalize aL t.name++[[40]]++ar (t.kids.map ag)++[[41]]=out at hb ⊢;refine cW xR.eq_1 ?_;exact wK hk hq hl hb tv
def tk1(hk:t.kind=1):ai A 50 [.agg (aK t)] H=some (.slice (strs (ag t)) true,none):=by
 have _:=hF;have _:=hK;have hn:=hO.b5;unfold rI at hn;rw[ax1 (show ¬ t.kind=0 by omega),decide_eq_true hk] at hn
 simp only[cond_true,cond_false,axo,not_and,Decidable.not_not] at hn;rw[bC,aj];refine cW xR.eq_1 ?_
 by_cases h0:t.n=0
 ·have e:fK t.kind t.n t.name t.field (.mk t.wn t.wk) t.names (t.kids.map fun t=>(ag t,bo t))=[[102,97,108,115,101]]:=by
   rw[hk,h0];rfl
  rw[e];exact ry hk h0 @strs.eq_1 tv
  first|done|rfl
 ·have h1:=hn h0
  have e:fK t.kind t.n t.name t.field (.mk t.wn t.wk) t.names (t.kids.map fun t=>(ag t,bo t))=[[116,114,117,101]]:=by
   rw[hk,h1];rfl
  rw[e];exact ry hk h1 @strs.eq_1 tv
  first|done|rfl
def tk5(hk:t.kind=5):ai A 50 [.agg (aK t)] H=some (.slice (strs (ag t)) true,none):=by
 have _:=hF;have hc:=gm hO (c1:=3) (c2:=0) (by rw[hk];rfl)
 have hl:=hc.2.1 af;obtain⟨x,y,z,fU⟩:=I3 (show t.kids.length=3 by omega)
 have hx:=hK x (by rw[fU];simp)
 have hy:=hK y (by rw[fU];simp)
 have hz:=hK z (by rw[fU];simp)
 have dx:=hx.d H;have dy:=hy.d H;have dz:=hz.d H;have lx:=hx.len;have ly:=hy.len;have lz:=hz.len;have kt:aF t.kids=[[.int .i64 x.kind,.int .i64 x.n,.str x.name,.str x.field,.str x.wn,.slice (aM x.wk) false,.slice (aF x.kids) false,.slice (strs x.names) false],
   [.int .i64 y.kind,.int .i64 y.n,.str y.name,.str y.field,.str y.wn,.slice (aM y.wk) false,.slice (aF y.kids) false,.slice (strs y.names) false],
   [.int .i64 z.kind,.int .i64 z.n,.str z.name,.str z.field,.str z.wn,.slice (aM z.wk) false,.slice (aF z.kids) false,.slice (strs z.names) false]]:=by
  rw[fU,aF,aF,aF,aF,aj,aj,aj]
 rw[aj] at dx dy dz;have a1:aC false 1 16 (.slice [[.str [105,102]]] true) (.slice (strs (ag x)) true)=some (.slice (strs ([[105,102]]++ag x)) true):=ca (l:=[[105,102]]) df;have a2:aC false 1 16 (.slice (strs ([[105,102]]++ag x)) true) (.slice [[.str [116,104,101,110]]] true)=some (.slice (strs ([[105,102]]++ag x++[[116,104,101,110]])) true):=fM df;have a3:aC false 1 16 (.slice (strs ([[105,102]]++ag x++[[116,104,101,110]])) true) (.slice (strs (ag y)) true)=some (.slice (strs ([[105,102]]++ag x++[[116,104,101,110]]++ag y)) true):=ca df;have a4:aC false 1 16 (.slice (strs ([[105,102]]++ag x++[[116,104,101,110]]++ag y)) true) (.slice [[.str [101,108,115,101]]] true)=some (.slice (strs ([[105,102]]++ag x++[[116,104,101,110]]++ag y++[[101,108,115,101]])) true):=fM df;have a5:aC false 1 16 (.slice (strs ([[105,102]]++ag x++[[116,104,101,110]]++ag y++[[101,108,115,101]])) true) (.slice (strs (ag z)) true)=some (.slice (strs ([[105,102]]++ag x++[[116,104,101,110]]++ag y++[[101,108,115,101]]++ag z)) true):=ca df;have e:ag t=[[105,102]]++ag x++[[116,104,101,110]]++ag y++[[101,108,115,101]]++ag z:=by
  rw[bC,hk,fU];rfl
 rw[e,aj];generalize [[105,102]]++ag x++[[116,104,101,110]]++ag y++[[101,108,115,101]]++ag z=l5 at a5 ⊢;generalize [[105,102]]++ag x++[[116,104,101,110]]++ag y++[[101,108,115,101]]=l4 at a4 a5;generalize [[105,102]]++ag x++[[116,104,101,110]]++ag y=l3 at a3 a4;generalize [[105,102]]++ag x++[[116,104,101,110]]=l2 at a2 a3;generalize [[105,102]]++ag x=l1 at a1 a2;refine cW xR.eq_1 ?_;rw[kt];exact l8 hk dx dy dz a1 (j4 a2 a3 a4 a5) tv
end
end
section
section
variable {t:Tm}{h:Nat}(hF:OV h t)(hO:F2 t)(hK:∀ u∈t.kids,uF u)(H:aa)
include hF hO hK
def tk6(hk:t.kind=6):ai A 50 [.agg (aK t)] H=some (.slice (strs (ag t)) true,none):=by
 have _:=hF;have hc:=gm hO (c1:=2) (c2:=1) (by rw[hk];rfl)
 have hl:=hc.2.1 af;have u9:=hc.2.2;obtain⟨x,y,fU⟩:=ux (show t.kids.length=2 by omega)
 obtain⟨s,BC⟩:=wJ (show t.names.length=1 by omega)
 have hx:=hK x (by rw[fU];simp)
 have dx:=hx.d H;have lx:=hx.len;have hy:=hK y (by rw[fU];simp)
 have dy:=hy.d H;have ly:=hy.len;have kt:aF t.kids=[[.int .i64 x.kind,.int .i64 x.n,.str x.name,.str x.field,.str x.wn,.slice (aM x.wk) false,.slice (aF x.kids) false,.slice (strs x.names) false],[.int .i64 y.kind,.int .i64 y.n,.str y.name,.str y.field,.str y.wn,.slice (aM y.wk) false,.slice (aF y.kids) false,.slice (strs y.names) false]]:=by
  rw[fU,aF,aF,aF,aj,aj]
 have nt:strs t.names=[[.str s]]:=by rw[BC];rfl
 rw[aj] at dx dy;have a1:aC false 1 16 (.slice [[.str [108,101,116]],[.str s],[.str [61]]] true) (.slice (strs (ag x)) true)=some (.slice (strs ([[108,101,116],s,[61]]++ag x)) true):=ca (l:=[[108,101,116],s,[61]]) df;have a2:aC false 1 16 (.slice (strs ([[108,101,116],s,[61]]++ag x)) true) (.slice [[.str [105,110]]] true)=some (.slice (strs ([[108,101,116],s,[61]]++ag x++[[105,110]])) true):=fM df;have a3:aC false 1 16 (.slice (strs ([[108,101,116],s,[61]]++ag x++[[105,110]])) true) (.slice (strs (ag y)) true)=some (.slice (strs ([[108,101,116],s,[61]]++ag x++[[105,110]]++ag y)) true):=ca df;have e:ag t=[[108,101,116],s,[61]]++ag x++[[105,110]]++ag y:=by
  rw[bC,hk,fU,BC];rfl
 rw[e,aj];generalize [[108,101,116],s,[61]]++ag x++[[105,110]]++ag y=q3 at a3 ⊢;generalize [[108,101,116],s,[61]]++ag x++[[105,110]]=q2 at a2 a3;generalize [[108,101,116],s,[61]]++ag x=q1 at a1 a2;refine cW xR.eq_1 ?_;rw[kt,nt];exact l8 hk dx dy a1 a2 a3 tv
def arf(hk:t.kind=12):ai A 50 [.agg (aK t)] H=some (.slice (strs (ag t)) true,none):=by
 have _:=hF;have hc:=gm hO (c1:=3) (c2:=2) (by rw[hk];rfl)
 have hl:=hc.2.1 af;have u9:=hc.2.2;obtain⟨x,y,z,fU⟩:=I3 (show t.kids.length=3 by omega)
 obtain⟨s,u,BC⟩:=ux (show t.names.length=2 by omega)
 have hx:=hK x (by rw[fU];simp)
 have dx:=hx.d H;have lx:=hx.len;have hy:=hK y (by rw[fU];simp)
 have dy:=hy.d H;have ly:=hy.len;have hz:=hK z (by rw[fU];simp)
 have dz:=hz.d H;have lz:=hz.len;have kt:aF t.kids=[[.int .i64 x.kind,.int .i64 x.n,.str x.name,.str x.field,.str x.wn,.slice (aM x.wk) false,.slice (aF x.kids) false,.slice (strs x.names) false],[.int .i64 y.kind,.int .i64 y.n,.str y.name,.str y.field,.str y.wn,.slice (aM y.wk) false,.slice (aF y.kids) false,.slice (strs y.names) false],[.int .i64 z.kind,.int .i64 z.n,.str z.name,.str z.field,.str z.wn,.slice (aM z.wk) false,.slice (aF z.kids) false,.slice (strs z.names) false]]:=by
  rw[fU,aF,aF,aF,aF,aj,aj,aj]
 have nt:strs t.names=[[.str s],[.str u]]:=by rw[BC];rfl
 rw[aj] at dx dy dz;have a1:aC false 1 16 (.slice [[.str [102,111,108,100]],[.str s],[.str [44]],[.str u],[.str [61]]] true) (.slice (strs (ag y)) true)=some (.slice (strs ([[102,111,108,100],s,[44],u,[61]]++ag y)) true):=ca (l:=[[102,111,108,100],s,[44],u,[61]]) df;have a2:aC false 1 16 (.slice (strs ([[102,111,108,100],s,[44],u,[61]]++ag y)) true) (.slice [[.str [111,118,101,114]]] true)=some (.slice (strs ([[102,111,108,100],s,[44],u,[61]]++ag y++[[111,118,101,114]])) true):=fM df;have a3:aC false 1 16 (.slice (strs ([[102,111,108,100],s,[44],u,[61]]++ag y++[[111,118,101,114]])) true) (.slice (strs (ag x)) true)=some (.slice (strs ([[102,111,108,100],s,[44],u,[61]]++ag y++[[111,118,101,114]]++ag x)) true):=ca df;have a4:aC false 1 16 (.slice (strs ([[102,111,108,100],s,[44],u,[61]]++ag y++[[111,118,101,114]]++ag x)) true) (.slice [[.str [100,111]]] true)=some (.slice (strs ([[102,111,108,100],s,[44],u,[61]]++ag y++[[111,118,101,114]]++ag x++[[100,111]])) true):=fM df;have a5:aC false 1 16 (.slice (strs ([[102,111,108,100],s,[44],u,[61]]++ag y++[[111,118,101,114]]++ag x++[[100,111]])) true) (.slice (strs (ag z)) true)=some (.slice (strs ([[102,111,108,100],s,[44],u,[61]]++ag y++[[111,118,101,114]]++ag x++[[100,111]]++ag z)) true):=ca df;have e:ag t=[[102,111,108,100],s,[44],u,[61]]++ag y++[[111,118,101,114]]++ag x++[[100,111]]++ag z:=by
  rw[bC,hk,fU,BC];rfl
 rw[e,aj];generalize [[102,111,108,100],s,[44],u,[61]]++ag y++[[111,118,101,114]]++ag x++[[100,111]]++ag z=q5 at a5 ⊢;generalize [[102,111,108,100],s,[44],u,[61]]++ag y++[[111,118,101,114]]++ag x++[[100,111]]=q4 at a4 a5;generalize [[102,111,108,100],s,[44],u,[61]]++ag y++[[111,118,101,114]]++ag x=q3 at a3 a4;generalize [[102,111,108,100],s,[44],u,[61]]++ag y++[[111,118,101,114]]=q2 at a2 a3;generalize [[102,111,108,100],s,[44],u,[61]]++ag y=q1 at a1 a2;refine cW xR.eq_1 ?_;rw[kt,nt];exact l8 hk dx dy dz a1 (j4 a2 a3 a4 a5) tv
end
end
section
section
variable {t:Tm}{h:Nat}(hF:OV h t)(hO:F2 t)(hK:∀ u∈t.kids,uF u)(H:aa)
include hF hO hK
def tk8(hk:t.kind=8):ai A 50 [.agg (aK t)] H=some (.slice (strs (ag t)) true,none):=by
 have hc:=gm hO (c1:=1) (c2:=0) (by rw[hk];rfl)
 have hl:=hc.2.1 af;obtain⟨x,fU⟩:=wJ (show t.kids.length=1 by omega)
 have hx:=hK x (by rw[fU];simp)
 have dx:=hx.d H;have lx:=hx.len;have kt:aF t.kids=[[.int .i64 x.kind,.int .i64 x.n,.str x.name,.str x.field,.str x.wn,.slice (aM x.wk) false,.slice (aF x.kids) false,.slice (strs x.names) false]]:=by
  rw[fU,aF,aF,aj]
 rw[aj] at dx;have hq:=wj t.name H (by have:=hF.a;omega)
 have hql:=lK t.name;have a1:aC false 1 16 (.slice (strs (aL t.name)) true) (.slice [[.str [58]],[.str t.field]] true)=some (.slice (strs (aL t.name++[[58],t.field])) true):=MK af;have hb:=mO (aL t.name++[[58],t.field]) (ag x) [91] [93] H df af true true;have e:ag t=aL t.name++[[58],t.field]++[[91]]++ag x++[[93]]:=by
  rw[bC,hk,fU];rfl
 rw[e,aj];generalize aL t.name++[[58],t.field]++[[91]]++ag x++[[93]]=q2 at hb ⊢;generalize aL t.name++[[58],t.field]=q1 at a1 hb;refine cW xR.eq_1 ?_;rw[kt];exact vK5 hk dx hq a1 hb
def tk9(hk:t.kind=9):ai A 50 [.agg (aK t)] H=some (.slice (strs (ag t)) true,none):=by
 have hc:=gm hO (c1:=1) (c2:=0) (by rw[hk];rfl)
 have hl:=hc.2.1 af;obtain⟨x,fU⟩:=wJ (show t.kids.length=1 by omega)
 have hx:=hK x (by rw[fU];simp)
 have dx:=hx.d H;have lx:=hx.len;have kt:aF t.kids=[[.int .i64 x.kind,.int .i64 x.n,.str x.name,.str x.field,.str x.wn,.slice (aM x.wk) false,.slice (aF x.kids) false,.slice (strs x.names) false]]:=by
  rw[fU,aF,aF,aj]
 rw[aj] at dx;have hq:=wj t.name H (by have:=hF.a;omega)
 have hql:=lK t.name;have a1:aC false 1 16 (.slice (strs (aL t.name)) true) (.slice [[.str [58]],[.str t.field]] true)=some (.slice (strs (aL t.name++[[58],t.field])) true):=MK af;have hb:=mO (aL t.name++[[58],t.field]) (ag x) [40] [41] H df af true true;have e:ag t=aL t.name++[[58],t.field]++[[40]]++ag x++[[41]]:=by
  rw[bC,hk,fU];rfl
 rw[e,aj];generalize aL t.name++[[58],t.field]++[[40]]++ag x++[[41]]=q2 at hb ⊢;generalize aL t.name++[[58],t.field]=q1 at a1 hb;refine cW xR.eq_1 ?_;rw[kt];exact vK5 hk dx hq a1 hb
def are(hk:t.kind=11):ai A 50 [.agg (aK t)] H=some (.slice (strs (ag t)) true,none):=by
 have hp:bD (.mk t.wn t.wk)=true:=by
  have h4:=hO.b4;unfold rH at h4;rw[decide_eq_true hk] at h4
  simpa using h4
 have hw:=JB 3 (.mk t.wn t.wk) H af hF.w hp;rw[fN] at hw;have hwl:=mW 3 (.mk t.wn t.wk) hF.w;have hl:=Lo (l:=t.kids) (by have:=hF.kl;omega) hK H
 have oc:(ar (t.kids.map ag)).length<=3*100001:=by
  have h1:=jg (t.kids.map ag) 100000 (fun x hx=>by obtain⟨u,hu,rfl⟩:=List.mem_map.1 hx;exact (hK u hu).len)
  rw[List.length_map] at h1;exact axx h1 (axg _ hF.kl)
 have b1:=mO [cz] (bM (.mk t.wn t.wk)) [40] [41] H ae af true true;have b2:=mO ([cz]++[[40]]++bM (.mk t.wn t.wk)++[[41]]) (ar (t.kids.map ag)) [91] [93] H df af true true;have e:ag t=[cz]++[[40]]++bM (.mk t.wn t.wk)++[[41]]++[[91]]++ar (t.kids.map ag)++[[93]]:=by
  rw[bC,hk]
  show [cz]++[[40]]++bM (.mk t.wn t.wk)++[[41]]++[[91]]++ar ((t.kids.map fun t=>(ag t,bo t)).map (·.1))++[[93]]=_
  rw[List.map_map];rfl
 rw[e,aj];generalize [cz]++[[40]]++bM (.mk t.wn t.wk)++[[41]]++[[91]]++ar (t.kids.map ag)++[[93]]=q2 at b2 ⊢;generalize [cz]++[[40]]++bM (.mk t.wn t.wk)++[[41]]=q1 at b1 b2;rw[show strs [cz]=[[.str [76,105,115,116]]] from rfl] at b1
 refine cW xR.eq_1 ?_;exact vK5 hk hw hl b1 b2
end
end
section
def zt{p:List av × Int} : (fV p k).length<=p.1.length+2:=by
 unfold fV;split
 ·simp
 ·omega
section
variable {t:Tm}{h:Nat}(hF:OV h t)(hO:F2 t)(hK:∀ u∈t.kids,uF u)(H:aa)
include hF hO hK
def tk4(hk:t.kind=4):ai A 50 [.agg (aK t)] H=some (.slice (strs (ag t)) true,none):=by
 have _:=hF;have hs:=Jo t.n H
 by_cases s0:(cD t.n).1=[]
 ·exact absurd rfl (gm hO (c1:=-2) (c2:=0) (by rw[hk];simp[bP,s0])).1
 by_cases s7:(cD t.n).2=7
 ·have hc:=gm hO (c1:=1) (c2:=0) (by rw[hk];simp[bP,s0,s7])
  have hl:=hc.2.1 af;obtain⟨x,fU⟩:=wJ (show t.kids.length=1 by omega)
  have hx:=hK x (by rw[fU];simp)
  have dx:=V5 hx 7 H;have lx:=hx.len;have kl:=zt (p:=(ag x,bo x)) (k:=7);simp only at kl;have kt:aF t.kids=[[.int .i64 x.kind,.int .i64 x.n,.str x.name,.str x.field,.str x.wn,.slice (aM x.wk) false,.slice (aF x.kids) false,.slice (strs x.names) false]]:=by
   rw[fU,aF,aF,aj]
  rw[aj] at dx;have e:ag t=[(cD t.n).1]++fV (ag x,bo x) 7:=by rw[bC,hk,fU];rfl
  rw[e,aj];generalize fV (ag x,bo x) 7=kx at dx kl ⊢;generalize (cD t.n).1=sg at hs ⊢;have a1:aC false 1 16 (.slice [[.str sg]] true) (.slice (strs kx) true)=some (.slice (strs ([sg]++kx)) true):=ca (l:=[sg]) df;generalize [sg]++kx=q1 at a1 ⊢;refine cW xR.eq_1 ?_;rw[kt];exact vK5 hk hs s7 dx a1
 ·have hc:=gm hO (c1:=2) (c2:=0) (by rw[hk];simp[bP,s0,s7])
  have hl:=hc.2.1 af;obtain⟨x,y,fU⟩:=ux (show t.kids.length=2 by omega)
  have hx:=hK x (by rw[fU];simp)
  have hy:=hK y (by rw[fU];simp)
  have lx:=hx.len;have ly:=hy.len;obtain⟨lv,uu⟩:∃ lv,lv=(cD t.n).2:=⟨_,rfl⟩;have hlr:0<=lv/\lv<=7:=by
   rw[uu];unfold cD;split
   ·exact⟨aB,aB⟩
   ·rename_i hn
    rcases XA (x:=t.n) af af with e|e|e|e|e|e|e|e|e|e|e|e<;>rw[e]<;>exact⟨aB,aB⟩
  have dx:=fun l=>V5 hx l H
  have dy:=V5 hy (lv+1) H;have kt:aF t.kids=[[.int .i64 x.kind,.int .i64 x.n,.str x.name,.str x.field,.str x.wn,.slice (aM x.wk) false,.slice (aF x.kids) false,.slice (strs x.names) false],
    [.int .i64 y.kind,.int .i64 y.n,.str y.name,.str y.field,.str y.wn,.slice (aM y.wk) false,.slice (aF y.kids) false,.slice (strs y.names) false]]:=by
   rw[fU,aF,aF,aF,aj,aj]
  rw[aj] at dx dy;have e:ag t=fV (ag x,bo x) (if lv=3 then 4 else lv)++[(cD t.n).1]++fV (ag y,bo y) (lv+1):=by rw[bC,hk,fU,uu];rfl
  rw[e,aj];rw[<- uu] at hs s7;have klx:=zt (p:=(ag x,bo x)) (k:=if lv=3 then 4 else lv)
  have kly:=zt (p:=(ag y,bo y)) (k:=lv+1);simp only at klx kly;have dx:=dx (if lv=3 then 4 else lv)
  generalize fV (ag x,bo x) (if lv=3 then 4 else lv)=kx at dx klx ⊢
  generalize fV (ag y,bo y) (lv+1)=ky at dy kly ⊢;generalize (cD t.n).1=sg at hs ⊢;have a1:aC false 1 16 (.slice (strs kx) true) (.slice [[.str sg]] true)=some (.slice (strs (kx++[sg])) true):=fM af;have a2:aC false 1 16 (.slice (strs (kx++[sg])) true) (.slice (strs ky) true)=some (.slice (strs (kx++[sg]++ky)) true):=ca df;generalize kx++[sg]++ky=q2 at a2 ⊢;generalize kx++[sg]=q1 at a1 a2;refine cW xR.eq_1 ?_;rw[kt]
  by_cases l3:lv=3
  ·rw[if_pos l3] at dx
   rw[l3] at hs dy;rw[show (3:Int)+1=4 from rfl] at dy
   exact vK6 hk hs dx dy a1 a2
  ·rw[if_neg l3] at dx
   exact vK6 hk hs dx dy a1 a2
end
end
section
section
variable {t:Tm}{h:Nat}(hF:OV h t)(hO:F2 t)(hK:∀ u∈t.kids,uF u)(H:aa)
include hF hO hK
def tk7(hk:t.kind=7):ai A 50 [.agg (aK t)] H=some (.slice (strs (ag t)) true,none):=by
 have hc:=gm hO (c1:=-1) (c2:=t.kids.length) (by rw[hk];rfl)
 have u9:=hc.2.2;have Gf:=hF.kl;have hq:=wj t.name H (by have:=hF.a;omega)
 have hql:=lK t.name;obtain⟨ws,hws⟩:∃ ws,ws=List.zipWith (fun s (x:List av × Int)=>[s,[61]]++x.1) t.names (t.kids.map fun t=>(ag t,bo t)):=⟨_,rfl⟩
 have hwl:ws.length=t.kids.length:=by rw[hws,azP,List.length_map];omega
 have ft:∀ (i:Nat) (s:av) (u:Tm),t.names[i]?=some s->t.kids[i]?=some u->ws[i]?=some ([s,[61]]++ag u):=by
  intro i s u h1 h2;rw[hws,azF,List.getElem?_map,h1,h2];rfl
 have NK:∀ x∈ws,x.length<=100002:=by
  intro x hx;obtain⟨i,hi⟩:=axu hx;have aP:=(aw5.1 hi).1;have h1:=aw3 (l:=t.names) (i:=i) af;have h2:=aw3 (l:=t.kids) (i:=i) af;have h3:=ft i _ _ h1 h2;rw[hi] at h3;injection h3 with h3
  rw[h3];have:=(hK _ (axn (l:=t.kids) (n:=i) af)).len
  exact iA
 have Yg:∀ i,(ar (ws.take i)).length<=3*100003:=fun i=>by
  have h1:=jg (ws.take i) 100002 (fun x hx=>NK x (axV hx))
  have h2:(ws.take i).length<=3:=by rw[axO];omega
  exact axx h1 (axg _ h2)
 have hb:=mO (aL t.name) (ar ws) [123] [125] H af (by have:=Yg ws.length;rw[axz] at this;omega) true true
 have e:ag t=aL t.name++[[123]]++ar ws++[[125]]:=by rw[bC,hk,hws];rfl
 rw[e,aj];generalize aL t.name++[[123]]++ar ws++[[125]]=out at hb ⊢;refine cW xR.eq_1 ?_;refine P9 hk ?_;refine bK t.kids.length 1 (fun i s=>∃ T,s=⟨T,H,H.length,1⟩/\T 1=.lbox 0 [.int .i64 7,.int .i64 t.n,.str t.name,.str t.field,.str t.wn,.slice (aM t.wk) false,.slice (aF t.kids) false,.slice (strs t.names) false]/\T 8=.slice (strs (ar (ws.take i))) true/\T 9=.int .i64 i)
  (fun s=>∃ T,s=⟨T,H,H.length,1⟩/\T 1=.lbox 0 [.int .i64 7,.int .i64 t.n,.str t.name,.str t.field,.str t.wn,.slice (aM t.wk) false,.slice (aF t.kids) false,.slice (strs t.names) false]/\T 8=.slice (strs (ar ws)) true) (fun _=>False) ?_ ?_ (fun _ h=>h.elim) 0 _ (axh _) ?_
 ·rintro i st hi ⟨T,rfl,e1,e8,e9⟩
  by_cases aP:i<t.kids.length
  ·obtain⟨u,hu⟩:∃ u,t.kids[i]?=some u:=⟨_,aw3 aP⟩
   obtain⟨s,hs⟩:∃ s,t.names[i]?=some s:=⟨_,aw3 af⟩;have hw:=ft i s u hs hu;have hm:=hK u (axc hu);have du:=hm.d H;have lu:=hm.len;have atk:=BT hu;have atn:=gY hs;rw[aj] at du atk;have mD:ws.take (i+1)=ws.take i++[[s,[61]]++ag u]:=by rw[ayr,hw];rfl
   have BD:=jJ ([s,[61]]++ag u) (ws.take i);rw[<- mD] at BD;have yV:=Yg i
   by_cases h0:i=0
   ·subst h0
    simp only[axQ,ayE] at BD e8;have a1:aC false 1 16 (.slice (strs (ar [])) true) (.slice [[.str s],[.str [61]]] true)=some (.slice (strs [s,[61]]) true):=ca (l:=[]) (m:=[s,[61]]) ae;have a2:aC false 1 16 (.slice (strs [s,[61]]) true) (.slice (strs (ag u)) true)=some (.slice (strs ([s,[61]]++ag u)) true):=ca df;generalize [s,[61]]++ag u=q2 at a2 BD;generalize [s,[61]]=q1 at a1 a2;refine l8 e1 e8 e9 @cx atk (j4 atn du a1 a2) ?_;exact⟨aP,_,rfl,cV e1,by rw[BD];exact Lw tv,dS⟩
   ·have da:¬ (ws.take i=[]):=fun e=>by
     have:=ayj List.length e
     rw[axO,List.length_nil] at this;omega
    rw[if_neg da,<- axf] at BD;generalize ar (ws.take i)=acc at e8 yV BD;have a0:aC false 1 16 (.slice (strs acc) true) (.slice [[.str [44]]] true)=some (.slice (strs (acc++[[44]])) true):=fM af;have a1:aC false 1 16 (.slice (strs (acc++[[44]])) true) (.slice [[.str s],[.str [61]]] true)=some (.slice (strs (acc++[[44]]++[s,[61]])) true):=ca (m:=[s,[61]]) df;have a2:aC false 1 16 (.slice (strs (acc++[[44]]++[s,[61]])) true) (.slice (strs (ag u)) true)=some (.slice (strs (acc++[[44]]++[s,[61]]++ag u)) true):=ca df;generalize acc++[[44]]++[s,[61]]++ag u=q2 at a2 BD;generalize acc++[[44]]++[s,[61]]=q1 at a1 a2;generalize acc++[[44]]=q0 at a0 a1;refine l8 e1 e8 e9 @cx atk (j5 atn du a0 a1 a2) ?_;exact⟨aP,_,rfl,cV e1,by rw[BD];exact Lw tv,dS⟩
  ·rw[axy af] at e8
   refine ry e1 e9 @cx ?_;exact⟨_,rfl,cV e1,cV e8⟩
 ·rintro st ⟨T,rfl,e1,e8⟩
  exact vK4 e1 e8 hq hb
 ·exact⟨_,rfl,dS,Wt @ar.eq_1 @strs.eq_1 tv,dS⟩
end
end
end Go.Proofs.YtkoebdjmmgckdaaGreatDoor
end
