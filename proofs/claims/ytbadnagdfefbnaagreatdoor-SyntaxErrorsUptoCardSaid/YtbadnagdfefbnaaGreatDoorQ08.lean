/-
  A part of the proof of SyntaxErrors: U3, U4, U5, U6, U7, U9, U8, U10, U11, U12, U13, U14, U15, U16, U17, U18, U19, U20, U21, U22, U23.
-/
import Derived.Test.YtbadnagdfefbnaaGreatDoorQ07
set_option linter.unusedSimpArgs false
set_option linter.unusedVariables false
set_option linter.defProp false
set_option maxHeartbeats 1000000
set_option maxRecDepth 100000
noncomputable section
namespace Go.Proofs.YtbadnagdfefbnaaGreatDoor
open Go Go.Abs Go.Proofs
variable {o:Bool}{k p p' p1 x:Int}{cs:List AV}{d i j m:Nat}{α:Type}{a:ay}
def cV(k:Int):ay->Nat
 | []=>0
 | c :: r=>if kindOf c=2\/kindOf c=1/\k=1 then 1+cV k r else 0
def qi(k:Int):∀ s:ay,cV k s<=s.length
 | []=>Nat.le_refl _
 | c :: r=>by
  have:=qi k r
  simp only[cV,List.length_cons];split<;>omega
def gI:ay->Nat
 | []=>0
 | b :: r=>if 0<kindOf b then (if 16<1+cV (kindOf b) r then 0 else 1+cV (kindOf b) r)
  else if 1<=r.length/\lj ((b :: r).take 2)=true then 2 else if lj [b]=true then 1 else 0
theorem zt:∀ s:ay,gI s<=s.length
 | []=>Nat.le_refl _
 | b :: r=>by
  have:=qi (kindOf b) r
  simp only[gI,List.length_cons]
  grind
theorem H2(c:UInt8):kindOf c=0\/kindOf c=1\/kindOf c=2:=by
 unfold kindOf
 grind
theorem aaX(s:ay)(at' : Nat)(H:ae)(gn:at' < s.length)(hs:s.length<=4611686018427387904) :
  aj A 74 [.str s,.int .i64 at'] H=some (.int .i64 (if gI (s.drop at')=0 then -1 else ((at' + gI (s.drop at'):Nat):Int)),none):=by
 refine cJ (fn:=aet) rfl rfl rfl ?_;unfold aet;have hd:=avr gn;generalize hb:s[at']=b at hd;have kO:s[at']?=some b:=by rw[au5 gn,hb]
 refine nE2 kO @xx ?_;refine jC ?_ ?_<;>intro hk
 ·have Yk:gI (s.drop at')=if 16<1+cV (kindOf b) (s.drop (at' + 1)) then 0 else 1+cV (kindOf b) (s.drop (at' + 1)):=by
   rw[hd];simp only[gI,if_pos hk]
  refine nE0 ?_;refine cg s.length 0 (fun i=>Hd (fun T=>T 0=.str s/\T 1=.int .i64 at'/\T 5=.int .i64 (kindOf b)/\T 6=.int .i64 i/\at' + 1+cV (kindOf b) (s.drop (at' + 1))=i+cV (kindOf b) (s.drop i)) H H.length 0)
   (Hd (fun T=>T 1=.int .i64 at'/\T 6=.int .i64 ((at' + 1+cV (kindOf b) (s.drop (at' + 1)):Nat):Int)) H H.length 0) (fun _=>False) ?_ ?_ (fun _ h=>h.elim) (at' + 1) _ ah ?_
  ·rintro i st hi iz
   obtain⟨T,rfl,h0,h1,h5,h6,hc⟩:=iz.out
   by_cases h:(i:Int)<s.length
   ·have kP:i<s.length:=ah
    rw[avr kP] at hc;simp only[cV] at hc;have Bp:s[i]?=some s[i]:=au5 kP;generalize s[i]=c at hc Bp
    by_cases k2:kindOf c=2
    ·rw[if_pos (.inl k2)] at hc
     refine nE4 h0 h1 h5 (j5 h6 h Bp @xx k2) ?_;omega
    by_cases k1:kindOf c=1
    ·by_cases kb:kindOf b=1
     ·rw[if_pos (.inr ⟨k1,kb⟩)] at hc
      rw[kb] at h5 hc ⊢;refine nE4 h0 h1 (j2 h5 h6) (j5 h Bp @xx k1 @Int.reduceBEq.eq_1) ?_;omega
     ·rw[if_neg (by simp[k1,kb])] at hc
      refine nE4 h0 h1 (j3 h5 h6 h) (j5 Bp @xx k1 (show (kindOf b==1)=false by simpa using kb) @Int.reduceBEq.eq_1) ?_
      omega
    ·have k0:kindOf c=0:=by rcases H2 c with h|h|h<;>simp_all
     rw[if_neg (by simp[k0])] at hc
     refine nE4 h0 h1 h6 (j5 h Bp @xx k0 @Int.reduceBEq.eq_1) ?_;omega
   ·have:i=s.length:=ah
    subst this;rw[awB] at hc;simp only[cV] at hc;refine nE4 h0 h1 h6 h ?_;omega
  ·intro st iz
   obtain⟨T,rfl,h1,h6⟩:=iz.out;have hle:=qi (kindOf b) (s.drop (at' + 1));rw[avF] at hle;rw[Yk];generalize cV (kindOf b) (s.drop (at' + 1))=w at h6 hle;refine nE2 h1 h6 ?_;refine jC ?_ ?_<;>intro h16
   ·simp(disch:=omega)only[jq,aa,simprocAttr,if_pos (show 16<1+w by omega)]
   ·simp(disch:=omega)only[jq,aa,simprocAttr,if_neg (show ¬ 16<1+w by omega),h6,if_neg (show ¬ 1+w=0 by omega)]
    omega
  ·exact vE0
 ·have Yk:gI (s.drop at')=if 1<=(s.drop (at' + 1)).length/\lj ((b :: s.drop (at' + 1)).take 2)=true then 2 else if lj [b]=true then 1 else 0:=by
   rw[hd];simp only[gI,if_neg hk]
  have e1:List.drop at' (List.take (at' + 1) s)=[b]:=by
   grind
  have e2:List.drop at' (List.take (at' + 2) s)=(b :: s.drop (at' + 1)).take 2:=by
   grind
  generalize (b :: s.drop (at' + 1)).take 2=two at e2 Yk;have e3:(s.drop (at' + 1)).length=s.length-(at' + 1):=avF ..;rw[Yk,e3]
  by_cases h2:(at' : Int)+1<s.length
  ·cases xp:lj two with
   | true =>
    refine nE4 h2 e2 @Nl xp ?_;rw[if_pos (show 1<=s.length-(at' + 1) by omega)]
    rw[if_neg ah];rfl
   | false =>
    cases qK:lj [b] <;>
    simp(disch:=omega)only[jq,aa,simprocAttr,h2,e2,e1,Nl,xp,qK,awj,and_false]<;>rfl
  ·have hn:¬ 1<=s.length-(at' + 1):=ah
   cases qK:lj [b] <;>
   simp(disch:=omega)only[jq,aa,simprocAttr,h2,e1,Nl,qK,hn,false_and,awj]<;>rfl
def My(H:ae):aj A 121 [] H=some (.slice (strs fF) true,none):=by
 refine cJ (fn:=Uk) rfl rfl rfl ?_;unfold Uk;simp only[WJ,Lb,VK,xK,ack,La,GQ];refine ab9 (.slice (strs fF) true) Lk ?_;exact vE0
def isWord(s:ay):Bool:=match s with
 | []=>false
 | b :: _=>decide (kindOf b=1)&&!fF.contains s&&decide (gI s=s.length)
theorem qW(s:ay)(H:ae)(hs:s.length<=4611686018427387904):aj A 76 [.str s] H=some (.bool (isWord s),none):=by
 refine cJ (fn:=aev) rfl rfl rfl ?_;unfold aev;cases wA:s with
 | nil=>exact nE1 @isWord.eq_1 tv
 | cons b r =>
 rw[<- wA];have hl:((s.length:Int)==0)=false:=by rw[wA];simp;omega
 have hb:s[0]?=some b:=by rw[wA];rfl
 by_cases hk:kindOf b=1
 ·simp(disch:=omega)only[jq,aa,simprocAttr,hl,hb,xx,hk,bne_self_eq_false,My]
  have h27:fF.length=27:=rfl;refine cg 27 0 (fun i=>Hd (fun T=>T 0=.str s/\T 3=.slice (strs fF) true/\T 4=.int .i64 i/\fF.contains s=(fF.drop i).contains s) H H.length 0)
   (Hd (fun T=>T 0=.str s/\fF.contains s=false) H H.length 0) (Hd (fun T=>T 2=.bool false/\fF.contains s=true) H H.length 0) ?_ ?_ ?_ 0 _ ah ?_
  ·rintro i st hi iz
   obtain⟨T,rfl,h0,h3,h4,hc⟩:=iz.out;refine nE4 h3 h4 @bV h27 ?_;refine jC ?_ ?_<;>intro h
   ·have kP:i<fF.length:=by rw[h27];omega
    refine nE4 h0 h3 h4 (iD (au5 kP)) ?_;refine jO ?_ ?_<;>intro hb
    ·simp(disch:=omega)only[jq,aa,simprocAttr,hc,avr kP,awN,show (s==fF[i])=true by rw[avM] at hb ⊢;exact hb.symm]
    ·refine nE3 h0 h3 h4 ?_
     exact⟨ah,by rw[hc,avr kP,awN,show (s==fF[i])=false by rw[axU] at hb ⊢;exact hb.symm,av3]⟩
   ·have:i=27:=ah
    subst this;rw[show fF.drop 27=[] from rfl] at hc
    simp(disch:=omega)only[jq,aa,simprocAttr,h0,hc,List.contains_nil]
  ·intro st iz
   obtain⟨T,rfl,h0,hc⟩:=iz.out;have e1:=aaX s 0 H (by rw[wA];simp) hs
   rw[List.drop_zero] at e1;rw[Int.natCast_zero] at e1;refine nE2 h0 e1 ?_;have hw:isWord s=decide (gI s=s.length):=by rw[wA] at hc ⊢;simp only[isWord,hk,hc,axY,awd,avE]
   grind
  ·intro st iz
   obtain⟨T,rfl,h2,hc⟩:=iz.out;have hw:isWord s=false:=by rw[wA] at hc ⊢;simp only[isWord,hc,av8,Bool.and_false,avt]
   exact vE2 h2 hw
  ·exact vE0
 ·have hw:isWord s=false:=by rw[wA];simp only[isWord,hk,decide_false,avt]
  exact vE5 hl hb xx (show (kindOf b != 1)=true by simpa using hk) hw
section
def lK{n:Int}(hk:0<k):0<=mr n k/\mr n k<k:=by
 unfold mr;have h0:(0:Int)<=(if n<0 then -(n+1) else n):=by split<;>omega
 rw[avW h0];exact⟨Int.emod_nonneg _ ah,Int.emod_lt_of_pos _ hk⟩
theorem FP{l:List Int}{i:Int}(hk:0<k):0<=atZ l i k/\atZ l i k<k:=by
 unfold atZ;split
 ·grind
 ·exact lK hk
inductive Wd where
 | mk (name:ay) (kids:List Wd)
inductive Tm where
 | mk (kind n:Int) (name field wn:ay) (wk:List Wd) (kids:List Tm) (names:List ay)
def Wd.name:Wd->ay|.mk n _=>n
def Wd.kids:Wd->List Wd|.mk _ k=>k
def Tm.kind:Tm->Int|.mk k _ _ _ _ _ _ _=>k
def Tm.n:Tm->Int|.mk _ n _ _ _ _ _ _=>n
def Tm.name:Tm->ay|.mk _ _ a _ _ _ _ _=>a
def Tm.field:Tm->ay|.mk _ _ _ f _ _ _ _=>f
def Tm.wn:Tm->ay|.mk _ _ _ _ w _ _ _=>w
def Tm.wk:Tm->List Wd|.mk _ _ _ _ _ w _ _=>w
def Tm.kids:Tm->List Tm|.mk _ _ _ _ _ _ k _=>k
def Tm.names:Tm->List ay|.mk _ _ _ _ _ _ _ n=>n
mutual
def gX:Wd->List AV
 | .mk n ks=>[.str n,.slice (aH ks) false]
def aH:List Wd->List (List AV)
 | []=>[]
 | w :: r=>gX w :: aH r
end
mutual
def aM:Tm->List AV
 | .mk k n a f wn wk ks ns=>[.int .i64 k,.int .i64 n,.str a,.str f,.str wn,.slice (aH wk) false,.slice (aC ks) false,.slice (strs ns) false]
def aC:List Tm->List (List AV)
 | []=>[]
 | t :: r=>aM t :: aC r
end
def iA(w:Wd):gX w=[.str w.name,.slice (aH w.kids) false]:=by cases w;simp only[gX,Wd.name,Wd.kids]
theorem ai(t:Tm):aM t=[.int .i64 t.kind,.int .i64 t.n,.str t.name,.str t.field,.str t.wn,.slice (aH t.wk) false,.slice (aC t.kids) false,.slice (strs t.names) false]:=by
 cases t;simp only[aM,Tm.kind,Tm.n,Tm.name,Tm.field,Tm.wn,Tm.wk,Tm.kids,Tm.names]
def vp:∀ l:List Wd,aH l=l.map gX
 | []=>by simp[aH]
 | t :: r=>by simp[aH,vp r]
theorem ki:∀ l:List Tm,aC l=l.map aM
 | []=>by simp[aC]
 | t :: r=>by simp[aC,ki r]
def iw{l:List Wd} : (aH l).length=l.length:=by rw[vp];simp
theorem cO{l:List Tm} : (aC l).length=l.length:=by rw[ki];simp
def acj{l:List Wd}{e:Wd}(h:l[i]?=some e):(aH l)[i]?=some (gX e):=by rw[vp];simp[h]
def DU{l:List Tm}{e:Tm}(h:l[i]?=some e):(aC l)[i]?=some (aM e):=by rw[ki];simp[h]
def Fe:Nat->Wd->Prop
 | 0,w=>w.name.length<=1100000/\w.kids=[]
 | h+1,w=>w.name.length<=1100000/\w.kids.length<=1/\∀ k∈w.kids,Fe h k
inductive RP:Nat->Tm->Prop where
 | mk (h:Nat) (k n:Int) (a f wn:ay) (wk:List Wd) (ks:List Tm) (ns:List ay) (h1:-2199023255552<=n/\n<=2199023255552) (hk:-100<=k/\k<=100) (h2:a.length<=1100000/\f.length<=1100000)
   (h3:Fe 3 (.mk wn wk)) (h4:ks.length<=3) (h5:∀ t∈ks,RP h t) (h6:ns.length<=8/\∀ s∈ns,s.length<=1100000):RP (h+1) (.mk k n a f wn wk ks ns)
inductive AF (m:Nat):Nat->Tm->Prop where
 | mk (h:Nat) (k n:Int) (a f wn:ay) (wk:List Wd) (ks:List Tm) (ns:List ay) (h1:-2199023255552<=n/\n<=2199023255552) (hk:-100<=k/\k<=100) (h2:a.length<=1100000/\f.length<=1100000)
   (h3:Fe 3 (.mk wn wk)) (h4:ks.length<=3) (h5:∀ t∈ks,AF m h t) (h6:ns.length<=m/\∀ s∈ns,s.length<=1100000):AF m (h+1) (.mk k n a f wn wk ks ns)
def AF.le(hm:m<=8):∀ (h h' : Nat) (t:Tm),h<=h'->AF m h t->RP h' t
 | 0,_,t,_,hb=>by cases hb
 | h+1,0,t,hh,_=>ah
 | h+1,h' + 1,t,hh,hb=>by
  cases hb with
  | mk h k n a f wn wk ks ns h1 hk h2 h3 h4 h5 h6=>exact .mk h' k n a f wn wk ks ns h1 hk h2 h3 h4 (fun u hu=>AF.le hm h h' u ah (h5 u hu)) ⟨ah,h6.2⟩
def AF.up{m':Nat}(hm:m<=m'):∀ (h h' : Nat) (t:Tm),h<=h'->AF m h t->AF m' h' t
 | 0,_,t,_,hb=>by cases hb
 | h+1,0,t,hh,_=>ah
 | h+1,h' + 1,t,hh,hb=>by
  cases hb with
  | mk h k n a f wn wk ks ns h1 hk h2 h3 h4 h5 h6=>exact .mk h' k n a f wn wk ks ns h1 hk h2 h3 h4 (fun u hu=>AF.up hm h h' u ah (h5 u hu)) ⟨ah,h6.2⟩
def bO{f:FuncId}{fn:aB}(ho:A.ov f=none)(hf:A.fns f=some fn){args:List AV}{H:ae}{r:AV × Option fP}(hn:Nat.beq args.length fn.np=true)(hm:fn.muts.elem 777777=true)
  (h:W A fn.body { T:=fi args,H,lo:=H.length,gen:=0 } (AM H.length fn.results fun x=>(nh x.1,x.2)=r)):aj A f args H=some r:=by
 obtain⟨r',h1,h2⟩:=nF (P:=fun x=>x=r) ho hf hn hm h
 rw[h1,h2]
def cH{cs:List AV} : nh (.agg cs)=.agg (cs.map n2):=rfl
def ae8 : nh (.tuple cs)=.tuple (cs.map n3):=rfl
def ae5{k:IntKind}{n:Int} : nh (.int k n)=.int k n:=rfl
def MW{l:ay} : nh (.str l)=.str l:=rfl
def ae6{e:List (List AV)} : nh (.slice e false)=.slice (e.map fun r=>r.map n1) false:=rfl
def ae7{e:List (List AV)} : nh (.slice e true)=.slice e true:=rfl
def aeV : n3 (.agg cs)=.agg (cs.map n2):=rfl
def aeW{k:IntKind}{n:Int} : n3 (.int k n)=.int k n:=rfl
def dC{k:IntKind}{n:Int} : n2 (.int k n)=.int k n:=rfl
def cG{l:ay} : n2 (.str l)=.str l:=rfl
def cT:n2 .ar=.slice [] false:=rfl
def fp{e:List (List AV)} : n2 (.slice e false)=.slice (e.map fun r=>r.map n1) false:=rfl
def lk{k:IntKind}{n:Int} : n1 (.int k n)=.int k n:=rfl
def jX{l:ay} : n1 (.str l)=.str l:=rfl
def mY{e:List (List AV)}{o:Bool} : n1 (.slice e o)=.slice e o:=rfl
def aod{w:Wd} : (gX w).map n1=gX w:=by rw[iA];rfl
def aoc{t:Tm} : (aM t).map n1=aM t:=by rw[ai];rfl
def Y3{l:List Wd} : ((aH l).map fun r=>r.map n1)=aH l:=by
 rw[vp,awh];exact List.map_congr_left fun w _=>aod
def Kr{l:List Tm} : ((aC l).map fun r=>r.map n1)=aC l:=by
 rw[ki,awh];exact List.map_congr_left fun w _=>aoc
def Dn{l:List ay} : ((strs l).map fun r=>r.map n1)=strs l:=by
 rw[strs,awh];exact List.map_congr_left fun w _=>rfl
structure Cc where
 mm:Nat
 l:List Int
def XA(c:Cc)(p:Int):List AV:=[.slice (ints c.l) false,.int .i64 p]
def cX(c:Cc)(p:Int)(H:ae):ae:=H.set c.mm (.box 89 (XA c p))
structure CH (c:Cc) (p:Int) (H:ae):Prop where
 h0:H[c.mm]?=some (.box 89 (XA c p))
 hl:∀ n∈c.l,BD n
 len:H.length=c.mm+1
def CH.lt{c:Cc}{H:ae}(h:CH c p H):c.mm<H.length:=(au7.1 h.h0).1
def CH.set{c:Cc}{H:ae}(h:CH c p H):CH c p' (cX c p' H):=⟨by unfold cX;rw[List.getElem?_set_self h.lt],h.hl,by unfold cX;rw[List.length_set];exact h.len⟩
theorem bo{c:Cc}{H:ae} : cX c p (cX c p' H)=cX c p H:=by unfold cX;rw[List.set_set]
def We{c:Cc}{H:ae} : (cX c p H).length=H.length:=by unfold cX;rw[List.length_set]
def bC{c:Cc}{p:Int}{H:ae} : (cX c p H).take H.length=cX c p H:=List.take_of_length_le (awn We)
def G0{H:ae}{i:Nat}{o:bS} : (H.set i o).take H.length=H.set i o:=List.take_of_length_le (awn List.length_set)
theorem CH.open{c:Cc}{H:ae}(h:CH c p H)(cs:List AV):ni H.length c.mm (H.set c.mm (.box 89 cs))=true:=by
 have h1:((H.set c.mm (.box 89 cs)).take H.length).drop c.mm=[.box 89 cs]:=by
  rw[G0];refine awH fun j=>?_
  rw[av9,av2];cases j with
  | zero=>simp[h.lt]
  | succ j =>
   rw[if_neg ah,List.getElem?_eq_none (by have:=h.len;omega)]
   simp
 unfold ni
 grind
def CH.jv{c:Cc}{H:ae}(h:CH c p H):ni H.length c.mm (cX c p' H)=true:=h.open _
def mL{c:Cc}{H:ae}(h:CH c p H)(n:Int)(hn:0<n):∃ x p',0<=x/\x<n/\aj A 34 [.ref c.mm 0,.int .i64 n] H=some (.int .i64 x,some ⟨cX c p' H,c.mm⟩):=by
 refine⟨atZ c.l (IntKind.i64.wrap (IntKind.i64.wrap (p+1)-1)) n,IntKind.i64.wrap (p+1),(FP hn).1,(FP hn).2,?_⟩;refine bO (fn:=aem) rfl rfl rfl rfl ?_;unfold aem;have h0:=h.h0;have aZ:=h.lt;have gn:=fun i H=>alR c.l i n H h.hl hn
 have dN:=h.open;have iz:∀ x:bS,(H.set c.mm x)[c.mm]?=some x:=fun x=>List.getElem?_set_self aZ
 rw[XA] at h0;exact nO5 h0 iz dN @G0 (j5 gn @ae5 @XA.eq_1 @cX.eq_1 @ax.eq_1) tv
def MR:List ay:=[[97],[98],[102],[80,111,105,110,116],[83,104,97,112,101],[120,49],[99,111,114,101],[117]]
def lt8(h0:0<=x)(h1:x<8):x=0\/x=1\/x=2\/x=3\/x=4\/x=5\/x=6\/x=7:=ah
def oE{c:Cc}{H:ae}(h:CH c p H):∃ s p',s∈MR/\aj A 33 [.ref c.mm 0] H=some (.str s,some ⟨cX c p' H,c.mm⟩):=by
 obtain⟨x,p',h0,h1,fg⟩:=mL h 8 ah;have aZ:=h.lt;have dN:=h.jv (p':=p');refine⟨(MR[x.toNat]?).getD [],p',?_,?_⟩
 ·rcases lt8 h0 h1 with rfl|rfl|rfl|rfl|rfl|rfl|rfl|rfl<;>decide
 ·refine bO (fn:=ael) rfl rfl rfl rfl ?_
  unfold ael
  rcases lt8 h0 h1 with rfl|rfl|rfl|rfl|rfl|rfl|rfl|rfl
  all_goals
   refine nO4 fg dN @bC @MW ?_;rfl
section
variable {P Q A B C D E F G H:Prop}
def nT0  (q:Q)(z:P=Q:=by simp(disch:=omega)only[aO,aa,simprocAttr,Tm.kind,Tm.n,Tm.name,Tm.field,Tm.wn,Tm.wk,Tm.kids,Tm.names,aC,aH,strs,ax]<;>rfl):P:=z.mpr q
def nT1(a:A)(q:Q)(z:(A->P=Q):=by intro a;simp(disch:=omega)only[aO,aa,simprocAttr,Tm.kind,Tm.n,Tm.name,Tm.field,Tm.wn,Tm.wk,Tm.kids,Tm.names,aC,aH,strs,ax,a]<;>rfl):P:=(z a).mpr q
def nT2(a:A)(b:B)(q:Q)(z:(A->B->P=Q):=by intro a b;simp(disch:=omega)only[aO,aa,simprocAttr,Tm.kind,Tm.n,Tm.name,Tm.field,Tm.wn,Tm.wk,Tm.kids,Tm.names,aC,aH,strs,ax,a,b]<;>rfl):P:=(z a b).mpr q
def nT3(a:A)(b:B)(c:C)(q:Q)(z:(A->B->C->P=Q):=by intro a b c;simp(disch:=omega)only[aO,aa,simprocAttr,Tm.kind,Tm.n,Tm.name,Tm.field,Tm.wn,Tm.wk,Tm.kids,Tm.names,aC,aH,strs,ax,a,b,c]<;>rfl):P:=(z a b c).mpr q
def nT4(a:A)(b:B)(c:C)(d:D)(q:Q)(z:(A->B->C->D->P=Q):=by intro a b c d;simp(disch:=omega)only[aO,aa,simprocAttr,Tm.kind,Tm.n,Tm.name,Tm.field,Tm.wn,Tm.wk,Tm.kids,Tm.names,aC,aH,strs,ax,a,b,c,d]<;>rfl):P:=(z a b c d).mpr q
def nT5(a:A)(b:B)(c:C)(d:D)(e:E)(q:Q)(z:(A->B->C->D->E->P=Q):=by intro a b c d e;simp(disch:=omega)only[aO,aa,simprocAttr,Tm.kind,Tm.n,Tm.name,Tm.field,Tm.wn,Tm.wk,Tm.kids,Tm.names,aC,aH,strs,ax,a,b,c,d,e]<;>rfl):P:=(z a b c d e).mpr q
end
end
variable {b:Tm}{w:Wd}
theorem jc:∀ s∈MR,s.length<=5:=aI
def xA{c:Cc}{H:ae}(h:CH c p H):∃ s p',s.length<=1100000/\aj A 82 [.ref c.mm 0] H=some (.str s,some ⟨cX c p' H,c.mm⟩):=by
 obtain⟨x,p1,h0,h1,fg⟩:=mL h 4 ah;obtain⟨s,p2,hs,rQ⟩:=oE (h.set (p':=p1));rw[bo] at rQ;have qv:=jc s hs;have dN:=h.jv (p':=p2);have aZ:=h.lt
 by_cases hx:x=1
 ·subst hx
  refine⟨[107,46]++s,p2,dq,bO (fn:=UJ) rfl rfl rfl rfl ?_⟩;unfold UJ;exact nO5 fg rQ dN @bC @MW tv
 ·refine⟨s,p2,ah,bO (fn:=UJ) rfl rfl rfl rfl ?_⟩
  unfold UJ;exact nO5 fg rQ dN @bC @MW tv
def tL{s:ay}(h:s.length<=1100000):Fe d (.mk s []):=by
 cases d with
 | zero=>exact⟨h,rfl⟩
 | succ d=>exact⟨h,by simp[Wd.kids],by simp[Wd.kids]⟩
def aan(h:Fe d w):Fe (d+1) (.mk [76,105,115,116] [w]):=⟨by simp[Wd.name],by simp[Wd.kids],by simp[Wd.kids];exact h⟩
def Ka{c:Cc} : ∀ (d:Nat) (p:Int) (H:ae),d<=100->CH c p H->∃ w p',Fe d w/\aj A 36 [.ref c.mm 0,.int .i64 d] H=some (.agg (gX w),some ⟨cX c p' H,c.mm⟩):=by
 intro d
 induction d with
 | zero =>
  intro p H hd h;obtain⟨x,p1,h0,h1,fg⟩:=mL h 5 ah;obtain⟨s,p2,hs,uO⟩:=xA (h.set (p':=p1));rw[bo] at uO;have dN:=h.jv (p':=p1);have adU:=h.jv (p':=p2);have aZ:=h.lt
  by_cases nY:x=1
  ·refine⟨.mk [66,111,111,108] [],p1,tL aI,bO (fn:=xr) rfl rfl rfl rfl ?_⟩
   unfold xr;exact nO5 fg dN @bC @cH (j5 @cG @cT @gX.eq_1 @aH.eq_1 @ax.eq_1) tv
  by_cases D9:x=2
  ·refine⟨.mk s [],p2,tL hs,bO (fn:=xr) rfl rfl rfl rfl ?_⟩
   unfold xr;exact nO5 fg uO adU (j2 @bC @cH) (j5 @cG @cT @gX.eq_1 @aH.eq_1 @ax.eq_1) tv
  by_cases hx3:x=3
  all_goals
   refine⟨.mk [73,110,116] [],p1,tL aI,bO (fn:=xr) rfl rfl rfl rfl ?_⟩;unfold xr;exact nO5 fg dN @bC @cH (j5 @cG @cT @gX.eq_1 @aH.eq_1 @ax.eq_1) tv
 | succ d ih =>
  intro p H hd h;obtain⟨x,p1,h0,h1,fg⟩:=mL h 5 ah;obtain⟨s,p2,hs,uO⟩:=xA (h.set (p':=p1));rw[bo] at uO;obtain⟨w,p3,hw,abe⟩:=ih p1 (cX c p1 H) ah h.set;rw[bo,iA] at abe;have dN:=h.jv (p':=p1);have adU:=h.jv (p':=p2);have anf:=h.jv (p':=p3);have aZ:=h.lt;have z7:(d:Int)+1-1=d:=ah
  by_cases nY:x=1
  ·refine⟨.mk [66,111,111,108] [],p1,tL aI,bO (fn:=xr) rfl rfl rfl rfl ?_⟩
   unfold xr;exact nO5 fg dN @bC @cH (j5 @cG @cT @gX.eq_1 @aH.eq_1 @ax.eq_1) tv
  by_cases D9:x=2
  ·refine⟨.mk s [],p2,tL hs,bO (fn:=xr) rfl rfl rfl rfl ?_⟩
   unfold xr;exact nO5 fg uO adU (j2 @bC @cH) (j5 @cG @cT @gX.eq_1 @aH.eq_1 @ax.eq_1) tv
  by_cases hx3:x=3
  ·refine⟨.mk [76,105,115,116] [w],p3,aan hw,bO (fn:=xr) rfl rfl rfl rfl ?_⟩
   unfold xr;simp(disch:=omega)only[dm,aa,simprocAttr,fg,z7,abe,anf,ax,bC,cH,cG,fp,jX,mY,gX,aH,iA]
  ·refine⟨.mk [73,110,116] [],p1,tL aI,bO (fn:=xr) rfl rfl rfl rfl ?_⟩
   unfold xr;exact nO5 fg dN @bC @cH (j5 @cG @cT @gX.eq_1 @aH.eq_1 @ax.eq_1) tv
def jk{t:Tm} : (aM t).length=8:=by rw[ai];rfl
theorem aov{t:Tm} : RH (aM t)=true:=by
 grind [ai,VM,VL,ab1,ab3,ab2]
theorem af5{l:List Tm} : wm 8 (aC l):=by
 rw[ki];exact⟨fun r hr=>by simp only[List.mem_map] at hr;obtain⟨n,_,rfl⟩:=hr;exact jk,Al fun r hr=>by simp only[List.mem_map] at hr;obtain⟨n,_,rfl⟩:=hr;exact aov⟩
theorem R'{l m:List Tm}(h:l.length+m.length<=100000000):aG false 8 136 (.slice (aC l) true) (.slice (aC m) o)=some (.slice (aC (l++m)) true):=by
 grind [wV,af5,cO,ki]
def aaI{l:List Tm}{t:Tm}{o:Bool}(h:l.length<=10000000):aG false 8 136 (.slice (aC l) true) (.slice [[.int .i64 t.kind,.int .i64 t.n,.str t.name,.str t.field,.str t.wn,.slice (aH t.wk) false,.slice (aC t.kids) false,.slice (strs t.names) false]] o)=some (.slice (aC (l++[t])) true):=by
 have:=R' (l:=l) (m:=[t]) (o:=o) dq
 rw[show aC [t]=[aM t] by simp[aC],ai] at this
 exact this
def ts0:aC []=[]:=by simp[aC]
def Ce(c:Cc)(d:Nat):Prop:=∀ (p:Int) (H:ae),CH c p H->∃ t p',AF 4 (d+1) t/\aj A 37 [.ref c.mm 0,.int .i64 d] H=some (.agg (aM t),some ⟨cX c p' H,c.mm⟩)
theorem Ix{c:Cc}(hS:Ce c d)(jI:Int)(h0:0<=jI/\jI<=1000)(p:Int)(H:ae)(h:CH c p H) :
  ∃ l p',(l.length:Int)<=jI/\(∀ t∈l,AF 4 (d+1) t)/\aj A 83 [.ref c.mm 0,.int .i64 d,.int .i64 jI] H=some (.slice (aC l) false,some ⟨cX c p' H,c.mm⟩):=by
 have key:∃ r,aj A 83 [.ref c.mm 0,.int .i64 d,.int .i64 jI] H=some r/\∃ l p',(l.length:Int)<=jI/\(∀ t∈l,AF 4 (d+1) t)/\r=(.slice (aC l) false,some ⟨cX c p' H,c.mm⟩):=by
  obtain⟨x,p1,D8,nY,fg⟩:=mL h (jI+1) ah;have aZ:=h.lt;refine nF (fn:=aey) rfl rfl rfl rfl ?_;unfold aey;refine nO1 fg ?_;refine cg x.toNat 0 (fun i s=>∃ T p1 acc,s=⟨T,cX c p1 H,c.mm,0⟩/\T 0=.ref c.mm 0/\T 1=.int .i64 d/\T 7=.slice (aC acc) true/\T 8=.int .i64 x/\T 9=.int .i64 i/\acc.length=i/\∀ t∈acc,AF 4 (d+1) t)
   (fun s=>∃ T p1 acc,s=⟨T,cX c p1 H,c.mm,0⟩/\T 7=.slice (aC acc) true/\(acc.length:Int)<=jI/\∀ t∈acc,AF 4 (d+1) t) (fun _=>False) ?_ ?_ (fun _ h=>h.elim) 0 _ ah ?_
  ·rintro i s hi ⟨T,p1,acc,rfl,e0,e1,e7,e8,e9,hl,hb⟩
   by_cases hc:(i:Int)<x
   ·obtain⟨t,p2,ht,kD⟩:=hS p1 (cX c p1 H) h.set
    rw[bo,ai] at kD;refine nK6 e0 e1 e7 e8 e9 (j2 kD @aaI) ?_;exact⟨ah,_,p2,acc++[t],rfl,fj e0,fj e1,iJ,fj e8,iJ,by simp[hl],fun u hu=>by
     rcases au'.1 hu with hu|hu
     ·exact hb u hu
     ·rw[avi.1 hu];exact ht⟩
   ·refine nK2 e8 e9 ?_
    exact⟨_,p1,acc,rfl,e7,ah,hb⟩
  ·rintro s ⟨T,p1,acc,rfl,e7,hl,hb⟩
   have dN:=h.jv (p':=p1);refine nO5 e7 dN @bC @ae6 @Kr ?_
   grind
  ·exact⟨_,p1,[],rfl,by simp(disch:=omega)only[dm,aa,simprocAttr,ts0];simp⟩
 grind
def lU{h:Nat} : Fe h (.mk [] []):=tL aI
def zr{a b:Int}(h:0<=a):a.tdiv b=a / b:=aw7 h
def j6{a b:Int}(h:0<=a):a.tmod b=a % b:=avW h
def aaz{h:Nat}{n:Int}(h1:-2199023255552<=n/\n<=2199023255552)(hk:0<=k/\k<=100)(h2:a.length<=1100000):AF 4 (h+1) (.mk k n a [] [] [] [] []) :=
 .mk h k n a [] [] [] [] [] h1 ah ⟨h2,aI⟩ lU aI ag ⟨aI,ag⟩
def lt4(h0:0<=x)(h1:x<4):x=0\/x=1\/x=2\/x=3:=ah
def lt2(h0:0<=x)(h1:x<2):x=0\/x=1:=ah
def akt{c:Cc} : Ce c 0:=by
 intro p H h;obtain⟨x,p1,D8,nY,fg⟩:=mL h 24 ah;have hm:0<=x % 5/\x % 5<5:=ah;have aZ:=h.lt
 by_cases c0:x % 5=0
 ·obtain⟨y,p2,y0,y1,gV⟩:=mL (h.set (p':=p1)) 30 ah
  rw[bo] at gV;have dN:=h.jv (p':=p2);refine⟨.mk 0 (y-9) [] [] [] [] [] [],p2,aaz ah ah aI,bO (fn:=fA) rfl rfl rfl rfl ?_⟩;unfold fA;exact nT5 fg gV dN (j3 c0 @j6 @bC) (j5 @cH @dC @cG @cT @ai) tv
 by_cases c1:x % 5=1
 ·obtain⟨y,p2,y0,y1,gV⟩:=mL (h.set (p':=p1)) 4 ah
  rw[bo] at gV;have dN:=h.jv (p':=p2)
  rcases lt4 y0 y1 with rfl|rfl|rfl|rfl
  ·refine⟨.mk 0 0 [] [] [] [] [] [],p2,aaz ah ah aI,bO (fn:=fA) rfl rfl rfl rfl ?_⟩
   unfold fA;exact nT5 fg gV dN (j3 c1 @j6 @bC) (j5 @cH @dC @cG @cT @ai) tv
  ·refine⟨.mk 0 1099511627776 [] [] [] [] [] [],p2,aaz ah ah aI,bO (fn:=fA) rfl rfl rfl rfl ?_⟩
   unfold fA;exact nT5 fg gV dN (j3 c1 @j6 @bC) (j5 @cH @dC @cG @cT @ai) tv
  ·refine⟨.mk 0 (-1099511627776) [] [] [] [] [] [],p2,aaz ah ah aI,bO (fn:=fA) rfl rfl rfl rfl ?_⟩
   unfold fA;exact nT5 fg gV dN (j3 c1 @j6 @bC) (j5 @cH @dC @cG @cT @ai) tv
  ·refine⟨.mk 0 10 [] [] [] [] [] [],p2,aaz ah ah aI,bO (fn:=fA) rfl rfl rfl rfl ?_⟩
   unfold fA;exact nT5 fg gV dN (j3 c1 @j6 @bC) (j5 @cH @dC @cG @cT @ai) tv
 by_cases c2:x % 5=2
 ·obtain⟨y,p2,y0,y1,gV⟩:=mL (h.set (p':=p1)) 2 ah
  rw[bo] at gV;have dN:=h.jv (p':=p2);refine⟨.mk 1 y [] [] [] [] [] [],p2,aaz ah ah aI,bO (fn:=fA) rfl rfl rfl rfl ?_⟩;unfold fA;exact nT5 fg gV dN (j3 c2 @j6 @bC) (j5 @cH @dC @cG @cT @ai) tv
 obtain⟨s,p2,sh,gV⟩:=oE (h.set (p':=p1));have sl:=jc _ sh;rw[bo] at gV;have dN:=h.jv (p':=p2);refine⟨.mk 2 0 s [] [] [] [] [],p2,aaz ah ah ah,bO (fn:=fA) rfl rfl rfl rfl ?_⟩;unfold fA;exact nT5 fg gV dN (j2 @j6 @bC) (j5 @cH @dC @cG @cT @ai) tv
def YS{P:Tm->Prop}{a:Tm}(h:P a):∀ t∈[a],P t:=fun t ht=>by rw[avi.1 ht];exact h
theorem Bx{P:Tm->Prop}{a:Tm}(h:P a)(h2:P b):∀ t∈[a,b],P t:=fun t ht=>by
 grind
theorem ajn{P:Tm->Prop}{a d:Tm}(h:P a)(h2:P b)(h3:P d):∀ t∈[a,b,d],P t:=fun t ht=>by
 grind
def oq:(0:Nat)<=4/\∀ s∈([]:List ay),s.length<=1100000:=⟨aI,ag⟩
def mf{h:Nat}{n:Int}{f wn:ay}{wk:List Wd}{ks:List Tm}{ns:List ay}(h5:∀ t∈ks,AF 4 h t)(h4:ks.length<=3)(h1:-2199023255552<=n/\n<=2199023255552)(hk:0<=k/\k<=100)(h2:a.length<=1100000/\f.length<=1100000)
  (h3:Fe 3 (.mk wn wk)) (h6:ns.length<=4/\∀ s∈ns,s.length<=1100000):AF 4 (h+1) (.mk k n a f wn wk ks ns):=.mk h k n a f wn wk ks ns h1 ah h2 h3 h4 h5 h6
def WD{d':Nat} : ∀ {w:Wd},d<=d'->Fe d w->Fe d' w:=by
 induction d generalizing d' with
 | zero =>
  intro w _ h;cases d' with
  | zero=>exact h
  | succ d'=>exact⟨h.1,by rw[h.2];simp,by rw[h.2];simp⟩
 | succ d ih =>
  intro w hd h;cases d' with
  | zero=>omega
  | succ d'=>exact⟨h.1,h.2.1,fun k hk=>ih ah (h.2.2 k hk)⟩
def aku{c:Cc}(ih:Ce c d){H:ae}(h:CH c p H)(fg:aj A 34 [.ref c.mm 0,.int .i64 24] H=some (.int .i64 9,some ⟨cX c p1 H,c.mm⟩))(hd:d<=100) :
  ∃ t p',AF 4 (d+1+1) t/\aj A 37 [.ref c.mm 0,.int .i64 ((d+1:Nat):Int)] H=some (.agg (aM t),some ⟨cX c p' H,c.mm⟩):=by
 have key:∃ r,aj A 37 [.ref c.mm 0,.int .i64 ((d+1:Nat):Int)] H=some r/\∃ t p',AF 4 (d+1+1) t/\r=(.agg (aM t),some ⟨cX c p' H,c.mm⟩):=by
  have aZ:=h.lt;have z7:(d:Int)+1-1=d:=ah;obtain⟨l,p2,ln,lh,gV⟩:=Ix ih 2 ah p1 (cX c p1 H) h.set;rw[bo] at gV;refine nF (fn:=fA) rfl rfl rfl rfl ?_;unfold fA;refine nK3 fg gV z7 ?_;refine cg l.length 1 (fun i s=>∃ T p3 acc,s=⟨T,cX c p3 H,c.mm,1⟩/\T 0=.ref c.mm 0/\T 4=.lbox 0 [.int .i64 0,.int .i64 0,.str [],.str [],.str [],.ar,.ar,.ar]/\T 6=.slice (aC l) false/\T 7=.slice (strs acc) true/\T 8=.int .i64 i/\acc.length=i/\∀ s∈acc,s.length<=1100000)
   (fun s=>∃ T p3 acc,s=⟨T,cX c p3 H,c.mm,1⟩/\T 0=.ref c.mm 0/\T 4=.lbox 0 [.int .i64 0,.int .i64 0,.str [],.str [],.str [],.ar,.ar,.ar]/\T 6=.slice (aC l) false/\T 7=.slice (strs acc) true/\acc.length<=l.length/\∀ s∈acc,s.length<=1100000) (fun _=>False) ?_ ?_ (fun _ h=>h.elim) 0 _ ah ?_
  ·rintro i s hi ⟨T,p3,acc,rfl,e0,e4,e6,e7,e8,hl,hb⟩
   by_cases hc:i<l.length
   ·obtain⟨s,p4,hs,rQ⟩:=oE (h.set (p':=p3))
    rw[bo] at rQ;have qv:=jc s hs;have z6:aG false 1 16 (.slice (strs acc) true) (.slice [[.str s]] true)=some (.slice (strs (acc++[s])) true):=ga ah;refine nK6 e0 e6 e7 e8 @cO (j2 rQ z6) ?_;refine⟨ah,_,p4,acc++[s],rfl,fj e0,fj e4,fj e6,iJ,iJ,by simp[hl],fun u hu=>?_⟩
    rcases au'.1 hu with hu|hu
    ·exact hb u hu
    ·rw[avi.1 hu];omega
   ·refine nK3 e6 e8 @cO ?_
    exact⟨_,p3,acc,rfl,e0,e4,e6,e7,ah,hb⟩
  ·rintro s ⟨T,p3,acc,rfl,e0,e4,e6,e7,hl,hb⟩
   obtain⟨s,p4,hs,uO⟩:=xA (h.set (p':=p3));rw[bo] at uO;have dN:=h.jv (p':=p4);refine nK6 e0 e4 e6 (j2 e7 uO) (j5 dN @bC @cH @dC @cG) (j5 @cT @fp @Kr @Dn @ax.eq_1) ?_;exact⟨.mk 7 0 s [] [] [] l acc,p4,mf lh ah ah ah ⟨hs,aI⟩ lU ⟨ah,hb⟩,by simp only[aM,aH];exact⟨trivial,trivial⟩⟩
  ·exact⟨_,p2,[],rfl,by simp(disch:=omega)only[dm,aa,simprocAttr,strs];simp⟩
 obtain⟨r,h1,t,p',h2,rfl⟩:=key;exact⟨t,p',h2,h1⟩
def acx{t u:Tm}{l:List Tm}(h:l.length<=1000):aG false 8 136 (.slice [[.int .i64 t.kind,.int .i64 t.n,.str t.name,.str t.field,.str t.wn,.slice (aH t.wk) false,.slice (aC t.kids) false,.slice (strs t.names) false],[.int .i64 u.kind,.int .i64 u.n,.str u.name,.str u.field,.str u.wn,.slice (aH u.wk) false,.slice (aC u.kids) false,.slice (strs u.names) false]] true) (.slice (aC l) o)=some (.slice (aC ([t,u]++l)) true):=by
 have:=R' (l:=[t,u]) (m:=l) (o:=o) dq
 rw[show aC [t,u]=[aM t,aM u] by simp[aC],ai t,ai u] at this
 exact this
def Ly{l:List ay}{b:ay}(h:l.length<=1000):aG false 1 16 (.slice (strs l) true) (.slice [[.str a],[.str b]] o)=some (.slice (strs (l++[a,b])) true):=cw (m:=[a,b]) dq
def af8{c:Cc}(ih:Ce c d){H:ae}(h:CH c p H)(fg:aj A 34 [.ref c.mm 0,.int .i64 24] H=some (.int .i64 12,some ⟨cX c p1 H,c.mm⟩))(hd:d<=100) :
  ∃ t p',AF 4 (d+1+1) t/\aj A 37 [.ref c.mm 0,.int .i64 ((d+1:Nat):Int)] H=some (.agg (aM t),some ⟨cX c p' H,c.mm⟩):=by
 have key:∃ r,aj A 37 [.ref c.mm 0,.int .i64 ((d+1:Nat):Int)] H=some r/\∃ t p',AF 4 (d+1+1) t/\r=(.agg (aM t),some ⟨cX c p' H,c.mm⟩):=by
  have aZ:=h.lt;have z7:(d:Int)+1-1=d:=ah;obtain⟨t,p2,th,gV⟩:=ih p1 (cX c p1 H) h.set;rw[bo,ai] at gV;obtain⟨u,p3,uh,pg⟩:=ih p2 (cX c p2 H) h.set;rw[bo,ai] at pg;obtain⟨l,p4,ln,lh,vZ⟩:=Ix ih 1 ah p3 (cX c p3 H) h.set;rw[bo] at vZ;have z6:=acx (t:=t) (u:=u) (l:=l) (o:=false) ah;have Rz:∀ s∈[t,u]++l,AF 4 (d+1) s:=fun s hs=>by
   rcases au'.1 hs with hs|hs
   ·exact Bx (P:=AF 4 (d+1)) th uh s hs
   ·exact lh s hs
  obtain⟨k,hk⟩:∃ k,k=[t,u]++l:=⟨_,rfl⟩;have Fu:2<=k.length/\k.length<=3:=by rw[hk];simp;omega
  rw[<- hk] at z6 Rz;refine nF (fn:=fA) rfl rfl rfl rfl ?_;unfold fA;refine nK6 fg gV pg vZ z7 z6 ?_;refine cg (k.length-1) 3 (fun i s=>∃ T p3 acc,s=⟨T,cX c p3 H,c.mm,1⟩/\T 0=.ref c.mm 0/\T 4=.lbox 0 [.int .i64 0,.int .i64 0,.str [],.str [],.str [],.ar,.ar,.ar]/\T 9=.slice (aC k) true/\T 10=.slice (strs acc) true/\T 11=.int .i64 (i+1)/\acc.length=2*i/\∀ s∈acc,s.length<=1100000)
   (fun s=>∃ T p3 acc,s=⟨T,cX c p3 H,c.mm,1⟩/\T 0=.ref c.mm 0/\T 4=.lbox 0 [.int .i64 0,.int .i64 0,.str [],.str [],.str [],.ar,.ar,.ar]/\T 9=.slice (aC k) true/\T 10=.slice (strs acc) true/\acc.length<=4/\∀ s∈acc,s.length<=1100000) (fun _=>False) ?_ ?_ (fun _ h=>h.elim) 0 _ ah ?_
  ·rintro i s hi ⟨T,p3,acc,rfl,e0,e4,e9,zA,e11,hl,hb⟩
   by_cases hc:i+1<k.length
   ·obtain⟨a,p4,ha,rQ⟩:=oE (h.set (p':=p3))
    rw[bo] at rQ;have Rz:=jc a ha;obtain⟨b,p5,kO,TS⟩:=oE (h.set (p':=p4));rw[bo] at TS;have yH:=jc b kO;have ahV:aG false 1 16 (.slice (strs acc) true) (.slice [[.str a],[.str b]] true)=some (.slice (strs (acc++[a,b])) true):=Ly ah;refine nK6 e0 e9 zA e11 @cO (j3 rQ TS ahV) ?_;refine⟨ah,_,p5,acc++[a,b],rfl,fj e0,fj e4,fj e9,iJ,iJ,by simp[hl];omega,fun u hu=>?_⟩
    rcases au'.1 hu with hu|hu
    ·exact hb u hu
    ·rcases avs.1 hu with rfl|hu
     ·omega
     ·rw[avi.1 hu];omega
   ·refine nK3 e9 e11 @cO ?_
    exact⟨_,p3,acc,rfl,e0,e4,e9,zA,ah,hb⟩
  ·rintro s ⟨T,p3,acc,rfl,e0,e4,e9,zA,hl,hb⟩
   obtain⟨s,p4,hs,uO⟩:=xA (h.set (p':=p3));rw[bo] at uO;have dN:=h.jv (p':=p4);refine nK6 e0 e4 e9 (j2 zA uO) (j5 dN @bC @cH @dC @cG) (j5 @cT @fp @Kr @Dn @ax.eq_1) ?_;exact⟨.mk 10 0 s [] [] [] k acc,p4,mf Rz ah ah ah ⟨hs,aI⟩ lU ⟨ah,hb⟩,by simp only[aM,aH];exact⟨trivial,trivial⟩⟩
  ·exact⟨_,p4,[],rfl,by simp(disch:=omega)only[dm,aa,simprocAttr,strs];simp⟩
 obtain⟨r,h1,t,p',h2,rfl⟩:=key;exact⟨t,p',h2,h1⟩
def akv{c:Cc}(hd:d<=100)(ih:Ce c d):Ce c (d+1):=by
 intro p H h;obtain⟨x,p1,D8,nY,fg⟩:=mL h 24 ah;have aZ:=h.lt;have z7:(d:Int)+1-1=d:=ah
 by_cases c0:x=0
 ·obtain⟨y,p2,y0,y1,gV⟩:=mL (h.set (p':=p1)) 30 ah
  rw[bo] at gV;have dN:=h.jv (p':=p2);refine⟨.mk 0 (y-9) [] [] [] [] [] [],p2,aaz ah ah aI,bO (fn:=fA) rfl rfl rfl rfl ?_⟩;unfold fA;exact nT5 fg gV dN (j2 c0 @bC) (j5 @cH @dC @cG @cT @ai) tv
 by_cases c1:x=1
 ·obtain⟨y,p2,y0,y1,gV⟩:=mL (h.set (p':=p1)) 4 ah
  rw[bo] at gV;have dN:=h.jv (p':=p2)
  rcases lt4 y0 y1 with rfl|rfl|rfl|rfl
  ·refine⟨.mk 0 0 [] [] [] [] [] [],p2,aaz ah ah aI,bO (fn:=fA) rfl rfl rfl rfl ?_⟩
   unfold fA;exact nT5 fg gV dN (j2 c1 @bC) (j5 @cH @dC @cG @cT @ai) tv
  ·refine⟨.mk 0 1099511627776 [] [] [] [] [] [],p2,aaz ah ah aI,bO (fn:=fA) rfl rfl rfl rfl ?_⟩
   unfold fA;exact nT5 fg gV dN (j2 c1 @bC) (j5 @cH @dC @cG @cT @ai) tv
  ·refine⟨.mk 0 (-1099511627776) [] [] [] [] [] [],p2,aaz ah ah aI,bO (fn:=fA) rfl rfl rfl rfl ?_⟩
   unfold fA;exact nT5 fg gV dN (j2 c1 @bC) (j5 @cH @dC @cG @cT @ai) tv
  ·refine⟨.mk 0 10 [] [] [] [] [] [],p2,aaz ah ah aI,bO (fn:=fA) rfl rfl rfl rfl ?_⟩
   unfold fA;exact nT5 fg gV dN (j2 c1 @bC) (j5 @cH @dC @cG @cT @ai) tv
 by_cases c2:x=2
 ·obtain⟨y,p2,y0,y1,gV⟩:=mL (h.set (p':=p1)) 2 ah
  rw[bo] at gV;have dN:=h.jv (p':=p2);refine⟨.mk 1 y [] [] [] [] [] [],p2,aaz ah ah aI,bO (fn:=fA) rfl rfl rfl rfl ?_⟩;unfold fA;exact nT5 fg gV dN (j2 c2 @bC) (j5 @cH @dC @cG @cT @ai) tv
 by_cases c5:x=5
 ·obtain⟨s,p2,sl,gV⟩:=xA (h.set (p':=p1))
  rw[bo] at gV;obtain⟨l,p3,ln,lh,pg⟩:=Ix ih 3 ah p2 (cX c p2 H) h.set;rw[bo] at pg;have dN:=h.jv (p':=p3);refine⟨.mk 3 0 s [] [] [] l [],p3,mf lh ah ah ah ⟨sl,aI⟩ lU oq,bO (fn:=fA) rfl rfl rfl rfl ?_⟩;unfold fA;exact nT5 fg gV (j2 pg dN) (j5 c5 z7 @bC @cH @dC) (j5 @cG @cT @fp @Kr @ai) tv
 by_cases c6:x=6
 ·obtain⟨t,p2,th,gV⟩:=ih p1 (cX c p1 H) h.set
  rw[bo,ai] at gV;obtain⟨u,p3,uh,pg⟩:=ih p2 (cX c p2 H) h.set;rw[bo,ai] at pg;obtain⟨v,p4,vh,vZ⟩:=ih p3 (cX c p3 H) h.set;rw[bo,ai] at vZ;have dN:=h.jv (p':=p4);refine⟨.mk 5 0 [] [] [] [] [t,u,v] [],p4,mf (ajn th uh vh) ag ah ah ⟨aI,aI⟩ lU oq,bO (fn:=fA) rfl rfl rfl rfl ?_⟩;unfold fA;exact nT5 fg gV (j5 pg vZ dN c6 z7) (j5 @bC @cH @dC @cG @cT) (j5 @fp @lk @jX @mY @ai) tv
 by_cases c7:x=7
 ·obtain⟨s,p2,sh,gV⟩:=oE (h.set (p':=p1))
  have sl:=jc _ sh;rw[bo] at gV;obtain⟨t,p3,th,pg⟩:=ih p2 (cX c p2 H) h.set;rw[bo,ai] at pg;obtain⟨u,p4,uh,vZ⟩:=ih p3 (cX c p3 H) h.set;rw[bo,ai] at vZ;have dN:=h.jv (p':=p4);refine⟨.mk 6 0 [] [] [] [] [t,u] [s],p4,mf (Bx th uh) ag ah ah ⟨aI,aI⟩ lU ⟨ag,dq⟩,bO (fn:=fA) rfl rfl rfl rfl ?_⟩;unfold fA;exact nT5 fg gV (j5 pg vZ dN c7 z7) (j5 @bC @cH @dC @cG @cT) (j5 @fp @lk @jX @mY @ai) tv
 by_cases c8:x=8
 ·obtain⟨s,p2,sh,gV⟩:=oE (h.set (p':=p1))
  have sl:=jc _ sh;rw[bo] at gV;obtain⟨r,p3,rh,pg⟩:=oE (h.set (p':=p2));have rl:=jc _ rh;rw[bo] at pg;obtain⟨t,p4,th,vZ⟩:=ih p3 (cX c p3 H) h.set;rw[bo,ai] at vZ;obtain⟨u,p5,uh,hc5⟩:=ih p4 (cX c p4 H) h.set;rw[bo,ai] at hc5;obtain⟨v,p6,vh,hc6⟩:=ih p5 (cX c p5 H) h.set;rw[bo,ai] at hc6;have dN:=h.jv (p':=p6);refine⟨.mk 12 0 [] [] [] [] [t,u,v] [s,r],p6,mf (ajn th uh vh) ag ah ah ⟨aI,aI⟩ lU ⟨ag,dq⟩,bO (fn:=fA) rfl rfl rfl rfl ?_⟩;unfold fA;exact nT5 fg (j3 gV pg vZ) (j5 hc5 hc6 dN c8 z7) (j5 @bC @cH @dC @cG @cT) (j5 @fp @lk @jX @mY @ai) tv
 by_cases c10:x=10
 ·obtain⟨s,p2,sl,gV⟩:=xA (h.set (p':=p1))
  rw[bo] at gV;obtain⟨r,p3,rh,pg⟩:=oE (h.set (p':=p2));have rl:=jc _ rh;rw[bo] at pg;obtain⟨t,p4,th,vZ⟩:=ih p3 (cX c p3 H) h.set;rw[bo,ai] at vZ;have dN:=h.jv (p':=p4);refine⟨.mk 8 0 s r [] [] [t] [],p4,mf (YS th) ag ah ah ⟨sl,ah⟩ lU oq,bO (fn:=fA) rfl rfl rfl rfl ?_⟩;unfold fA;exact nT5 fg gV (j5 pg vZ dN c10 z7) (j5 @bC @cH @dC @cG @cT) (j5 @fp @lk @jX @mY @ai) tv
 by_cases c11:x=11
 ·obtain⟨s,p2,sl,gV⟩:=xA (h.set (p':=p1))
  rw[bo] at gV;obtain⟨r,p3,rh,pg⟩:=oE (h.set (p':=p2));have rl:=jc _ rh;rw[bo] at pg;obtain⟨t,p4,th,vZ⟩:=ih p3 (cX c p3 H) h.set;rw[bo,ai] at vZ;have dN:=h.jv (p':=p4);refine⟨.mk 9 0 s r [] [] [t] [],p4,mf (YS th) ag ah ah ⟨sl,ah⟩ lU oq,bO (fn:=fA) rfl rfl rfl rfl ?_⟩;unfold fA;exact nT5 fg gV (j5 pg vZ dN c11 z7) (j5 @bC @cH @dC @cG @cT) (j5 @fp @lk @jX @mY @ai) tv
 by_cases c13:x=13
 ·obtain⟨w,p2,wh,gV⟩:=Ka 2 p1 (cX c p1 H) ah h.set
  rw[bo,iA] at gV;rw[show ((2:Nat):Int)=2 from rfl] at gV
  obtain⟨l,p3,ln,lh,pg⟩:=Ix ih 3 ah p2 (cX c p2 H) h.set;rw[bo] at pg;have dN:=h.jv (p':=p3);refine⟨.mk 11 0 [] [] w.name w.kids l [],p3,mf lh ah ah ah ⟨aI,aI⟩ (by cases w;exact WD ah wh) oq,bO (fn:=fA) rfl rfl rfl rfl ?_⟩
  unfold fA;exact nT5 fg gV (j3 pg dN c13) (j5 z7 @bC @cH @dC @cG) (j5 @cT @fp @Kr @Y3 @ai) tv
 by_cases c14:x=14
 ·obtain⟨y,p2,y0,y1,gV⟩:=mL (h.set (p':=p1)) 2 ah
  rw[bo] at gV;obtain⟨t,p3,th,pg⟩:=ih p2 (cX c p2 H) h.set;rw[bo,ai] at pg;have dN:=h.jv (p':=p3)
  rcases lt2 y0 y1 with rfl|rfl
  ·refine⟨.mk 4 9 [] [] [] [] [t] [],p3,mf (YS th) ag ah ah ⟨aI,aI⟩ lU oq,bO (fn:=fA) rfl rfl rfl rfl ?_⟩
   unfold fA;simp(disch:=omega)only[aO,aa,simprocAttr,fg,gV,pg,dN,c14,z7,ax,bC,cH,dC,cG,cT,fp,lk,jX,mY,ai,aC,aH,strs,Tm.kind,Tm.n,Tm.name,Tm.field,Tm.wn,Tm.wk,Tm.kids,Tm.names]
   first|done|rfl
  ·refine⟨.mk 4 11 [] [] [] [] [t] [],p3,mf (YS th) ag ah ah ⟨aI,aI⟩ lU oq,bO (fn:=fA) rfl rfl rfl rfl ?_⟩
   unfold fA;simp(disch:=omega)only[aO,aa,simprocAttr,fg,gV,pg,dN,c14,z7,ax,bC,cH,dC,cG,cT,fp,lk,jX,mY,ai,aC,aH,strs,Tm.kind,Tm.n,Tm.name,Tm.field,Tm.wn,Tm.wk,Tm.kids,Tm.names]
   first|done|rfl
 by_cases c9:x=9
 ·subst c9;exact aku ih h fg hd
 by_cases c12:x=12
 ·subst c12;exact af8 ih h fg hd
 by_cases c15:14<x
 ·obtain⟨y,p2,y0,y1,gV⟩:=mL (h.set (p':=p1)) 10 ah
  rw[bo] at gV;obtain⟨t,p3,th,pg⟩:=ih p2 (cX c p2 H) h.set;rw[bo,ai] at pg;obtain⟨u,p4,uh,vZ⟩:=ih p3 (cX c p3 H) h.set;rw[bo,ai] at vZ;have dN:=h.jv (p':=p4);have hy:y=0\/y=1\/y=2\/y=3\/y=4\/y=5\/y=6\/y=7\/y=8\/y=9:=ah
  rcases hy with rfl|rfl|rfl|rfl|rfl|rfl|rfl|rfl|rfl|rfl
  ·refine⟨.mk 4 0 [] [] [] [] [t,u] [],p4,mf (Bx th uh) ag ah ah ⟨aI,aI⟩ lU oq,bO (fn:=fA) rfl rfl rfl rfl ?_⟩
   unfold fA;exact nT5 fg gV (j4 pg vZ dN z7) (j5 @bC @cH @dC @cG @cT) (j5 @fp @lk @jX @mY @ai) tv
  ·refine⟨.mk 4 1 [] [] [] [] [t,u] [],p4,mf (Bx th uh) ag ah ah ⟨aI,aI⟩ lU oq,bO (fn:=fA) rfl rfl rfl rfl ?_⟩
   unfold fA;exact nT5 fg gV (j4 pg vZ dN z7) (j5 @bC @cH @dC @cG @cT) (j5 @fp @lk @jX @mY @ai) tv
  ·refine⟨.mk 4 2 [] [] [] [] [t,u] [],p4,mf (Bx th uh) ag ah ah ⟨aI,aI⟩ lU oq,bO (fn:=fA) rfl rfl rfl rfl ?_⟩
   unfold fA;exact nT5 fg gV (j4 pg vZ dN z7) (j5 @bC @cH @dC @cG @cT) (j5 @fp @lk @jX @mY @ai) tv
  ·refine⟨.mk 4 3 [] [] [] [] [t,u] [],p4,mf (Bx th uh) ag ah ah ⟨aI,aI⟩ lU oq,bO (fn:=fA) rfl rfl rfl rfl ?_⟩
   unfold fA;exact nT5 fg gV (j4 pg vZ dN z7) (j5 @bC @cH @dC @cG @cT) (j5 @fp @lk @jX @mY @ai) tv
  ·refine⟨.mk 4 4 [] [] [] [] [t,u] [],p4,mf (Bx th uh) ag ah ah ⟨aI,aI⟩ lU oq,bO (fn:=fA) rfl rfl rfl rfl ?_⟩
   unfold fA;exact nT5 fg gV (j4 pg vZ dN z7) (j5 @bC @cH @dC @cG @cT) (j5 @fp @lk @jX @mY @ai) tv
  ·refine⟨.mk 4 5 [] [] [] [] [t,u] [],p4,mf (Bx th uh) ag ah ah ⟨aI,aI⟩ lU oq,bO (fn:=fA) rfl rfl rfl rfl ?_⟩
   unfold fA;exact nT5 fg gV (j4 pg vZ dN z7) (j5 @bC @cH @dC @cG @cT) (j5 @fp @lk @jX @mY @ai) tv
  ·refine⟨.mk 4 6 [] [] [] [] [t,u] [],p4,mf (Bx th uh) ag ah ah ⟨aI,aI⟩ lU oq,bO (fn:=fA) rfl rfl rfl rfl ?_⟩
   unfold fA;exact nT5 fg gV (j4 pg vZ dN z7) (j5 @bC @cH @dC @cG @cT) (j5 @fp @lk @jX @mY @ai) tv
  ·refine⟨.mk 4 7 [] [] [] [] [t,u] [],p4,mf (Bx th uh) ag ah ah ⟨aI,aI⟩ lU oq,bO (fn:=fA) rfl rfl rfl rfl ?_⟩
   unfold fA;exact nT5 fg gV (j4 pg vZ dN z7) (j5 @bC @cH @dC @cG @cT) (j5 @fp @lk @jX @mY @ai) tv
  ·refine⟨.mk 4 8 [] [] [] [] [t,u] [],p4,mf (Bx th uh) ag ah ah ⟨aI,aI⟩ lU oq,bO (fn:=fA) rfl rfl rfl rfl ?_⟩
   unfold fA;exact nT5 fg gV (j4 pg vZ dN z7) (j5 @bC @cH @dC @cG @cT) (j5 @fp @lk @jX @mY @ai) tv
  ·refine⟨.mk 4 10 [] [] [] [] [t,u] [],p4,mf (Bx th uh) ag ah ah ⟨aI,aI⟩ lU oq,bO (fn:=fA) rfl rfl rfl rfl ?_⟩
   unfold fA;exact nT5 fg gV (j4 pg vZ dN z7) (j5 @bC @cH @dC @cG @cT) (j5 @fp @lk @jX @mY @ai) tv
 have asp:x=3\/x=4:=ah;obtain⟨s,p2,sh,gV⟩:=oE (h.set (p':=p1));have sl:=jc _ sh;rw[bo] at gV;have dN:=h.jv (p':=p2);refine⟨.mk 2 0 s [] [] [] [] [],p2,aaz ah ah ah,bO (fn:=fA) rfl rfl rfl rfl ?_⟩;unfold fA;exact nT5 fg gV dN @bC (j5 @cH @dC @cG @cT @ai) tv
def aX:ay->ay × ay × Bool
 | []=>([],[],false)
 | b :: r=>if b.toNat=46 then ([],r,true) else (b :: (aX r).1,(aX r).2.1,(aX r).2.2)
theorem qJ:∀ {s:ay},(aX s).2.2=false->aX s=(s,[],false)
 | [],_=>rfl
 | b :: r,h=>by
  unfold aX at h ⊢;split at h
  ·cases h
  ·rename_i hb
   rw[if_neg hb,qJ h]
def N8(s:ay)(H:ae)(hs:s.length<=10000000):aj A 155 [.str s] H=some (.tuple [.str (aX s).1,.str (aX s).2.1,.bool (aX s).2.2],none):=by
 refine cW abO.eq_1 ?_;refine nO0 ?_;refine cg s.length 0 (fun i=>Hd (fun T=>T 0=.str s/\T 5=.int .i64 i/\aX s=(s.take i++(aX (s.drop i)).1,(aX (s.drop i)).2.1,(aX (s.drop i)).2.2)) H H.length 0)
  (Hd (fun T=>T 0=.str s/\aX s=(s,[],false)) H H.length 0) (Hd (fun T=>T 2=.str (aX s).1/\T 3=.str (aX s).2.1/\T 4=.bool (aX s).2.2) H H.length 0) ?_ ?_ ?_ 0 _ (avB _) ?_
 ·rintro i st hi iz
  obtain⟨T,rfl,h0,h5,hc⟩:=iz.out
  by_cases h:i<s.length
  ·have hx:=au5 h
   have hd:=avr h;generalize s[i]=b at hx hd;have yH:b.toNat<256:=UInt8.toNat_lt b
   by_cases b46:b.toNat=46
   ·have e:aX (s.drop i)=([],s.drop (i+1),true):=by rw[hd,aX,if_pos b46]
    rw[e] at hc;simp only[List.append_nil] at hc;refine nO4 h0 h5 hx hc ?_;rw[avL]
   ·have e:aX (s.drop i)=(b :: (aX (s.drop (i+1))).1,(aX (s.drop (i+1))).2.1,(aX (s.drop (i+1))).2.2):=by rw[hd,aX,if_neg b46]
    rw[e] at hc;have nA:s.take (i+1)=s.take i++[b]:=by rw[awv,hx];rfl
    refine nO3 h0 h5 hx ?_;exact⟨h,by rw[hc,nA];simp⟩
  ·have e:s.drop i=[]:=List.drop_eq_nil_of_le ah
   rw[e,aX,List.take_of_length_le ah] at hc;simp only[List.append_nil] at hc;refine nO2 h0 h5 ?_;exact hc
 ·rintro st iz
  obtain⟨T,rfl,h0,hc⟩:=iz.out;exact WB h0 hc
 ·rintro st iz
  obtain⟨T,rfl,h2,h3,h4⟩:=iz.out;exact vO3 h2 h3 h4
 ·exact iJ
def pJ:∀ s:ay,(aX s).1.length<=s.length/\(aX s).2.1.length<=s.length
 | []=>⟨Nat.le_refl _,Nat.le_refl _⟩
 | b :: r=>by
  have:=pJ r
  unfold aX;split
  ·exact⟨ag,ag⟩
  ·exact⟨kq,kq⟩
def gA(s:ay):Bool:=isWord (aX s).1&&(!(aX s).2.2 || isWord (aX s).2.1)
def aL(s:ay):List ay:=if (aX s).2.2=true then [(aX s).1,[46],(aX s).2.1] else [(aX s).1]
def VA(s:ay)(H:ae)(hs:s.length<=10000000):aj A 153 [.str s] H=some (.bool (gA s),none):=by
 have hf:=N8 s H hs;obtain⟨l1,l2⟩:=pJ s;refine cW abN.eq_1 ?_;have w1:=qW (aX s).1 H ah;have w2:=qW (aX s).2.1 H ah;unfold gA;cases h1:isWord (aX s).1<;>cases h2:(aX s).2.2<;>rw[h1] at w1<;>rw[h2] at hf<;>exact vO3 hf w1 w2
def vN(s:ay)(H:ae)(hs:s.length<=10000000):aj A 124 [.str s] H=some (.slice (strs (aL s)) true,none):=by
 have hf:=N8 s H hs;refine cW abD.eq_1 ?_;unfold aL;cases h2:(aX s).2.2<;>rw[h2] at hf<;>simp(disch:=omega)only[dm,aa,simprocAttr,hf,strs,reduceCtorEq,awj]
def Kp(l:List ay)(H:ae)(hl:l.length<=10000000)(hs:∀ s∈l,s.length<=10000000):aj A 77 [.slice (strs l) false] H=some (.bool (l.all isWord),none):=by
 refine cW ajd.eq_1 ?_;refine nO0 ?_;refine cg l.length 0 (fun i=>Hd (fun T=>T 0=.slice (strs l) false/\T 3=.int .i64 i/\l.all isWord=(l.drop i).all isWord) H H.length 0)
  (Hd (fun T=>l.all isWord=true) H H.length 0) (Hd (fun T=>T 2=.bool false/\l.all isWord=false) H H.length 0) ?_ ?_ ?_ 0 _ (avB _) ?_
 ·rintro i st hi iz
  obtain⟨T,rfl,h0,h3,hc⟩:=iz.out
  by_cases h:i<l.length
  ·have hx:=au5 h
   have hd:=avr h;have hm:=avx h;generalize l[i]=b at hx hd hm;have hw:=qW b H (by have:=hs b hm;omega)
   rw[hd,List.all_cons] at hc;have gn:=iD hx;cases hb:isWord b<;>rw[hb] at hw hc
   ·refine nO5 h0 h3 @bV gn hw ?_
    rw[hc];rfl
   ·refine nO5 h0 h3 @bV gn hw ?_
    exact⟨h,by rw[hc,avE]⟩
  ·have e:l.drop i=[]:=List.drop_eq_nil_of_le ah
   rw[e,List.all_nil] at hc;refine nO3 h0 h3 @bV ?_;exact hc
 ·rintro st iz
  obtain⟨T,rfl,hc⟩:=iz.out;exact fj hc
 ·rintro st iz
  obtain⟨T,rfl,h2,hc⟩:=iz.out;exact WB h2 hc
 ·exact iJ
abbrev cR:ay:=[76,105,115,116]
abbrev DK:ay:=[73,110,116]
abbrev vd:ay:=[66,111,111,108]
def bY:Wd->Bool
 | .mk n [k]=>if n=cR then bY k else false
 | .mk n []=>if n=cR then false else (n==DK || n==vd || gA n)
 | .mk n _=>false
def bW:Wd->List ay
 | .mk n [k]=>if n=cR then [cR,[40]]++bW k++[[41]] else (if n=DK\/n=vd then [n] else aL n)
 | .mk n _=>if n=DK\/n=vd then [n] else aL n
theorem Ao:∀ (h:Nat) (w:Wd) (H:ae),Fe h w->aj A 122 [.agg (gX w)] H=some (.bool (bY w),none):=by
 have leaf:∀ (n:ay) (H:ae),n.length<=1100000->aj A 122 [.agg (gX (.mk n []))] H=some (.bool (bY (.mk n [])),none):=by
  intro n H hn;have hq:=VA n H ah;refine cW Ul.eq_1 ?_;rw[gX,aH]
  by_cases h1:n=cR
  ·have e1:(n==[76,105,115,116])=true:=cY h1
   simp(disch:=omega)only[aO,aa,simprocAttr,e1,bY,if_pos h1]
  have e1:(n==[76,105,115,116])=false:=cY h1
  by_cases h2:n=DK
  ·have e2:(n==[73,110,116])=true:=cY h2
   simp(disch:=omega)only[aO,aa,simprocAttr,e1,e2,bY,if_neg h1]
  have e2:(n==[73,110,116])=false:=cY h2
  by_cases h3:n=vd
  ·have e3:(n==[66,111,111,108])=true:=cY h3
   simp(disch:=omega)only[aO,aa,simprocAttr,e1,e2,e3,bY,if_neg h1]
  have e3:(n==[66,111,111,108])=false:=cY h3;simp(disch:=omega)only[aO,aa,simprocAttr,e1,e2,e3,hq,bY,if_neg h1]
 intro h
 induction h with
 | zero =>
  intro w H hw;obtain⟨n,ks⟩:=w;obtain⟨h1,h2⟩:=hw;simp only[Wd.kids,Wd.name] at h1 h2
  grind
 | succ h ih =>
  intro w H hw;obtain⟨n,ks⟩:=w;obtain⟨h1,h2,h3⟩:=hw;simp only[Wd.kids,Wd.name] at h1 h2 h3
  match ks,h2,h3 with
  | [],_,_=>exact leaf n H h1
  | [k],_,h3 =>
   have hk:=ih k H (h3 k ag);rw[iA] at hk;refine cW Ul.eq_1 ?_;rw[gX,aH,aH,iA]
   by_cases h1:n=cR
   ·have e1:(n==[76,105,115,116])=true:=cY h1
    simp(disch:=omega)only[aO,aa,simprocAttr,e1,hk,bY,if_pos h1]
   ·have e1:(n==[76,105,115,116])=false:=cY h1
    simp(disch:=omega)only[aO,aa,simprocAttr,e1,bY,if_neg h1]
theorem lP(s:ay):(aL s).length<=3:=by unfold aL;split<;>simp
theorem mM:∀ (h:Nat) (w:Wd),Fe h w->(bW w).length<=3*h+3
 | 0,.mk n ks,hw=>by
  obtain⟨_,h2⟩:=hw;simp only[Wd.kids] at h2;subst h2;unfold bW
  grind [lP]
 | h+1,.mk n [],_=>by
  unfold bW
  grind [lP]
 | h+1,.mk n [k],hw=>by
  have hk:=mM h k (hw.2.2 k (by simp[Wd.kids]))
  have:=lP n
  unfold bW
  grind
 | h+1,.mk n (a :: b :: r),hw=>by
  have:=hw.2.1
  simp[Wd.kids] at this
theorem IF:∀ (h:Nat) (w:Wd) (H:ae),h<=1000->Fe h w->bY w=true->aj A 79 [.agg (gX w)] H=some (.slice (strs (bW w)) true,none):=by
 have leaf:∀ (n:ay) (H:ae),n.length<=1100000->bY (.mk n [])=true->aj A 79 [.agg (gX (.mk n []))] H=some (.slice (strs (bW (.mk n []))) true,none):=by
  intro n H hn hp;have hq:=vN n H ah;have h1:n≠cR:=fun e=>by subst e;simp[bY] at hp
  have e1:(n==[76,105,115,116])=false:=cY h1;refine cW aex.eq_1 ?_;rw[gX,aH]
  by_cases h2:n=DK
  ·have e2:(n==[73,110,116])=true:=cY h2
   simp(disch:=omega)only[aO,aa,simprocAttr,e1,e2,bW,if_pos (Or.inl h2),strs]
  have e2:(n==[73,110,116])=false:=cY h2
  by_cases h3:n=vd
  ·have e3:(n==[66,111,111,108])=true:=cY h3
   simp(disch:=omega)only[aO,aa,simprocAttr,e1,e2,e3,bW,if_pos (Or.inr h3),strs]
  have e3:(n==[66,111,111,108])=false:=cY h3;simp(disch:=omega)only[aO,aa,simprocAttr,e1,e2,e3,hq,bW,if_neg (show ¬ (n=DK\/n=vd) from fun h=>h.elim h2 h3)]
 intro h
 induction h with
 | zero =>
  intro w H _ hw hp;obtain⟨n,ks⟩:=w;obtain⟨h1,h2⟩:=hw;simp only[Wd.kids,Wd.name] at h1 h2
  grind
 | succ h ih =>
  intro w H hh hw hp;obtain⟨n,ks⟩:=w;obtain⟨h1,h2,h3⟩:=hw;simp only[Wd.kids,Wd.name] at h1 h2 h3
  match ks,h2,h3,hp with
  | [],_,_,hp=>exact leaf n H h1 hp
  | [k],_,h3,hp =>
   have hl:n=cR:=by
    unfold bY at hp
    grind
   have oK:bY k=true:=by
    unfold bY at hp
    rwa [if_pos hl] at hp
   have hk:=ih k H ah (h3 k ag) oK;have hlen:=mM h k (h3 k ag);rw[iA] at hk;have a1:aG false 1 16 (.slice [[.str [76,105,115,116]],[.str [40]]] true) (.slice (strs (bW k)) true)=some (.slice (strs ([cR,[40]]++bW k)) true):=cw (l:=[cR,[40]]) dq;have a2:aG false 1 16 (.slice (strs ([cR,[40]]++bW k)) true) (.slice [[.str [41]]] true)=some (.slice (strs ([cR,[40]]++bW k++[[41]])) true):=ga dq;have hw:bW (.mk n [k])=[cR,[40]]++bW k++[[41]]:=by rw[bW,if_pos hl]
   generalize [cR,[40]]++bW k=l1 at a1 a2 hw;have e1:(n==[76,105,115,116])=true:=cY hl;refine cW aex.eq_1 ?_;rw[gX,aH,aH,iA];exact nK5 e1 hk a1 a2 hw tv
def Wf(h0:¬ x<0)(h1:¬ 11<x):x=0\/x=1\/x=2\/x=3\/x=4\/x=5\/x=6\/x=7\/x=8\/x=9\/x=10\/x=11:=by omega
def Iv(n:Int)(H:ae):aj A 127 [.int .i64 n] H=some (.tuple [.str (cQ n).1,.int .i64 (cQ n).2],none):=by
 refine cJ (fn:=Um) rfl rfl rfl ?_;unfold Um
 by_cases h0:n<0
 ·have e:cQ n=([],0):=by unfold cQ;rw[if_pos (Or.inl h0)]
  exact Lm h0 e
 by_cases h1:11<n
 ·have e:cQ n=([],0):=by unfold cQ;rw[if_pos (Or.inr h1)]
  exact vK3 h0 h1 e
 rcases Wf h0 h1 with rfl|rfl|rfl|rfl|rfl|rfl|rfl|rfl|rfl|rfl|rfl|rfl
 all_goals
  refine nK0 ?_;rfl
def bE(t:Tm):Int:=if t.kind=5\/t.kind=6\/t.kind=12 then 0 else if t.kind=4 then (cQ t.n).2 else 8
def YM(t:Tm)(H:ae):aj A 156 [.agg (aM t)] H=some (.int .i64 (bE t),none):=by
 have hs:=Iv t.n H;refine cJ (fn:=Uz) rfl rfl rfl ?_;unfold Uz;rw[ai]
 by_cases h5:t.kind=5
 ·exact nK3 h5 true_or @bE.eq_1 tv
 by_cases h6:t.kind=6
 ·exact nK4 h6 true_or or_true @bE.eq_1 tv
 by_cases h12:t.kind=12
 ·exact nK3 h12 or_true @bE.eq_1 tv
 have hn:¬ (t.kind=5\/t.kind=6\/t.kind=12):=by omega
 by_cases h4:t.kind=4
 ·have e:bE t=(cQ t.n).2:=by unfold bE;rw[if_neg hn,if_pos h4]
  exact vK3 h4 hs e
 ·have e:bE t=8:=by unfold bE;rw[if_neg hn,if_neg h4]
  exact nD e
def bR(k n:Int)(len:Nat):Int × Int :=
 if k=0\/k=1\/k=2 then (0,0) else if k=3\/k=11 then (-1,0)
 else if k=4 then (if (cQ n).1=[] then (-2,0) else if (cQ n).2=7 then (1,0) else (2,0))
 else if k=5 then (3,0) else if k=6 then (2,1) else if k=7 then (-1,len) else if k=8\/k=9 then (1,0)
 else if k=10 then (if len<2 then (-2,0) else (-1,2*((len:Int)-1))) else if k=12 then (3,2) else (-2,0)
def uT(k:Int):k=0\/k=1\/k=2\/k=3\/k=4\/k=5\/k=6\/k=7\/k=8\/k=9\/k=10\/k=11\/k=12\/(k<0\/12<k):=by omega
theorem SB(t:Tm)(H:ae)(hl:t.kids.length<=1000):aj A 154 [.agg (aM t)] H=some (.tuple [.int .i64 (bR t.kind t.n t.kids.length).1,.int .i64 (bR t.kind t.n t.kids.length).2],none):=by
 have hs:=Iv t.n H;refine cJ (fn:=Uy) rfl rfl rfl ?_;unfold Uy;rw[ai]
 rcases uT t.kind with h|h|h|h|h|h|h|h|h|h|h|h|h|h
 ·rw[h];simp(disch:=omega)only[aO,aa,simprocAttr,cO];rfl
 ·rw[h];simp(disch:=omega)only[aO,aa,simprocAttr,cO];rfl
 ·rw[h];simp(disch:=omega)only[aO,aa,simprocAttr,cO];rfl
 ·rw[h];simp(disch:=omega)only[aO,aa,simprocAttr,cO];rfl
 ·rw[h]
  by_cases h1:(cQ t.n).1=[]
  ·have e1:((cQ t.n).1==[])=true:=by rw[h1];rfl
   have e:bR 4 t.n t.kids.length=(-2,0):=by simp[bR,h1]
   rw[e];exact nK3 @cO hs e1 tv
  ·have e1:((cQ t.n).1==[])=false:=by simpa using h1
   by_cases h2:(cQ t.n).2=7
   ·have e:bR 4 t.n t.kids.length=(1,0):=by simp[bR,h1,h2]
    rw[e];exact nK4 @cO hs e1 h2 tv
   ·have e:bR 4 t.n t.kids.length=(2,0):=by simp[bR,h1,h2]
    rw[e];exact nK3 @cO hs e1 tv
 ·rw[h];simp(disch:=omega)only[aO,aa,simprocAttr,cO];rfl
 ·rw[h];simp(disch:=omega)only[aO,aa,simprocAttr,cO];rfl
 ·rw[h];simp(disch:=omega)only[aO,aa,simprocAttr,cO];rfl
 ·rw[h];simp(disch:=omega)only[aO,aa,simprocAttr,cO];rfl
 ·rw[h];simp(disch:=omega)only[aO,aa,simprocAttr,cO];rfl
 ·rw[h]
  by_cases h1:t.kids.length<2
  ·have e:bR 10 t.n t.kids.length=(-2,0):=by simp[bR,h1]
   rw[e];exact nK1 @cO tv
  ·have e:bR 10 t.n t.kids.length=(-1,2*((t.kids.length:Int)-1)):=by simp[bR,h1]
   rw[e];exact nK1 @cO tv
 ·rw[h];simp(disch:=omega)only[aO,aa,simprocAttr,cO];rfl
 ·rw[h];simp(disch:=omega)only[aO,aa,simprocAttr,cO];rfl
 ·have e:bR t.kind t.n t.kids.length=(-2,0):=by
   unfold bR
   grind
  rw[e];exact nK1 @cO tv
def Tp(h:j<8):∃ s:ay,s.length<=7 /\
  ([[.str []],[.str [32]],[.str [10]],[.str [32,32]],[.str [35,32,97,32,40,98,10]],[.str [32,35,10,32]],[.str [10,10]],[.str [35,255,35,32,49,10]]]:List (List AV))[j]?=some [.str s]:=by
 have hj:j=0\/j=1\/j=2\/j=3\/j=4\/j=5\/j=6\/j=7:=ah
 rcases hj with rfl|rfl|rfl|rfl|rfl|rfl|rfl|rfl<;>exact⟨_,aI,rfl⟩
def ajt(h0:0<=x)(h1:x<8):∃ j:Nat,j<8/\x=j:=⟨x.toNat,ah,ah⟩
def aa2(n k:Int)(H:ae)(hn:BD n):∃ s:ay,s.length<=1100000/\aj A 15 [.int .i64 n,.int .i64 k] H=some (.str s,none):=by
 have hr:=lK (n:=n) (k:=1000000) ah;have ha:=rF n 1000000 H hn ah;generalize mr n 1000000=x at hr ha;obtain⟨i,hi,ei⟩:=ajt (x:=x % 8) ah ah;obtain⟨j,hj,ej⟩:=ajt (x:=x / 8 % 8) ah ah;obtain⟨s,hs,ats⟩:=Tp hi;obtain⟨u,hu,atu⟩:=Tp hj;have key:∃ r,aj A 15 [.int .i64 n,.int .i64 k] H=some r/\∃ s:ay,s.length<=1100000/\r=(.str s,none):=by
  refine uB (fn:=aeg) rfl rfl rfl ?_;unfold aeg
  by_cases h3:x % 3=0
  ·obtain⟨v,hv⟩:∃ v,v=s++u:=⟨_,rfl⟩
   have W3:v.length<=14:=by rw[hv];simp;omega
   cases hb:(v==[]) with
   | false =>
    rw[hv] at hb;refine nK6 ha @j6 @zr ei ej (j4 ats atu h3 hb) ?_;exact⟨_,by rw[<- hv];omega,rfl⟩
   | true =>
    rw[hv] at hb
    by_cases hk:k=0
    ·refine nK6 ha @j6 @zr ei ej (j5 ats atu h3 hb hk) ?_
     exact⟨_,by rw[<- hv];omega,rfl⟩
    ·refine nK6 ha @j6 @zr ei ej (j4 ats atu h3 hb) ?_
     exact⟨[32],aI,rfl⟩
  ·cases hb:(s==[]) with
   | false =>
    refine nK5 ha @j6 ei ats hb ?_;exact⟨s,ah,rfl⟩
   | true =>
    by_cases hk:k=0
    ·refine nK6 ha @j6 ei ats hb hk ?_
     exact⟨s,ah,rfl⟩
    ·refine nK5 ha @j6 ei ats hb ?_
     exact⟨[32],aI,rfl⟩
 obtain⟨r,h1,s,h2,rfl⟩:=key;exact⟨s,h2,h1⟩
def acS(h:j<4):∃ s:ay,s.length<=1100000/\([[.str [10]],[.str [32,10]],[.str [35,32,120,10]],[.str [32,32,35,32,121,32,40,10]]]:List (List AV))[j]?=some [.str s]:=by
 have hj:j=0\/j=1\/j=2\/j=3:=ah
 rcases hj with rfl|rfl|rfl|rfl<;>exact⟨_,aI,rfl⟩
def Gr(h0:0<=x)(h1:x<1000000):BD x:=⟨ah,ah⟩
def UW{c:Cc}{H:ae}(h:CH c p H)(n:Nat)(hn:n<=100000)(b:ay)(hb:b.length<=1100000) :
  ∃ (out:List ay) (p' : Int),out.length<=n+2/\(∀ s∈out,s.length<=1100000)/\aj A 35 [.ref c.mm 0,.int .i64 n,.str b] H=some (.slice (strs out) true,some ⟨cX c p' H,c.mm⟩):=by
 have key:∃ r,aj A 35 [.ref c.mm 0,.int .i64 n,.str b] H=some r/\∃ (out:List ay) (p' : Int),out.length<=n+2/\(∀ s∈out,s.length<=1100000)/\r=(.slice (strs out) true,some ⟨cX c p' H,c.mm⟩):=by
  have aZ:=h.lt;refine nF (fn:=aen) rfl rfl rfl rfl ?_;unfold aen;refine nK0 ?_;refine cg (n-1) 0 (fun i s=>∃ T G lo p3 acc,s=⟨T,G,lo,0⟩/\(G=H/\lo=H.length/\i=0\/G=cX c p3 H/\lo=c.mm)/\T 0=.ref c.mm 0/\T 1=.int .i64 n/\T 7=.slice (strs acc) true/\T 8=.int .i64 (i+1)/\acc.length=i+1/\∀ s∈acc,s.length<=1100000)
   (fun s=>∃ T G lo p3 acc,s=⟨T,G,lo,0⟩/\(G=H/\lo=H.length\/G=cX c p3 H/\lo=c.mm)/\T 0=.ref c.mm 0/\T 7=.slice (strs acc) true/\acc.length<=n+1/\∀ s∈acc,s.length<=1100000) (fun _=>False) ?_ ?_ (fun _ h=>h.elim) 0 _ ah ?_
  ·rintro i s hi ⟨T,G,lo,p3,acc,rfl,hG,e0,e1,e7,e8,hl,hbd⟩
   by_cases hc:i+1<n
   ·have fg:∃ x p4,0<=x/\x<1000/\aj A 34 [.ref c.mm 0,.int .i64 1000] G=some (.int .i64 x,some ⟨cX c p4 H,c.mm⟩):=by
     rcases hG with ⟨rfl,rfl,rfl⟩|⟨rfl,rfl⟩
     ·exact mL h 1000 ah
     ·obtain⟨x,p4,x0,x1,hx⟩:=mL (h.set (p':=p3)) 1000 ah
      rw[bo] at hx;exact⟨x,p4,x0,x1,hx⟩
    obtain⟨x,p4,x0,x1,fg⟩:=fg;obtain⟨g,hg,amI⟩:=aa2 x 1 (cX c p4 H) (Gr x0 ah);have z6:aG false 1 16 (.slice (strs acc) true) (.slice [[.str g]] true)=some (.slice (strs (acc++[g])) true):=ga ah;have xT:(bif decide (c.mm<lo) then c.mm else lo)=c.mm:=by
     rcases hG with ⟨_,rfl,_⟩|⟨_,rfl⟩
     ·rw[decide_eq_true aZ];rfl
     ·simp
    refine nK6 e0 e1 e7 e8 fg (j3 amI z6 xT) ?_;refine⟨ah,_,_,_,p4,acc++[g],rfl,.inr ⟨rfl,rfl⟩,fj e0,fj e1,iJ,iJ,by simp[hl],fun u hu=>?_⟩
    rcases au'.1 hu with hu|hu
    ·exact hbd u hu
    ·rw[avi.1 hu];omega
   ·refine nK2 e1 e8 ?_
    refine⟨_,G,lo,p3,acc,rfl,?_,e0,e7,ah,hbd⟩
    rcases hG with ⟨h1,h2,_⟩|h1
    ·exact .inl ⟨h1,h2⟩
    ·exact .inr h1
  ·rintro s ⟨T,G,lo,p3,acc,rfl,hG,e0,e7,hl,hbd⟩
   have fg:∃ x p4,0<=x/\x<4/\aj A 34 [.ref c.mm 0,.int .i64 4] G=some (.int .i64 x,some ⟨cX c p4 H,c.mm⟩):=by
    rcases hG with ⟨rfl,rfl⟩|⟨rfl,rfl⟩
    ·exact mL h 4 ah
    ·obtain⟨x,p4,x0,x1,hx⟩:=mL (h.set (p':=p3)) 4 ah
     rw[bo] at hx;exact⟨x,p4,x0,x1,hx⟩
   obtain⟨x,p4,x0,x1,fg⟩:=fg;obtain⟨j,hj,rfl⟩:∃ j:Nat,j<4/\x=j:=⟨x.toNat,ah,ah⟩;obtain⟨e,he,ate⟩:=acS hj;have z6:aG false 1 16 (.slice (strs acc) true) (.slice [[.str e]] true)=some (.slice (strs (acc++[e])) true):=ga ah;have xT:(bif decide (c.mm<lo) then c.mm else lo)=c.mm:=by
    rcases hG with ⟨_,rfl⟩|⟨_,rfl⟩
    ·rw[decide_eq_true aZ];rfl
    ·simp
   have dN:=h.jv (p':=p4);refine nK6 e0 e7 fg ate z6 (j4 xT dN @bC @ae7) ?_;refine⟨acc++[e],p4,by simp[hl],fun u hu=>?_,rfl,rfl⟩
   rcases au'.1 hu with hu|hu
   ·exact hbd u hu
   ·rw[avi.1 hu];exact he
  ·refine⟨_,H,H.length,0,[b],rfl,.inl ⟨rfl,rfl,rfl⟩,?_⟩
   refine nO1 @strs.eq_1 ?_;exact fun s hs=>by rw[avi.1 hs];exact hb
 obtain⟨r,h1,out,p',h2,h3,rfl⟩:=key;exact⟨out,p',h2,h3,h1⟩
def jL(k:Int):Bool:=decide (k=3\/k=7\/k=8\/k=9\/k=10)
def n9(c1 c2 l m:Int)(w:Bool):Bool:=decide (c1=-2) || decide (0<=c1/\l≠c1) || decide (m≠c2) || !w
def rG(t:Tm):Bool:=n9 (bR t.kind t.n t.kids.length).1 (bR t.kind t.n t.kids.length).2 t.kids.length t.names.length (t.names.all isWord)
def sP(t:Tm):Bool:=bif jL t.kind then !(gA t.name) else bif decide (t.kind=2) then !(isWord t.name) else decide (t.name≠[])
def sQ(t:Tm):Bool:=bif decide (t.kind=8\/t.kind=9) then !(isWord t.field) else decide (t.field≠[])
def rH(t:Tm):Bool:=bif decide (t.kind=11) then !(bY (.mk t.wn t.wk)) else (decide (t.wn≠[]) || decide (0<t.wk.length))
def rI(t:Tm):Bool:=bif decide (t.kind=0) then decide (t.n < -1099511627776\/1099511627776<t.n) else bif decide (t.kind=1) then decide (t.n≠0/\t.n≠1) else false
def sR(t:Tm):Bool:=decide (t.kind≠0/\t.kind≠1/\t.kind≠4/\t.n≠0)
def oF(t:Tm):Bool:=!(rG t || sP t || sQ t || rH t || rI t || sR t)
mutual
def az:Tm->Bool
 | .mk k n a f wn wk ks ns=>oF (.mk k n a f wn wk ks ns)&&sf ks
def sf:List Tm->Bool
 | []=>true
 | t :: r=>az t&&sf r
end
def fL(t:Tm):az t=(oF t&&sf t.kids):=by cases t;rw[az,Tm.kids]
def dA:∀ l:List Tm,sf l=l.all az
 | []=>by simp[sf]
 | t :: r=>by simp[sf,dA r]
structure NC (h:Nat) (t:Tm):Prop where
 n:-2199023255552<=t.n/\t.n<=2199023255552
 k:-100<=t.kind/\t.kind<=100
 a:t.name.length<=1100000
 f:t.field.length<=1100000
 w:Fe 3 (.mk t.wn t.wk)
 kl:t.kids.length<=3
 kb:∀ u∈t.kids,RP h u
 nl:t.names.length<=8
 nb:∀ s∈t.names,s.length<=1100000
def RP.out{h:Nat}{t:Tm}(hb:RP (h+1) t):NC h t:=by
 cases hb with
 | mk h k n a f wn wk ks ns h1 hk h2 h3 h4 h5 h6=>exact⟨h1,hk,h2.1,h2.2,h3,h4,h5,h6.1,h6.2⟩
def I0(t:Tm)(H:ae)(s:AS):Prop:=∃ T,s=⟨T,H,H.length,1⟩/\T 1=.lbox 0 [.int .i64 t.kind,.int .i64 t.n,.str t.name,.str t.field,.str t.wn,.slice (aH t.wk) false,.slice (aC t.kids) false,.slice (strs t.names) false]
abbrev jQ(H:ae)(b:Bool):bH->AS->Prop:=done H.length [.tmp 2] (.bool b,none)
def akm{t:Tm}{h:Nat}(hb:NC h t){H:ae}(hf:rG t=true->az t=false) :
  W A (pR.body.pre 2) { T:=fi [.agg (aM t)],H,lo:=H.length,gen:=0 } (andThen (fun s'=>I0 t H s'/\rG t=false) (jQ H (az t))):=by
 have hc:=SB t H (by have:=hb.kl;omega)
 have hn:=Kp t.names H (by have:=hb.nl;omega) (fun s hs=>by have:=hb.nb s hs;omega)
 unfold rG at hf ⊢;unfold I0;rw[ai] at hc ⊢;generalize az t=pr at hf ⊢;generalize (bR t.kind t.n t.kids.length).1=c1 at hc hf ⊢;generalize (bR t.kind t.n t.kids.length).2=c2 at hc hf ⊢;generalize t.names.all isWord=aw at hn hf ⊢;have Fu:=hb.kl;have uQ:=hb.nl;unfold pR;simp only[aK.pre];unfold n9 at hf ⊢
 by_cases a1:c1=-2
 ·have e:=hf (by simp[a1])
  exact nK4 hc a1 e @jQ.eq_1 tv
 by_cases a2:0<=c1
 ·by_cases a3:(t.kids.length:Int)=c1
  ·by_cases a4:(t.names.length:Int)=c2
   ·cases aw with
    | false =>
     have e:=hf (by simp)
     exact nK6 hc @cO @bV a3 a4 (j3 hn e @jQ.eq_1) tv
    | true =>
     refine nK6 hc @cO @bV a3 a4 (j2 hn @jQ.eq_1) ?_;exact⟨⟨_,rfl,iJ⟩,by simp[a1]⟩
   ·have e:=hf (by simp[a4])
    exact nK6 hc @cO @bV a3 e @jQ.eq_1 tv
  ·have e:=hf (by simp[a2,a3])
   exact nK4 hc @cO e @jQ.eq_1 tv
 ·by_cases a4:(t.names.length:Int)=c2
  ·cases aw with
   | false =>
    have e:=hf (by simp)
    exact nK6 hc @bV a2 a4 hn (j2 e @jQ.eq_1) tv
   | true =>
    refine nK6 hc @bV a2 a4 hn @jQ.eq_1 ?_;exact⟨⟨_,rfl,iJ⟩,by simp[a1]⟩
  ·have e:=hf (by simp[a4])
   exact nK5 hc @bV a2 e @jQ.eq_1 tv
def akn{t:Tm}{h:Nat}(hb:NC h t){H:ae}(hf:sP t=true->az t=false)(s:AS)(hs:I0 t H s) :
  W A ((pR.body.post 2).pre 1) s (andThen (fun s'=>I0 t H s'/\sP t=false) (jQ H (az t))):=by
 obtain⟨T,rfl,e1⟩:=hs;unfold sP at hf ⊢;unfold I0;generalize az t=pr at hf ⊢;have hq:=VA t.name H (by have:=hb.a;omega)
 have hw:=qW t.name H (by have:=hb.a;omega)
 generalize gA t.name=q at hq hf ⊢;generalize isWord t.name=w at hw hf ⊢;unfold pR;simp only[aK.pre,aK.post]
 by_cases ty:t.kind=3\/t.kind=7\/t.kind=8\/t.kind=9\/t.kind=10
 ·have et:jL t.kind=true:=decide_eq_true ty
  rw[et] at hf ⊢
  rcases ty with ty|ty|ty|ty|ty
  all_goals
   cases q with
   | false =>
    have e:=hf rfl;exact nK5 e1 ty hq e @jQ.eq_1 tv
   | true =>
    refine nK4 e1 ty hq @jQ.eq_1 ?_
    exact⟨_,rfl,by first|exact nO1 e1 tv|(simp(disch:=omega)only[dm,aa,simprocAttr,e1,ty];done)|(simp(disch:=omega)only[dm,aa,simprocAttr,e1,k2];done)|(simp(disch:=omega)only[dm,aa,simprocAttr,e1,k0];done)|(simp(disch:=omega)only[dm,aa,simprocAttr,e1,k1];done)|(simp(disch:=omega)only[dm,aa,simprocAttr,e1,kk];done)⟩
 ·have et:jL t.kind=false:=av1 ty
  rw[et] at hf ⊢
  by_cases k2:t.kind=2
  ·rw[decide_eq_true k2] at hf ⊢
   cases w with
   | false =>
    have e:=hf rfl;exact nK5 e1 k2 hw e @jQ.eq_1 tv
   | true =>
    refine nK4 e1 k2 hw @jQ.eq_1 ?_
    exact⟨_,rfl,by first|exact nO1 e1 tv|(simp(disch:=omega)only[dm,aa,simprocAttr,e1];done)|(simp(disch:=omega)only[dm,aa,simprocAttr,e1,k2];done)|(simp(disch:=omega)only[dm,aa,simprocAttr,e1,k0];done)|(simp(disch:=omega)only[dm,aa,simprocAttr,e1,k1];done)|(simp(disch:=omega)only[dm,aa,simprocAttr,e1,kk];done)⟩
  ·rw[av1 k2] at hf ⊢
   by_cases na:t.name=[]
   ·have en:(t.name==[])=true:=by rw[na];rfl
    simp(disch:=omega)only[aO,aa,simprocAttr,e1,en,bne,jQ]
    exact⟨⟨_,rfl,by first|exact nO1 e1 tv|(simp(disch:=omega)only[dm,aa,simprocAttr,e1,ty];done)|(simp(disch:=omega)only[dm,aa,simprocAttr,e1,k2];done)|(simp(disch:=omega)only[dm,aa,simprocAttr,e1,k0];done)|(simp(disch:=omega)only[dm,aa,simprocAttr,e1,k1];done)|(simp(disch:=omega)only[dm,aa,simprocAttr,e1,kk];done)⟩,by simp[na]⟩
   ·have en:(t.name==[])=false:=cY na
    have e:=hf (by simp[na])
    simp(disch:=omega)only[aO,aa,simprocAttr,e1,en,bne,e,jQ]
def ako{t:Tm}{h:Nat}(hb:NC h t){H:ae}(hf:sQ t=true->az t=false)(s:AS)(hs:I0 t H s) :
  W A (((pR.body.post 2).post 1).pre 1) s (andThen (fun s'=>I0 t H s'/\sQ t=false) (jQ H (az t))):=by
 obtain⟨T,rfl,e1⟩:=hs;unfold sQ at hf ⊢;unfold I0;generalize az t=pr at hf ⊢;have hw:=qW t.field H (by have:=hb.f;omega)
 generalize isWord t.field=w at hw hf ⊢;unfold pR;simp only[aK.pre,aK.post]
 by_cases ty:t.kind=8\/t.kind=9
 ·rw[decide_eq_true ty] at hf ⊢
  rcases ty with ty|ty
  all_goals
   cases w with
   | false =>
    have e:=hf rfl;exact nK5 e1 ty hw e @jQ.eq_1 tv
   | true =>
    refine nK4 e1 ty hw @jQ.eq_1 ?_
    exact⟨_,rfl,by first|exact nO1 e1 tv|(simp(disch:=omega)only[dm,aa,simprocAttr,e1,ty];done)|(simp(disch:=omega)only[dm,aa,simprocAttr,e1,k2];done)|(simp(disch:=omega)only[dm,aa,simprocAttr,e1,k0];done)|(simp(disch:=omega)only[dm,aa,simprocAttr,e1,k1];done)|(simp(disch:=omega)only[dm,aa,simprocAttr,e1,kk];done)⟩
 ·rw[av1 ty] at hf ⊢
  by_cases na:t.field=[]
  ·have en:(t.field==[])=true:=by rw[na];rfl
   refine nK3 e1 en @jQ.eq_1 ?_
   exact⟨⟨_,rfl,by first|exact nO1 e1 tv|(simp(disch:=omega)only[dm,aa,simprocAttr,e1,ty];done)|(simp(disch:=omega)only[dm,aa,simprocAttr,e1,k2];done)|(simp(disch:=omega)only[dm,aa,simprocAttr,e1,k0];done)|(simp(disch:=omega)only[dm,aa,simprocAttr,e1,k1];done)|(simp(disch:=omega)only[dm,aa,simprocAttr,e1,kk];done)⟩,by simp[na]⟩
  ·have en:(t.field==[])=false:=cY na
   have e:=hf (by simp[na])
   exact nK4 e1 en e @jQ.eq_1 tv
def akp{t:Tm}{h:Nat}(hb:NC h t){H:ae}(hf:rH t=true->az t=false)(s:AS)(hs:I0 t H s) :
  W A ((((pR.body.post 2).post 1).post 1).pre 0) s (andThen (fun s'=>I0 t H s'/\rH t=false) (jQ H (az t))):=by
 obtain⟨T,rfl,e1⟩:=hs;unfold rH at hf ⊢;unfold I0;generalize az t=pr at hf ⊢;have hw:aj A 122 [.agg [.str t.wn,.slice (aH t.wk) false]] H=some (.bool (bY (.mk t.wn t.wk)),none):=by
  have:=Ao 3 (.mk t.wn t.wk) H hb.w
  rwa [gX] at this
 have hwk:t.wk.length<=1:=hb.w.2.1;generalize bY (.mk t.wn t.wk)=w at hw hf ⊢;unfold pR;simp only[aK.pre,aK.post]
 by_cases ty:t.kind=11
 ·rw[decide_eq_true ty] at hf ⊢
  cases w with
  | false =>
   have e:=hf rfl;exact nK5 e1 ty hw e @jQ.eq_1 tv
  | true =>
   refine nK4 e1 ty hw @jQ.eq_1 ?_
   exact⟨_,rfl,by first|exact nO1 e1 tv|(simp(disch:=omega)only[dm,aa,simprocAttr,e1,ty];done)|(simp(disch:=omega)only[dm,aa,simprocAttr,e1,k2];done)|(simp(disch:=omega)only[dm,aa,simprocAttr,e1,k0];done)|(simp(disch:=omega)only[dm,aa,simprocAttr,e1,k1];done)|(simp(disch:=omega)only[dm,aa,simprocAttr,e1,kk];done)⟩
 ·rw[av1 ty] at hf ⊢
  by_cases na:t.wn=[]
  ·have en:(t.wn==[])=true:=by rw[na];rfl
   by_cases nk:0<t.wk.length
   ·have e:=hf (by simp[nk])
    simp(disch:=omega)only[aO,aa,simprocAttr,e1,en,bne,iw,e,jQ]
   ·simp(disch:=omega)only[aO,aa,simprocAttr,e1,en,bne,iw,jQ]
    exact⟨⟨_,rfl,by first|exact nO1 e1 tv|(simp(disch:=omega)only[dm,aa,simprocAttr,e1,ty];done)|(simp(disch:=omega)only[dm,aa,simprocAttr,e1,k2];done)|(simp(disch:=omega)only[dm,aa,simprocAttr,e1,k0];done)|(simp(disch:=omega)only[dm,aa,simprocAttr,e1,k1];done)|(simp(disch:=omega)only[dm,aa,simprocAttr,e1,kk];done)⟩,by simp[na,nk]⟩
  ·have en:(t.wn==[])=false:=cY na
   have e:=hf (by simp[na])
   simp(disch:=omega)only[aO,aa,simprocAttr,e1,en,bne,e,jQ]
def akq{t:Tm}{h:Nat}(hb:NC h t){H:ae}(hf:rI t=true->az t=false)(s:AS)(hs:I0 t H s) :
  W A (((((pR.body.post 2).post 1).post 1).post 0).pre 0) s (andThen (fun s'=>I0 t H s'/\rI t=false) (jQ H (az t))):=by
 obtain⟨T,rfl,e1⟩:=hs;unfold rI at hf ⊢;unfold I0;generalize az t=pr at hf ⊢;have hn:=hb.n;unfold pR;simp only[aK.pre,aK.post]
 by_cases k0:t.kind=0
 ·rw[decide_eq_true k0] at hf ⊢
  by_cases a1:t.n < -1099511627776
  ·have e:=hf (by simp[a1])
   exact nK4 e1 k0 e @jQ.eq_1 tv
  by_cases a2:1099511627776<t.n
  ·have e:=hf (by simp[a2])
   exact nK4 e1 k0 e @jQ.eq_1 tv
  ·refine nK3 e1 k0 @jQ.eq_1 ?_
   exact⟨⟨_,rfl,by first|exact nO1 e1 tv|(simp(disch:=omega)only[dm,aa,simprocAttr,e1,ty];done)|(simp(disch:=omega)only[dm,aa,simprocAttr,e1,k2];done)|(simp(disch:=omega)only[dm,aa,simprocAttr,e1,k0];done)|(simp(disch:=omega)only[dm,aa,simprocAttr,e1,k1];done)|(simp(disch:=omega)only[dm,aa,simprocAttr,e1,kk];done)⟩,dq⟩
 rw[av1 k0] at hf ⊢
 by_cases k1:t.kind=1
 ·rw[decide_eq_true k1] at hf ⊢
  by_cases a0:t.n=0
  ·refine nK3 e1 k1 @jQ.eq_1 ?_
   exact⟨⟨_,rfl,by first|exact nO1 e1 tv|(simp(disch:=omega)only[dm,aa,simprocAttr,e1,ty];done)|(simp(disch:=omega)only[dm,aa,simprocAttr,e1,k2];done)|(simp(disch:=omega)only[dm,aa,simprocAttr,e1];done)|(simp(disch:=omega)only[dm,aa,simprocAttr,e1,k1];done)|(simp(disch:=omega)only[dm,aa,simprocAttr,e1,kk];done)⟩,by simp[a0]⟩
  by_cases a1:t.n=1
  ·refine nK3 e1 k1 @jQ.eq_1 ?_
   exact⟨⟨_,rfl,by first|exact nO1 e1 tv|(simp(disch:=omega)only[dm,aa,simprocAttr,e1,ty];done)|(simp(disch:=omega)only[dm,aa,simprocAttr,e1,k2];done)|(simp(disch:=omega)only[dm,aa,simprocAttr,e1];done)|(simp(disch:=omega)only[dm,aa,simprocAttr,e1,k1];done)|(simp(disch:=omega)only[dm,aa,simprocAttr,e1,kk];done)⟩,by simp[a1]⟩
  ·have e:=hf (by simp[a0,a1])
   exact nK4 e1 k1 e @jQ.eq_1 tv
 ·rw[av1 k1] at hf ⊢
  refine nK2 e1 @jQ.eq_1 ?_
  exact⟨_,rfl,by first|exact nO1 e1 tv|(simp(disch:=omega)only[dm,aa,simprocAttr,e1,ty];done)|(simp(disch:=omega)only[dm,aa,simprocAttr,e1,k2];done)|(simp(disch:=omega)only[dm,aa,simprocAttr,e1,k0];done)|(simp(disch:=omega)only[dm,aa,simprocAttr,e1,k1];done)|(simp(disch:=omega)only[dm,aa,simprocAttr,e1,kk];done)⟩
def akr{t:Tm}{h:Nat}(hb:NC h t){H:ae}(hf:sR t=true->az t=false)(s:AS)(hs:I0 t H s) :
  W A ((((((pR.body.post 2).post 1).post 1).post 0).post 0).pre 0) s (andThen (fun s'=>I0 t H s'/\sR t=false) (jQ H (az t))):=by
 obtain⟨T,rfl,e1⟩:=hs;unfold sR at hf ⊢;unfold I0;generalize az t=pr at hf ⊢;unfold pR;simp only[aK.pre,aK.post]
 by_cases kk:t.kind=0\/t.kind=1\/t.kind=4
 ·rcases kk with kk|kk|kk
  all_goals
   refine nK3 e1 kk @jQ.eq_1 ?_
   exact⟨⟨_,rfl,by first|exact nO1 e1 tv|(simp(disch:=omega)only[dm,aa,simprocAttr,e1,ty];done)|(simp(disch:=omega)only[dm,aa,simprocAttr,e1,k2];done)|(simp(disch:=omega)only[dm,aa,simprocAttr,e1,k0];done)|(simp(disch:=omega)only[dm,aa,simprocAttr,e1,k1];done)|(simp(disch:=omega)only[dm,aa,simprocAttr,e1,kk];done)⟩,ag⟩
 ·by_cases a0:t.n=0
  ·refine nK2 e1 @jQ.eq_1 ?_
   exact⟨⟨_,rfl,by first|exact nO1 e1 tv|(simp(disch:=omega)only[dm,aa,simprocAttr,e1,ty];done)|(simp(disch:=omega)only[dm,aa,simprocAttr,e1,k2];done)|(simp(disch:=omega)only[dm,aa,simprocAttr,e1,k0];done)|(simp(disch:=omega)only[dm,aa,simprocAttr,e1,k1];done)|(simp(disch:=omega)only[dm,aa,simprocAttr,e1,kk];done)⟩,by simp[a0]⟩
  ·have e:=hf (by simp[a0];omega)
   exact nK3 e1 e @jQ.eq_1 tv
def nL{t:Tm}(h:oF t=false):az t=false:=by rw[fL,h,avt]
def GN:∀ (h:Nat) (t:Tm) (H:ae),RP h t->aj A 123 [.agg (aM t)] H=some (.bool (az t),none)
 | 0,t,H,hb=>by cases hb
 | h+1,t,H,hb=>by
  have ih:=GN h;have hF:=hb.out;refine cJ (fn:=pR) rfl rfl rfl ?_;refine iX 2 _ (akm hF fun hx=>nL (by unfold oF;rw[hx];rfl)) ?_
  rintro s1 ⟨qK,b1⟩
  refine iX 1 _ (akn hF (fun hx=>nL (by unfold oF;rw[hx];simp)) s1 qK) ?_
  rintro s2 ⟨xp,b2⟩
  refine iX 1 _ (ako hF (fun hx=>nL (by unfold oF;rw[hx];simp)) s2 xp) ?_
  rintro s3 ⟨hs3,b3⟩
  refine iX 0 _ (akp hF (fun hx=>nL (by unfold oF;rw[hx];simp)) s3 hs3) ?_
  rintro s4 ⟨hs4,b4⟩
  refine iX 0 _ (akq hF (fun hx=>nL (by unfold oF;rw[hx];simp)) s4 hs4) ?_
  rintro s5 ⟨hs5,b5⟩
  refine iX 0 _ (akr hF (fun hx=>nL (by unfold oF;rw[hx];simp)) s5 hs5) ?_
  rintro s6 ⟨⟨T,rfl,e1⟩,b6⟩
  have ho:oF t=true:=by unfold oF;rw[b1,b2,b3,b4,b5,b6];rfl
  have hp:az t=t.kids.all az:=by rw[fL,ho,avE,dA]
  rw[hp];have Fu:=hF.kl;unfold pR;simp only[aK.post];refine nK0 ?_;refine cg t.kids.length 0 (fun i s=>∃ T,s=⟨T,H,H.length,1⟩/\T 1=.lbox 0 [.int .i64 t.kind,.int .i64 t.n,.str t.name,.str t.field,.str t.wn,.slice (aH t.wk) false,.slice (aC t.kids) false,.slice (strs t.names) false]/\T 7=.int .i64 i/\t.kids.all az=(t.kids.drop i).all az)
   (fun s=>∃ T,s=⟨T,H,H.length,1⟩/\t.kids.all az=true) (fun s=>∃ T,s=⟨T,H,H.length,1⟩/\T 2=.bool false/\t.kids.all az=false) ?_ ?_ ?_ 0 _ (avB _) ?_
  ·rintro i st hi ⟨T,rfl,e1,e7,hc⟩
   by_cases aZ:i<t.kids.length
   ·have hx:=au5 aZ
    have hd:=avr aZ;have hm:=avx aZ;generalize t.kids[i]=u at hx hd hm;have hu:=ih u H (hF.kb u hm);have gn:=DU hx;rw[ai] at hu gn;rw[hd,List.all_cons] at hc;cases On:az u with
    | false =>
     rw[On] at hu hc;refine nK5 e1 e7 @cO gn hu ?_;exact⟨_,rfl,iJ,by rw[hc];rfl⟩
    | true =>
     rw[On] at hu hc;refine nK5 e1 e7 @cO gn hu ?_;exact⟨aZ,_,rfl,fj e1,iJ,by rw[hc,avE]⟩
   ·have e:t.kids.drop i=[]:=List.drop_eq_nil_of_le (by omega)
    rw[e,List.all_nil] at hc;refine nK3 e1 e7 @cO ?_;exact⟨_,rfl,hc⟩
  ·rintro st ⟨T,rfl,hc⟩
   exact nD hc
  ·rintro st ⟨T,rfl,h2,hc⟩
   exact Lm h2 hc
  ·exact⟨_,rfl,fj e1,iJ,by simp⟩
def mG(a l:List ay)(x y:ay)(H:ae)(ha:a.length<=10000000)(hl:l.length<=10000000)(o o' : Bool) :
  aj A 125 [.slice (strs a) false,.str x,.slice (strs l) false,.str y] H=some (.slice (strs (a++[x]++l++[y])) true,none):=by
 have h1:aG false 1 16 (.slice [] true) (.slice (strs a) false)=some (.slice (strs a) true):=cw (l:=[]) dq;have h2:aG false 1 16 (.slice (strs a) true) (.slice [[.str x]] true)=some (.slice (strs (a++[x])) true):=ga ah;have h3:aG false 1 16 (.slice (strs (a++[x])) true) (.slice (strs l) false)=some (.slice (strs (a++[x]++l)) true):=cw dq;have h4:aG false 1 16 (.slice (strs (a++[x]++l)) true) (.slice [[.str y]] true)=some (.slice (strs (a++[x]++l++[y])) true):=ga dq;generalize a++[x]++l++[y]=l3 at h4 ⊢;generalize a++[x]++l=l2 at h3 h4;generalize a++[x]=l1 at h2 h3;refine cW abE.eq_1 ?_;exact vK4 h1 h2 h3 h4
def jT(k:Nat):ay:=fS (k+1) k []
def yr:∀ (f g n:Nat) (acc:ay),n<f->n<g->fS f n acc=fS g n acc
 | 0,_,n,acc,h,_=>ah
 | f+1,0,n,acc,_,h=>ah
 | f+1,g+1,n,acc,h,h2=>by
  unfold fS;cases hn:Nat.blt n 10 with
  | true=>rfl
  | false =>
   have:¬ n<10:=fun h=>by
    have:Nat.blt n 10=true:=by simpa [avn] using h
    rw[hn] at this;cases this
   simp only[cond_false];exact yr f g (n / 10) _ ah ah
theorem Cy(k:Nat)(H:ae)(hk:k<=2199023255552):aj A 80 [.int .i64 k] H=some (.str (jT k),none):=by
 refine cW aje.eq_1 ?_;refine nK0 ?_;refine oQ 0 (fun m s=>∃ T acc,s=⟨T,H,H.length,0⟩/\m<=2199023255552/\T 0=.int .i64 m/\T 3=.str acc/\acc.length+m<=k/\jT k=fS (m+1) m acc)
  (fun s=>∃ T acc m,s=⟨T,H,H.length,0⟩/\m<10/\T 0=.int .i64 (m:Nat)/\T 3=.str acc/\acc.length+m<=k/\jT k=UInt8.ofNat (48+m) :: acc) (fun _=>False) ?_ ?_ (fun _ h=>h.elim) k _ ?_
 ·rintro m s ⟨T,acc,rfl,hm,e0,e3,hl,hc⟩
  by_cases h9:9<m
  ·have hb:Nat.blt m 10=false:=by cases h:Nat.blt m 10 with|false=>rfl|true=>simp[avn] at h;omega
   have e:fS (m+1) m acc=fS (m / 10+1) (m / 10) (UInt8.ofNat (48+m % 10) :: acc):=by
    rw[fS,hb,cond_false];exact yr _ _ _ _ ah ah
   rw[e] at hc;simp(disch:=omega)only[aO,aa,simprocAttr,e0,e3,j6,zr,WG,nP,uA,bytesOf];have em:(48+(m:Int) % 10).toNat=48+m % 10:=ah;have ed:(m:Int) / 10=((m / 10:Nat):Int):=ah;exact⟨m / 10,ah,_,UInt8.ofNat (48+m % 10) :: acc,rfl,ah,fj ed,fj em,kq,hc⟩
  ·have hb:Nat.blt m 10=true:=by simp[avn];omega
   have e:fS (m+1) m acc=UInt8.ofNat (48+m) :: acc:=by rw[fS,hb,cond_true]
   rw[e] at hc;refine nK1 e0 ?_;exact⟨_,acc,m,rfl,ah,fj e0,fj e3,hl,hc⟩
 ·rintro s ⟨T,acc,m,rfl,hm,e0,e3,hl,hc⟩
  simp(disch:=omega)only[aO,aa,simprocAttr,e0,e3,WG,nP,uA,bytesOf]
  grind
 ·exact⟨_,[],rfl,hk,iJ,iJ,ag,rfl⟩
def fT(p:List ay × Int)(least:Int):List ay:=if p.2<least then [[40]]++p.1++[[41]] else p.1
def au:List (List ay)->List ay
 | []=>[]
 | [a]=>a
 | a :: b :: r=>a++[[44]]++au (b :: r)
def jg(x:List ay):∀ l:List (List ay),au (l++[x])=if l=[] then x else au l++[[44]]++x
 | []=>by simp[au]
 | [a]=>by simp[au]
 | a :: b :: r=>by
  have:=jg x (b :: r)
  simp only[avK,au] at this ⊢;rw[this];simp
def jA:List ay->List (List ay × Int)->List (List ay)
 | p :: q :: ns,y :: ys=>([p,q,[45,62]]++y.1) :: jA ns ys
 | _,_=>[]
def gp(k n:Int)(a f:ay)(w:Wd)(ns:List ay)(tl:List (List ay × Int)):List ay :=
 if k=0 then (if n<0 then [[45],jT (-n).toNat] else [jT n.toNat])
 else if k=1 then [if n=0 then [102,97,108,115,101] else [116,114,117,101]]
 else if k=2 then [a]
 else if k=3 then aL a++[[40]]++au (tl.map (·.1))++[[41]]
 else if k=4 then (match tl with
  | [x]=>[(cQ n).1]++fT x 7
  | [x,y]=>fT x (if (cQ n).2=3 then 4 else (cQ n).2)++[(cQ n).1]++fT y ((cQ n).2+1)
  | _=>[])
 else if k=5 then (match tl with|[x,y,z]=>[[105,102]]++x.1++[[116,104,101,110]]++y.1++[[101,108,115,101]]++z.1|_=>[])
 else if k=6 then (match tl,ns with|[x,y],[s]=>[[108,101,116],s,[61]]++x.1++[[105,110]]++y.1|_,_=>[])
 else if k=7 then aL a++[[123]]++au (List.zipWith (fun s (x:List ay × Int)=>[s,[61]]++x.1) ns tl)++[[125]]
 else if k=8 then (match tl with|[x]=>aL a++[[58],f]++[[91]]++x.1++[[93]]|_=>[])
 else if k=9 then (match tl with|[x]=>aL a++[[58],f]++[[40]]++x.1++[[41]]|_=>[])
 else if k=10 then (match tl with
  | x :: ys=>[[109,97,116,99,104]]++aL a++[[40]]++x.1++[[41]]++[[123]]++au (jA ns ys)++[[125]]
  | _=>[])
 else if k=11 then [cR]++[[40]]++bW w++[[41]]++[[91]]++au (tl.map (·.1))++[[93]]
 else if k=12 then (match tl,ns with|[x,y,z],[s,u]=>[[102,111,108,100],s,[44],u,[61]]++y.1++[[111,118,101,114]]++x.1++[[100,111]]++z.1|_,_=>[])
 else []
mutual
def af:Tm->List ay
 | .mk k n a f wn wk ks ns=>gp k n a f (.mk wn wk) ns (DV ks)
def DV:List Tm->List (List ay × Int)
 | []=>[]
 | t :: r=>(af t,bE t) :: DV r
end
def DW:∀ l:List Tm,DV l=l.map fun t=>(af t,bE t)
 | []=>by simp[DV]
 | t :: r=>by simp[DV,DW r]
def bJ(t:Tm):af t=gp t.kind t.n t.name t.field (.mk t.wn t.wk) t.names (t.kids.map fun t=>(af t,bE t)):=by
 cases t;rw[af,DW,Tm.kind,Tm.n,Tm.name,Tm.field,Tm.wn,Tm.wk,Tm.names,Tm.kids]
structure uo (t:Tm):Prop where
 d:∀ H,aj A 81 [.agg (aM t)] H=some (.slice (strs (af t)) true,none)
 len:(af t).length<=100000
def UO{t:Tm}(h:uo t)(least:Int)(H:ae):aj A 128 [.agg (aM t),.int .i64 least] H=some (.slice (strs (fT (af t,bE t) least)) true,none):=by
 have h1:=h.d H;have h2:=YM t H;have hl:=h.len;rw[ai] at h1 h2 ⊢;have a1:aG false 1 16 (.slice [[.str [40]]] true) (.slice (strs (af t)) true)=some (.slice (strs ([[40]]++af t)) true):=cw (l:=[[40]]) dq;have a2:aG false 1 16 (.slice (strs ([[40]]++af t)) true) (.slice [[.str [41]]] true)=some (.slice (strs ([[40]]++af t++[[41]])) true):=ga dq;unfold fT;generalize [[40]]++af t++[[41]]=l2 at a2 ⊢;generalize [[40]]++af t=l1 at a1 a2;refine cW abG.eq_1 ?_
 by_cases hc:bE t<least
 ·rw[if_pos hc]
  exact vK4 h1 h2 a1 a2
 ·rw[if_neg hc]
  exact Lm h1 h2
theorem jt:∀ (l:List (List ay)) (n:Nat),(∀ x∈l,x.length<=n)->(au l).length<=l.length*(n+1)
 | [],_,_=>by simp[au]
 | [a],n,h=>by have:=h a ag;simp only[au,List.length_cons,List.length_nil];omega
 | a :: b :: r,n,h=>by
  have h1:=h a ag;have h2:=jt (b :: r) n (fun x hx=>h x (by simp only[avs] at hx ⊢;exact .inr hx))
  simp only[au,List.length_append,List.length_cons,List.length_nil] at h2 ⊢
  grind
theorem Kf{l:List Tm}(hl:l.length<=10)(h:∀ t∈l,uo t)(H:ae):aj A 126 [.slice (aC l) false] H=some (.slice (strs (au (l.map af))) false,none):=by
 refine cW abF.eq_1 ?_;refine nK0 ?_;refine cg l.length 0 (fun i s=>∃ T,s=⟨T,H,H.length,0⟩/\T 0=.slice (aC l) false/\T 3=.slice (strs (au ((l.take i).map af))) true/\T 4=.int .i64 i)
  (fun s=>∃ T,s=⟨T,H,H.length,0⟩/\T 3=.slice (strs (au (l.map af))) true) (fun _=>False) ?_ ?_ (fun _ h=>h.elim) 0 _ (avB _) ?_
 ·rintro i s hi ⟨T,rfl,e0,e3,e4⟩
  by_cases aZ:i<l.length
  ·have hx:=au5 aZ
   have hm:=avx aZ;have nA:l.take (i+1)=l.take i++[l[i]]:=by rw[awv,hx];rfl
   generalize l[i]=u at hx hm nA;have hu:=(h u hm).d H;have T9:=(h u hm).len;have gn:=DU hx;rw[ai] at hu gn;have yD:(au ((l.take i).map af)).length<=10*100001:=by
    have h1:=jt ((l.take i).map af) 100000 (fun x hx=>by
     obtain⟨t,ht,rfl⟩:=List.mem_map.1 hx;exact (h t (awm ht)).len)
    grind
   have kZ:(l.take (i+1)).map af=(l.take i).map af++[af u]:=by rw[nA];simp
   have hs:=jg (af u) ((l.take i).map af);rw[<- kZ] at hs
   by_cases h0:i=0
   ·subst h0
    simp only[avY,avN,awT] at hs e3;have a1:aG false 1 16 (.slice (strs (au [])) true) (.slice (strs (af u)) true)=some (.slice (strs (af u)) true):=cw (l:=[]) dq;refine nK6 e0 e3 e4 @cO gn (j2 hu a1) ?_;exact⟨aZ,_,rfl,fj e0,by rw[hs];exact nO0 tv,iJ⟩
   ·have dk:¬ ((l.take i).map af=[]):=fun e=>by
     simp_all
    rw[if_neg dk] at hs;generalize au ((l.take i).map af)=acc at e3 yD hs;have a1:aG false 1 16 (.slice (strs acc) true) (.slice [[.str [44]]] true)=some (.slice (strs (acc++[[44]])) true):=ga ah;have a2:aG false 1 16 (.slice (strs (acc++[[44]])) true) (.slice (strs (af u)) true)=some (.slice (strs (acc++[[44]]++af u)) true):=cw dq;generalize acc++[[44]]++af u=l2 at a2 hs;generalize acc++[[44]]=l1 at a1 a2;refine nK6 e0 e3 e4 @cO gn (j3 hu a1 a2) ?_;exact⟨aZ,_,rfl,fj e0,by rw[hs];exact nO0 tv,iJ⟩
  ·rw[List.take_of_length_le ah] at e3
   refine nK3 e0 e4 @cO ?_;exact⟨_,rfl,fj e3⟩
 ·rintro s ⟨T,rfl,e3⟩
  exact nD e3
 ·exact⟨_,rfl,iJ,nO2 @au.eq_1 @strs.eq_1 tv,iJ⟩
section
structure Fb (t:Tm):Prop where
 b1:rG t=false
 b2:sP t=false
 b3:sQ t=false
 b4:rH t=false
 b5:rI t=false
 b6:sR t=false
 kids:∀ u∈t.kids,az u=true
def vJ{t:Tm}(h:az t=true):Fb t:=by
 rw[fL,au6,dA] at h;obtain⟨h1,h2⟩:=h;simp only[oF,avo,avJ] at h1;obtain⟨⟨⟨⟨⟨a1,a2⟩,a3⟩,a4⟩,a5⟩,a6⟩:=h1;exact⟨a1,a2,a3,a4,a5,a6,fun u hu=>ava.1 h2 u hu⟩
def gL{t:Tm}(h:Fb t){c1 c2:Int}(hc:bR t.kind t.n t.kids.length=(c1,c2)):c1≠-2/\(0<=c1->(t.kids.length:Int)=c1)/\(t.names.length:Int)=c2:=by
 have h1:=h.b1;unfold rG at h1;rw[hc] at h1;simp only[n9,avJ,avp,not_and,Decidable.not_not] at h1;exact⟨h1.1.1.1,h1.1.1.2,h1.1.2⟩
def zd{t:Tm}(h:Fb t):0<=t.kind/\t.kind<=12:=by
 rcases uT t.kind with e|e|e|e|e|e|e|e|e|e|e|e|e|e
 all_goals first|omega|skip
 have hc:bR t.kind t.n t.kids.length=(-2,0):=by
  unfold bR
  repeat rw[if_neg ah]
 exact absurd rfl (gL h hc).1
def Bw{l:List α}(h:l.length=1):∃ a,l=[a]:=by
 match l,h with
 | [a],_=>exact⟨a,rfl⟩
def xz{l:List α}(h:l.length=2):∃ a b,l=[a,b]:=by
 match l,h with
 | [a,b],_=>exact⟨a,b,rfl⟩
def ME{l:List α}(h:l.length=3):∃ a b c,l=[a,b,c]:=by
 match l,h with
 | [a,b,c],_=>exact⟨a,b,c,rfl⟩
section
variable {t:Tm}{h:Nat}(hF:NC h t)(hO:Fb t)(hK:∀ u∈t.kids,uo u)(H:ae)
include hF hO hK
def tk0(hk:t.kind=0):aj A 81 [.agg (aM t)] H=some (.slice (strs (af t)) true,none):=by
 have _:=hF;have _:=hK;have hn:=hO.b5;unfold rI at hn;rw[decide_eq_true hk] at hn;simp only[cond_true,avp,not_or,Int.not_lt] at hn;rw[bJ,ai];refine cW xt.eq_1 ?_
 by_cases h0:t.n<0
 ·obtain⟨m,hm⟩:∃ m:Nat, -t.n=m:=⟨(-t.n).toNat,ah⟩
  have hm0:0-t.n=m:=ah;have hd:=Cy m H ah;have e:gp t.kind t.n t.name t.field (.mk t.wn t.wk) t.names (t.kids.map fun t=>(af t,bE t))=[[45],jT m]:=by
   unfold gp;rw[if_pos hk,if_pos h0,hm];rfl
  rw[e];exact nK4 hk hm0 hd @strs.eq_1 tv
 ·obtain⟨m,hm⟩:∃ m:Nat,t.n=m:=⟨t.n.toNat,ah⟩
  have hd:=Cy m H ah;have e:gp t.kind t.n t.name t.field (.mk t.wn t.wk) t.names (t.kids.map fun t=>(af t,bE t))=[jT m]:=by
   unfold gp;rw[if_pos hk,if_neg h0,hm];rfl
  rw[e];exact nK4 hk hm hd @strs.eq_1 tv
def tk2(hk:t.kind=2):aj A 81 [.agg (aM t)] H=some (.slice (strs (af t)) true,none):=by
 have _:=hF;have _:=hO;have _:=hK;rw[bJ,ai];refine cW xt.eq_1 ?_;have e:gp t.kind t.n t.name t.field (.mk t.wn t.wk) t.names (t.kids.map fun t=>(af t,bE t))=[t.name]:=by
  rw[hk];rfl
 rw[e];exact nK2 hk @strs.eq_1 tv
def tk3(hk:t.kind=3):aj A 81 [.agg (aM t)] H=some (.slice (strs (af t)) true,none):=by
 have _:=hO;have hq:=vN t.name H (by have:=hF.a;omega)
 have hl:=Kf (l:=t.kids) (by have:=hF.kl;omega) hK H
 have hb:=mG (aL t.name) (au (t.kids.map af)) [40] [41] H (by have:=lP t.name;omega) (by
  have h1:=jt (t.kids.map af) 100000 (fun x hx=>by obtain⟨u,hu,rfl⟩:=List.mem_map.1 hx;exact (hK u hu).len)
  rw[List.length_map] at h1;have:=hF.kl
  have h2:t.kids.length*(100000+1)<=3*100001:=avg _ this;omega) true false
 rw[bJ,ai];have e:gp t.kind t.n t.name t.field (.mk t.wn t.wk) t.names (t.kids.map fun t=>(af t,bE t))=aL t.name++[[40]]++au (t.kids.map af)++[[41]]:=by
  rw[hk]
  show aL t.name++[[40]]++au ((t.kids.map fun t=>(af t,bE t)).map (·.1))++[[41]]=_
  rw[awh];rfl
 rw[e];generalize aL t.name++[[40]]++au (t.kids.map af)++[[41]]=out at hb ⊢;refine cW xt.eq_1 ?_;exact nK4 hk hq hl hb tv
def tk1(hk:t.kind=1):aj A 81 [.agg (aM t)] H=some (.slice (strs (af t)) true,none):=by
 have _:=hF;have _:=hK;have hn:=hO.b5;unfold rI at hn;rw[av1 (show ¬ t.kind=0 by omega),decide_eq_true hk] at hn
 simp only[cond_true,cond_false,avp,not_and,Decidable.not_not] at hn;rw[bJ,ai];refine cW xt.eq_1 ?_
 by_cases h0:t.n=0
 ·have e:gp t.kind t.n t.name t.field (.mk t.wn t.wk) t.names (t.kids.map fun t=>(af t,bE t))=[[102,97,108,115,101]]:=by
   rw[hk,h0];rfl
  rw[e];simp(disch:=omega)only[aO,aa,simprocAttr,hk,h0,strs]
  first|done|rfl
 ·have h1:=hn h0
  have e:gp t.kind t.n t.name t.field (.mk t.wn t.wk) t.names (t.kids.map fun t=>(af t,bE t))=[[116,114,117,101]]:=by
   rw[hk,h1];rfl
  rw[e];simp(disch:=omega)only[aO,aa,simprocAttr,hk,h1,strs]
  first|done|rfl
def tk5(hk:t.kind=5):aj A 81 [.agg (aM t)] H=some (.slice (strs (af t)) true,none):=by
 have _:=hF;have hc:=gL hO (c1:=3) (c2:=0) (by rw[hk];rfl)
 have hl:=hc.2.1 ah;obtain⟨x,y,z,gD⟩:=ME (show t.kids.length=3 by omega)
 have hx:=hK x (by rw[gD];simp)
 have hy:=hK y (by rw[gD];simp)
 have hz:=hK z (by rw[gD];simp)
 have dx:=hx.d H;have dy:=hy.d H;have dz:=hz.d H;have lx:=hx.len;have ly:=hy.len;have lz:=hz.len;have kt:aC t.kids=[[.int .i64 x.kind,.int .i64 x.n,.str x.name,.str x.field,.str x.wn,.slice (aH x.wk) false,.slice (aC x.kids) false,.slice (strs x.names) false],
   [.int .i64 y.kind,.int .i64 y.n,.str y.name,.str y.field,.str y.wn,.slice (aH y.wk) false,.slice (aC y.kids) false,.slice (strs y.names) false],
   [.int .i64 z.kind,.int .i64 z.n,.str z.name,.str z.field,.str z.wn,.slice (aH z.wk) false,.slice (aC z.kids) false,.slice (strs z.names) false]]:=by
  rw[gD,aC,aC,aC,aC,ai,ai,ai]
 rw[ai] at dx dy dz;have a1:aG false 1 16 (.slice [[.str [105,102]]] true) (.slice (strs (af x)) true)=some (.slice (strs ([[105,102]]++af x)) true):=cw (l:=[[105,102]]) dq;have a2:aG false 1 16 (.slice (strs ([[105,102]]++af x)) true) (.slice [[.str [116,104,101,110]]] true)=some (.slice (strs ([[105,102]]++af x++[[116,104,101,110]])) true):=ga dq;have a3:aG false 1 16 (.slice (strs ([[105,102]]++af x++[[116,104,101,110]])) true) (.slice (strs (af y)) true)=some (.slice (strs ([[105,102]]++af x++[[116,104,101,110]]++af y)) true):=cw dq;have a4:aG false 1 16 (.slice (strs ([[105,102]]++af x++[[116,104,101,110]]++af y)) true) (.slice [[.str [101,108,115,101]]] true)=some (.slice (strs ([[105,102]]++af x++[[116,104,101,110]]++af y++[[101,108,115,101]])) true):=ga dq;have a5:aG false 1 16 (.slice (strs ([[105,102]]++af x++[[116,104,101,110]]++af y++[[101,108,115,101]])) true) (.slice (strs (af z)) true)=some (.slice (strs ([[105,102]]++af x++[[116,104,101,110]]++af y++[[101,108,115,101]]++af z)) true):=cw dq;have e:af t=[[105,102]]++af x++[[116,104,101,110]]++af y++[[101,108,115,101]]++af z:=by
  rw[bJ,hk,gD];rfl
 rw[e,ai];generalize [[105,102]]++af x++[[116,104,101,110]]++af y++[[101,108,115,101]]++af z=l5 at a5 ⊢;generalize [[105,102]]++af x++[[116,104,101,110]]++af y++[[101,108,115,101]]=l4 at a4 a5;generalize [[105,102]]++af x++[[116,104,101,110]]++af y=l3 at a3 a4;generalize [[105,102]]++af x++[[116,104,101,110]]=l2 at a2 a3;generalize [[105,102]]++af x=l1 at a1 a2;refine cW xt.eq_1 ?_;rw[kt];exact nK6 hk dx dy dz a1 (j4 a2 a3 a4 a5) tv
end
end
section
section
variable {t:Tm}{h:Nat}(hF:NC h t)(hO:Fb t)(hK:∀ u∈t.kids,uo u)(H:ae)
include hF hO hK
def tk6(hk:t.kind=6):aj A 81 [.agg (aM t)] H=some (.slice (strs (af t)) true,none):=by
 have _:=hF;have hc:=gL hO (c1:=2) (c2:=1) (by rw[hk];rfl)
 have hl:=hc.2.1 ah;have uQ:=hc.2.2;obtain⟨x,y,gD⟩:=xz (show t.kids.length=2 by omega)
 obtain⟨s,A1⟩:=Bw (show t.names.length=1 by omega)
 have hx:=hK x (by rw[gD];simp)
 have dx:=hx.d H;have lx:=hx.len;have hy:=hK y (by rw[gD];simp)
 have dy:=hy.d H;have ly:=hy.len;have kt:aC t.kids=[[.int .i64 x.kind,.int .i64 x.n,.str x.name,.str x.field,.str x.wn,.slice (aH x.wk) false,.slice (aC x.kids) false,.slice (strs x.names) false],[.int .i64 y.kind,.int .i64 y.n,.str y.name,.str y.field,.str y.wn,.slice (aH y.wk) false,.slice (aC y.kids) false,.slice (strs y.names) false]]:=by
  rw[gD,aC,aC,aC,ai,ai]
 have nt:strs t.names=[[.str s]]:=by rw[A1];rfl
 rw[ai] at dx dy;have a1:aG false 1 16 (.slice [[.str [108,101,116]],[.str s],[.str [61]]] true) (.slice (strs (af x)) true)=some (.slice (strs ([[108,101,116],s,[61]]++af x)) true):=cw (l:=[[108,101,116],s,[61]]) dq;have a2:aG false 1 16 (.slice (strs ([[108,101,116],s,[61]]++af x)) true) (.slice [[.str [105,110]]] true)=some (.slice (strs ([[108,101,116],s,[61]]++af x++[[105,110]])) true):=ga dq;have a3:aG false 1 16 (.slice (strs ([[108,101,116],s,[61]]++af x++[[105,110]])) true) (.slice (strs (af y)) true)=some (.slice (strs ([[108,101,116],s,[61]]++af x++[[105,110]]++af y)) true):=cw dq;have e:af t=[[108,101,116],s,[61]]++af x++[[105,110]]++af y:=by
  rw[bJ,hk,gD,A1];rfl
 rw[e,ai];generalize [[108,101,116],s,[61]]++af x++[[105,110]]++af y=q3 at a3 ⊢;generalize [[108,101,116],s,[61]]++af x++[[105,110]]=q2 at a2 a3;generalize [[108,101,116],s,[61]]++af x=q1 at a1 a2;refine cW xt.eq_1 ?_;rw[kt,nt];exact nK6 hk dx dy a1 a2 a3 tv
def aoy(hk:t.kind=12):aj A 81 [.agg (aM t)] H=some (.slice (strs (af t)) true,none):=by
 have _:=hF;have hc:=gL hO (c1:=3) (c2:=2) (by rw[hk];rfl)
 have hl:=hc.2.1 ah;have uQ:=hc.2.2;obtain⟨x,y,z,gD⟩:=ME (show t.kids.length=3 by omega)
 obtain⟨s,u,A1⟩:=xz (show t.names.length=2 by omega)
 have hx:=hK x (by rw[gD];simp)
 have dx:=hx.d H;have lx:=hx.len;have hy:=hK y (by rw[gD];simp)
 have dy:=hy.d H;have ly:=hy.len;have hz:=hK z (by rw[gD];simp)
 have dz:=hz.d H;have lz:=hz.len;have kt:aC t.kids=[[.int .i64 x.kind,.int .i64 x.n,.str x.name,.str x.field,.str x.wn,.slice (aH x.wk) false,.slice (aC x.kids) false,.slice (strs x.names) false],[.int .i64 y.kind,.int .i64 y.n,.str y.name,.str y.field,.str y.wn,.slice (aH y.wk) false,.slice (aC y.kids) false,.slice (strs y.names) false],[.int .i64 z.kind,.int .i64 z.n,.str z.name,.str z.field,.str z.wn,.slice (aH z.wk) false,.slice (aC z.kids) false,.slice (strs z.names) false]]:=by
  rw[gD,aC,aC,aC,aC,ai,ai,ai]
 have nt:strs t.names=[[.str s],[.str u]]:=by rw[A1];rfl
 rw[ai] at dx dy dz;have a1:aG false 1 16 (.slice [[.str [102,111,108,100]],[.str s],[.str [44]],[.str u],[.str [61]]] true) (.slice (strs (af y)) true)=some (.slice (strs ([[102,111,108,100],s,[44],u,[61]]++af y)) true):=cw (l:=[[102,111,108,100],s,[44],u,[61]]) dq;have a2:aG false 1 16 (.slice (strs ([[102,111,108,100],s,[44],u,[61]]++af y)) true) (.slice [[.str [111,118,101,114]]] true)=some (.slice (strs ([[102,111,108,100],s,[44],u,[61]]++af y++[[111,118,101,114]])) true):=ga dq;have a3:aG false 1 16 (.slice (strs ([[102,111,108,100],s,[44],u,[61]]++af y++[[111,118,101,114]])) true) (.slice (strs (af x)) true)=some (.slice (strs ([[102,111,108,100],s,[44],u,[61]]++af y++[[111,118,101,114]]++af x)) true):=cw dq;have a4:aG false 1 16 (.slice (strs ([[102,111,108,100],s,[44],u,[61]]++af y++[[111,118,101,114]]++af x)) true) (.slice [[.str [100,111]]] true)=some (.slice (strs ([[102,111,108,100],s,[44],u,[61]]++af y++[[111,118,101,114]]++af x++[[100,111]])) true):=ga dq;have a5:aG false 1 16 (.slice (strs ([[102,111,108,100],s,[44],u,[61]]++af y++[[111,118,101,114]]++af x++[[100,111]])) true) (.slice (strs (af z)) true)=some (.slice (strs ([[102,111,108,100],s,[44],u,[61]]++af y++[[111,118,101,114]]++af x++[[100,111]]++af z)) true):=cw dq;have e:af t=[[102,111,108,100],s,[44],u,[61]]++af y++[[111,118,101,114]]++af x++[[100,111]]++af z:=by
  rw[bJ,hk,gD,A1];rfl
 rw[e,ai];generalize [[102,111,108,100],s,[44],u,[61]]++af y++[[111,118,101,114]]++af x++[[100,111]]++af z=q5 at a5 ⊢;generalize [[102,111,108,100],s,[44],u,[61]]++af y++[[111,118,101,114]]++af x++[[100,111]]=q4 at a4 a5;generalize [[102,111,108,100],s,[44],u,[61]]++af y++[[111,118,101,114]]++af x=q3 at a3 a4;generalize [[102,111,108,100],s,[44],u,[61]]++af y++[[111,118,101,114]]=q2 at a2 a3;generalize [[102,111,108,100],s,[44],u,[61]]++af y=q1 at a1 a2;refine cW xt.eq_1 ?_;rw[kt,nt];exact nK6 hk dx dy dz a1 (j4 a2 a3 a4 a5) tv
end
end
section
section
variable {t:Tm}{h:Nat}(hF:NC h t)(hO:Fb t)(hK:∀ u∈t.kids,uo u)(H:ae)
include hF hO hK
def tk8(hk:t.kind=8):aj A 81 [.agg (aM t)] H=some (.slice (strs (af t)) true,none):=by
 have hc:=gL hO (c1:=1) (c2:=0) (by rw[hk];rfl)
 have hl:=hc.2.1 ah;obtain⟨x,gD⟩:=Bw (show t.kids.length=1 by omega)
 have hx:=hK x (by rw[gD];simp)
 have dx:=hx.d H;have lx:=hx.len;have kt:aC t.kids=[[.int .i64 x.kind,.int .i64 x.n,.str x.name,.str x.field,.str x.wn,.slice (aH x.wk) false,.slice (aC x.kids) false,.slice (strs x.names) false]]:=by
  rw[gD,aC,aC,ai]
 rw[ai] at dx;have hq:=vN t.name H (by have:=hF.a;omega)
 have hql:=lP t.name;have a1:aG false 1 16 (.slice (strs (aL t.name)) true) (.slice [[.str [58]],[.str t.field]] true)=some (.slice (strs (aL t.name++[[58],t.field])) true):=Ly ah;have hb:=mG (aL t.name++[[58],t.field]) (af x) [91] [93] H dq ah true true;have e:af t=aL t.name++[[58],t.field]++[[91]]++af x++[[93]]:=by
  rw[bJ,hk,gD];rfl
 rw[e,ai];generalize aL t.name++[[58],t.field]++[[91]]++af x++[[93]]=q2 at hb ⊢;generalize aL t.name++[[58],t.field]=q1 at a1 hb;refine cW xt.eq_1 ?_;rw[kt];exact vK5 hk dx hq a1 hb
def tk9(hk:t.kind=9):aj A 81 [.agg (aM t)] H=some (.slice (strs (af t)) true,none):=by
 have hc:=gL hO (c1:=1) (c2:=0) (by rw[hk];rfl)
 have hl:=hc.2.1 ah;obtain⟨x,gD⟩:=Bw (show t.kids.length=1 by omega)
 have hx:=hK x (by rw[gD];simp)
 have dx:=hx.d H;have lx:=hx.len;have kt:aC t.kids=[[.int .i64 x.kind,.int .i64 x.n,.str x.name,.str x.field,.str x.wn,.slice (aH x.wk) false,.slice (aC x.kids) false,.slice (strs x.names) false]]:=by
  rw[gD,aC,aC,ai]
 rw[ai] at dx;have hq:=vN t.name H (by have:=hF.a;omega)
 have hql:=lP t.name;have a1:aG false 1 16 (.slice (strs (aL t.name)) true) (.slice [[.str [58]],[.str t.field]] true)=some (.slice (strs (aL t.name++[[58],t.field])) true):=Ly ah;have hb:=mG (aL t.name++[[58],t.field]) (af x) [40] [41] H dq ah true true;have e:af t=aL t.name++[[58],t.field]++[[40]]++af x++[[41]]:=by
  rw[bJ,hk,gD];rfl
 rw[e,ai];generalize aL t.name++[[58],t.field]++[[40]]++af x++[[41]]=q2 at hb ⊢;generalize aL t.name++[[58],t.field]=q1 at a1 hb;refine cW xt.eq_1 ?_;rw[kt];exact vK5 hk dx hq a1 hb
def aox(hk:t.kind=11):aj A 81 [.agg (aM t)] H=some (.slice (strs (af t)) true,none):=by
 have hp:bY (.mk t.wn t.wk)=true:=by
  have h4:=hO.b4;unfold rH at h4;rw[decide_eq_true hk] at h4
  simpa using h4
 have hw:=IF 3 (.mk t.wn t.wk) H ah hF.w hp;rw[gX] at hw;have RG:=mM 3 (.mk t.wn t.wk) hF.w;have hl:=Kf (l:=t.kids) (by have:=hF.kl;omega) hK H
 have ru:(au (t.kids.map af)).length<=3*100001:=by
  have h1:=jt (t.kids.map af) 100000 (fun x hx=>by obtain⟨u,hu,rfl⟩:=List.mem_map.1 hx;exact (hK u hu).len)
  rw[List.length_map] at h1;exact avz h1 (avg _ hF.kl)
 have b1:=mG [cR] (bW (.mk t.wn t.wk)) [40] [41] H ag ah true true;have b2:=mG ([cR]++[[40]]++bW (.mk t.wn t.wk)++[[41]]) (au (t.kids.map af)) [91] [93] H dq ah true true;have e:af t=[cR]++[[40]]++bW (.mk t.wn t.wk)++[[41]]++[[91]]++au (t.kids.map af)++[[93]]:=by
  rw[bJ,hk]
  show [cR]++[[40]]++bW (.mk t.wn t.wk)++[[41]]++[[91]]++au ((t.kids.map fun t=>(af t,bE t)).map (·.1))++[[93]]=_
  rw[awh];rfl
 rw[e,ai];generalize [cR]++[[40]]++bW (.mk t.wn t.wk)++[[41]]++[[91]]++au (t.kids.map af)++[[93]]=q2 at b2 ⊢;generalize [cR]++[[40]]++bW (.mk t.wn t.wk)++[[41]]=q1 at b1 b2;rw[show strs [cR]=[[.str [76,105,115,116]]] from rfl] at b1
 refine cW xt.eq_1 ?_;exact vK5 hk hw hl b1 b2
end
end
section
def yX{p:List ay × Int} : (fT p k).length<=p.1.length+2:=by
 unfold fT;split
 ·simp
 ·omega
section
variable {t:Tm}{h:Nat}(hF:NC h t)(hO:Fb t)(hK:∀ u∈t.kids,uo u)(H:ae)
include hF hO hK
def tk4(hk:t.kind=4):aj A 81 [.agg (aM t)] H=some (.slice (strs (af t)) true,none):=by
 have _:=hF;have hs:=Iv t.n H
 by_cases s0:(cQ t.n).1=[]
 ·exact absurd rfl (gL hO (c1:=-2) (c2:=0) (by rw[hk];simp[bR,s0])).1
 by_cases s7:(cQ t.n).2=7
 ·have hc:=gL hO (c1:=1) (c2:=0) (by rw[hk];simp[bR,s0,s7])
  have hl:=hc.2.1 ah;obtain⟨x,gD⟩:=Bw (show t.kids.length=1 by omega)
  have hx:=hK x (by rw[gD];simp)
  have dx:=UO hx 7 H;have lx:=hx.len;have kl:=yX (p:=(af x,bE x)) (k:=7);simp only at kl;have kt:aC t.kids=[[.int .i64 x.kind,.int .i64 x.n,.str x.name,.str x.field,.str x.wn,.slice (aH x.wk) false,.slice (aC x.kids) false,.slice (strs x.names) false]]:=by
   rw[gD,aC,aC,ai]
  rw[ai] at dx;have e:af t=[(cQ t.n).1]++fT (af x,bE x) 7:=by rw[bJ,hk,gD];rfl
  rw[e,ai];generalize fT (af x,bE x) 7=kx at dx kl ⊢;generalize (cQ t.n).1=sg at hs ⊢;have a1:aG false 1 16 (.slice [[.str sg]] true) (.slice (strs kx) true)=some (.slice (strs ([sg]++kx)) true):=cw (l:=[sg]) dq;generalize [sg]++kx=q1 at a1 ⊢;refine cW xt.eq_1 ?_;rw[kt];exact vK5 hk hs s7 dx a1
 ·have hc:=gL hO (c1:=2) (c2:=0) (by rw[hk];simp[bR,s0,s7])
  have hl:=hc.2.1 ah;obtain⟨x,y,gD⟩:=xz (show t.kids.length=2 by omega)
  have hx:=hK x (by rw[gD];simp)
  have hy:=hK y (by rw[gD];simp)
  have lx:=hx.len;have ly:=hy.len;obtain⟨lv,uc⟩:∃ lv,lv=(cQ t.n).2:=⟨_,rfl⟩;have hlr:0<=lv/\lv<=7:=by
   rw[uc];unfold cQ;split
   ·exact⟨aI,aI⟩
   ·rename_i hn
    rcases Wf (x:=t.n) ah ah with e|e|e|e|e|e|e|e|e|e|e|e<;>rw[e]<;>exact⟨aI,aI⟩
  have dx:=fun l=>UO hx l H
  have dy:=UO hy (lv+1) H;have kt:aC t.kids=[[.int .i64 x.kind,.int .i64 x.n,.str x.name,.str x.field,.str x.wn,.slice (aH x.wk) false,.slice (aC x.kids) false,.slice (strs x.names) false],
    [.int .i64 y.kind,.int .i64 y.n,.str y.name,.str y.field,.str y.wn,.slice (aH y.wk) false,.slice (aC y.kids) false,.slice (strs y.names) false]]:=by
   rw[gD,aC,aC,aC,ai,ai]
  rw[ai] at dx dy;have e:af t=fT (af x,bE x) (if lv=3 then 4 else lv)++[(cQ t.n).1]++fT (af y,bE y) (lv+1):=by rw[bJ,hk,gD,uc];rfl
  rw[e,ai];rw[<- uc] at hs s7;have klx:=yX (p:=(af x,bE x)) (k:=if lv=3 then 4 else lv)
  have kly:=yX (p:=(af y,bE y)) (k:=lv+1);simp only at klx kly;have dx:=dx (if lv=3 then 4 else lv)
  generalize fT (af x,bE x) (if lv=3 then 4 else lv)=kx at dx klx ⊢
  generalize fT (af y,bE y) (lv+1)=ky at dy kly ⊢;generalize (cQ t.n).1=sg at hs ⊢;have a1:aG false 1 16 (.slice (strs kx) true) (.slice [[.str sg]] true)=some (.slice (strs (kx++[sg])) true):=ga ah;have a2:aG false 1 16 (.slice (strs (kx++[sg])) true) (.slice (strs ky) true)=some (.slice (strs (kx++[sg]++ky)) true):=cw dq;generalize kx++[sg]++ky=q2 at a2 ⊢;generalize kx++[sg]=q1 at a1 a2;refine cW xt.eq_1 ?_;rw[kt]
  by_cases l3:lv=3
  ·rw[if_pos l3] at dx
   rw[l3] at hs dy;rw[show (3:Int)+1=4 from rfl] at dy
   exact vK6 hk hs dx dy a1 a2
  ·rw[if_neg l3] at dx
   exact vK6 hk hs dx dy a1 a2
end
end
section
section
variable {t:Tm}{h:Nat}(hF:NC h t)(hO:Fb t)(hK:∀ u∈t.kids,uo u)(H:ae)
include hF hO hK
def tk7(hk:t.kind=7):aj A 81 [.agg (aM t)] H=some (.slice (strs (af t)) true,none):=by
 have hc:=gL hO (c1:=-1) (c2:=t.kids.length) (by rw[hk];rfl)
 have uQ:=hc.2.2;have Fu:=hF.kl;have hq:=vN t.name H (by have:=hF.a;omega)
 have hql:=lP t.name;obtain⟨ws,hws⟩:∃ ws,ws=List.zipWith (fun s (x:List ay × Int)=>[s,[61]]++x.1) t.names (t.kids.map fun t=>(af t,bE t)):=⟨_,rfl⟩
 have RG:ws.length=t.kids.length:=by rw[hws,axS,List.length_map];omega
 have gn:∀ (i:Nat) (s:ay) (u:Tm),t.names[i]?=some s->t.kids[i]?=some u->ws[i]?=some ([s,[61]]++af u):=by
  intro i s u h1 h2;rw[hws,axK,List.getElem?_map,h1,h2];rfl
 have IV:∀ x∈ws,x.length<=100002:=by
  intro x hx;obtain⟨i,hi⟩:=avu hx;have aZ:=(au7.1 hi).1;have h1:=au5 (l:=t.names) (i:=i) ah;have h2:=au5 (l:=t.kids) (i:=i) ah;have h3:=gn i _ _ h1 h2;rw[hi] at h3;injection h3 with h3
  rw[h3];have:=(hK _ (avx (l:=t.kids) (n:=i) ah)).len
  simp only[List.length_append,List.length_cons,List.length_nil];omega
 have WZ:∀ i,(au (ws.take i)).length<=3*100003:=fun i=>by
  have h1:=jt (ws.take i) 100002 (fun x hx=>IV x (awm hx))
  have h2:(ws.take i).length<=3:=by rw[avU];omega
  exact avz h1 (avg _ h2)
 have hb:=mG (aL t.name) (au ws) [123] [125] H ah (by have:=WZ ws.length;rw[avL] at this;omega) true true
 have e:af t=aL t.name++[[123]]++au ws++[[125]]:=by rw[bJ,hk,hws];rfl
 rw[e,ai];generalize aL t.name++[[123]]++au ws++[[125]]=out at hb ⊢;refine cW xt.eq_1 ?_;refine nK1 hk ?_;refine cg t.kids.length 1 (fun i s=>∃ T,s=⟨T,H,H.length,1⟩/\T 1=.lbox 0 [.int .i64 7,.int .i64 t.n,.str t.name,.str t.field,.str t.wn,.slice (aH t.wk) false,.slice (aC t.kids) false,.slice (strs t.names) false]/\T 8=.slice (strs (au (ws.take i))) true/\T 9=.int .i64 i)
  (fun s=>∃ T,s=⟨T,H,H.length,1⟩/\T 1=.lbox 0 [.int .i64 7,.int .i64 t.n,.str t.name,.str t.field,.str t.wn,.slice (aH t.wk) false,.slice (aC t.kids) false,.slice (strs t.names) false]/\T 8=.slice (strs (au ws)) true) (fun _=>False) ?_ ?_ (fun _ h=>h.elim) 0 _ (avB _) ?_
 ·rintro i st hi ⟨T,rfl,e1,e8,e9⟩
  by_cases aZ:i<t.kids.length
  ·obtain⟨u,hu⟩:∃ u,t.kids[i]?=some u:=⟨_,au5 aZ⟩
   obtain⟨s,hs⟩:∃ s,t.names[i]?=some s:=⟨_,au5 ah⟩;have hw:=gn i s u hs hu;have hm:=hK u (avb hu);have du:=hm.d H;have lu:=hm.len;have atk:=DU hu;have atn:=iD hs;rw[ai] at du atk;have nA:ws.take (i+1)=ws.take i++[[s,[61]]++af u]:=by rw[awv,hw];rfl
   have xq:=jg ([s,[61]]++af u) (ws.take i);rw[<- nA] at xq;have yD:=WZ i
   by_cases h0:i=0
   ·subst h0
    simp only[avY,awT] at xq e8;have a1:aG false 1 16 (.slice (strs (au [])) true) (.slice [[.str s],[.str [61]]] true)=some (.slice (strs [s,[61]]) true):=cw (l:=[]) (m:=[s,[61]]) ag;have a2:aG false 1 16 (.slice (strs [s,[61]]) true) (.slice (strs (af u)) true)=some (.slice (strs ([s,[61]]++af u)) true):=cw dq;generalize [s,[61]]++af u=q2 at a2 xq;generalize [s,[61]]=q1 at a1 a2;refine nK6 e1 e8 e9 @cO atk (j4 atn du a1 a2) ?_;exact⟨aZ,_,rfl,fj e1,by rw[xq];exact nO0 tv,iJ⟩
   ·have dk:¬ (ws.take i=[]):=fun e=>by
     have:=awt List.length e
     rw[avU,List.length_nil] at this;omega
    rw[if_neg dk,<- avj] at xq;generalize au (ws.take i)=acc at e8 yD xq;have a0:aG false 1 16 (.slice (strs acc) true) (.slice [[.str [44]]] true)=some (.slice (strs (acc++[[44]])) true):=ga ah;have a1:aG false 1 16 (.slice (strs (acc++[[44]])) true) (.slice [[.str s],[.str [61]]] true)=some (.slice (strs (acc++[[44]]++[s,[61]])) true):=cw (m:=[s,[61]]) dq;have a2:aG false 1 16 (.slice (strs (acc++[[44]]++[s,[61]])) true) (.slice (strs (af u)) true)=some (.slice (strs (acc++[[44]]++[s,[61]]++af u)) true):=cw dq;generalize acc++[[44]]++[s,[61]]++af u=q2 at a2 xq;generalize acc++[[44]]++[s,[61]]=q1 at a1 a2;generalize acc++[[44]]=q0 at a0 a1;refine nK6 e1 e8 e9 @cO atk (j5 atn du a0 a1 a2) ?_;exact⟨aZ,_,rfl,fj e1,by rw[xq];exact nO0 tv,iJ⟩
  ·rw[List.take_of_length_le ah] at e8
   refine nK3 e1 e9 @cO ?_;exact⟨_,rfl,fj e1,fj e8⟩
 ·rintro st ⟨T,rfl,e1,e8⟩
  exact vK4 e1 e8 hq hb
 ·exact⟨_,rfl,iJ,nO2 @au.eq_1 @strs.eq_1 tv,iJ⟩
end
end
end Go.Proofs.YtbadnagdfefbnaaGreatDoor
end
