/-
  A part of the proof of PrintLossless: U3, U4, U5, U6, U7, U9, U8, U10, U11, U12, U13, U14, U15, U16, U17, U18, U19, U20, U21, U22, U23.
-/
import Derived.Test.YtnhpoddlmjpapaaGreatDoorQ07
set_option linter.unusedSimpArgs false
set_option linter.unusedVariables false
set_option linter.defProp false
set_option maxHeartbeats 1000000
set_option maxRecDepth 100000
noncomputable section
namespace Go.Proofs.YtnhpoddlmjpapaaGreatDoor
open Go Go.Abs Go.Proofs
variable {o:Bool}{a b p p' p1 x:Int}{k:IntKind}{e:List (List AV)}{cs:List AV}{d i j m:Nat}{α:Type}
def dH(k:Int):aB->Nat
 | []=>0
 | c :: r=>if kindOf c=2\/kindOf c=1/\k=1 then 1+dH k r else 0
def tu(k:Int):∀ s:aB,dH k s<=s.length
 | []=>Nat.le_refl _
 | c :: r=>by
  have:=tu k r
  simp only[dH,List.length_cons];split<;>omega
def il:aB->Nat
 | []=>0
 | b :: r=>if 0<kindOf b then (if 16<1+dH (kindOf b) r then 0 else 1+dH (kindOf b) r)
  else if 1<=r.length/\mq ((b :: r).take 2)=true then 2 else if mq [b]=true then 1 else 0
theorem BU:∀ s:aB,il s<=s.length
 | []=>Nat.le_refl _
 | b :: r=>by
  have:=tu (kindOf b) r
  simp only[il,List.length_cons]
  grind
theorem H8(c:UInt8):kindOf c=0\/kindOf c=1\/kindOf c=2:=by
 unfold kindOf
 grind
theorem aaO(s:aB)(at' : Nat)(H:ae)(gb:at' < s.length)(hs:s.length<=4611686018427387904) :
  aj A 49 [.str s,.int .i64 at'] H=some (.int .i64 (if il (s.drop at')=0 then -1 else ((at' + il (s.drop at'):Nat):Int)),none):=by
 refine cB (fn:=aeo) rfl rfl rfl ?_;unfold aeo;have hd:=avf gb;generalize hb:s[at']=b at hd;have j7:s[at']?=some b:=by rw[auS gb,hb]
 simp(disch:=omega)only[jh,aa,simprocAttr,j7,xj];refine jt ?_ ?_<;>intro hk
 ·have X6:il (s.drop at')=if 16<1+dH (kindOf b) (s.drop (at' + 1)) then 0 else 1+dH (kindOf b) (s.drop (at' + 1)):=by
   rw[hd];simp only[il,if_pos hk]
  simp(disch:=omega)only[jh,aa,simprocAttr];refine cj s.length 0 (fun i=>Hd (fun T=>T 0=.str s/\T 1=.int .i64 at'/\T 5=.int .i64 (kindOf b)/\T 6=.int .i64 i/\at' + 1+dH (kindOf b) (s.drop (at' + 1))=i+dH (kindOf b) (s.drop i)) H H.length 0)
   (Hd (fun T=>T 1=.int .i64 at'/\T 6=.int .i64 ((at' + 1+dH (kindOf b) (s.drop (at' + 1)):Nat):Int)) H H.length 0) (fun _=>False) ?_ ?_ (fun _ h=>h.elim) (at' + 1) _ ah ?_
  ·rintro i st hi gZ
   obtain⟨T,rfl,h0,h1,h5,h6,hc⟩:=gZ.out
   by_cases h:(i:Int)<s.length
   ·have j8:i<s.length:=ah
    rw[avf j8] at hc;simp only[dH] at hc;have Bg:s[i]?=some s[i]:=auS j8;generalize s[i]=c at hc Bg
    by_cases k2:kindOf c=2
    ·rw[if_pos (.inl k2)] at hc
     simp(disch:=omega)only[jh,aa,simprocAttr,h0,h1,h5,h6,h,Bg,xj,k2];omega
    by_cases k1:kindOf c=1
    ·by_cases kb:kindOf b=1
     ·rw[if_pos (.inr ⟨k1,kb⟩)] at hc
      rw[kb] at h5 hc ⊢;simp(disch:=omega)only[jh,aa,simprocAttr,h0,h1,h5,h6,h,Bg,xj,k1,Int.reduceBEq];omega
     ·rw[if_neg (by simp[k1,kb])] at hc
      simp(disch:=omega)only[jh,aa,simprocAttr,h0,h1,h5,h6,h,Bg,xj,k1,Int.reduceBEq,show (kindOf b==1)=false by simpa using kb]
      omega
    ·have k0:kindOf c=0:=by rcases H8 c with h|h|h<;>simp_all
     rw[if_neg (by simp[k0])] at hc
     simp(disch:=omega)only[jh,aa,simprocAttr,h0,h1,h6,h,Bg,xj,k0,Int.reduceBEq];omega
   ·have:i=s.length:=ah
    subst this;rw[awr] at hc;simp only[dH] at hc;simp(disch:=omega)only[jh,aa,simprocAttr,h0,h1,h6,h];omega
  ·intro st gZ
   obtain⟨T,rfl,h1,h6⟩:=gZ.out;have hle:=tu (kindOf b) (s.drop (at' + 1));rw[avw] at hle;rw[X6];generalize dH (kindOf b) (s.drop (at' + 1))=w at h6 hle;simp(disch:=omega)only[jh,aa,simprocAttr,h1,h6];refine jt ?_ ?_<;>intro h16
   ·simp(disch:=omega)only[jh,aa,simprocAttr,if_pos (show 16<1+w by omega)]
   ·simp(disch:=omega)only[jh,aa,simprocAttr,if_neg (show ¬ 16<1+w by omega),h6,if_neg (show ¬ 1+w=0 by omega)]
    omega
  ·exact vE0
 ·have X6:il (s.drop at')=if 1<=(s.drop (at' + 1)).length/\mq ((b :: s.drop (at' + 1)).take 2)=true then 2 else if mq [b]=true then 1 else 0:=by
   rw[hd];simp only[il,if_neg hk]
  have e1:List.drop at' (List.take (at' + 1) s)=[b]:=by
   grind
  have e2:List.drop at' (List.take (at' + 2) s)=(b :: s.drop (at' + 1)).take 2:=by
   grind
  generalize (b :: s.drop (at' + 1)).take 2=two at e2 X6;have e3:(s.drop (at' + 1)).length=s.length-(at' + 1):=avw ..;rw[X6,e3]
  by_cases h2:(at' : Int)+1<s.length
  ·cases xe:mq two with
   | true =>
    simp(disch:=omega)only[jh,aa,simprocAttr,h2,e2,NJ,xe];rw[if_pos (show 1<=s.length-(at' + 1) by omega)]
    rw[if_neg ah];rfl
   | false =>
    cases qa:mq [b] <;>
    simp(disch:=omega)only[jh,aa,simprocAttr,h2,e2,e1,NJ,xe,qa,av4,and_false]<;>rfl
  ·have hn:¬ 1<=s.length-(at' + 1):=ah
   cases qa:mq [b] <;>
   simp(disch:=omega)only[jh,aa,simprocAttr,h2,e1,NJ,qa,hn,false_and,av4]<;>rfl
def MW(H:ae):aj A 79 [] H=some (.slice (strs fG) true,none):=by
 refine cB (fn:=aeu) rfl rfl rfl ?_;unfold aeu;simp only[Wm,Lm,Vx,xE,ab',Ll,GV];refine abZ (.slice (strs fG) true) Bl ?_;exact vE0
def isWord(s:aB):Bool:=match s with
 | []=>false
 | b :: _=>decide (kindOf b=1)&&!fG.contains s&&decide (il s=s.length)
theorem qx(s:aB)(H:ae)(hs:s.length<=4611686018427387904):aj A 39 [.str s] H=some (.bool (isWord s),none):=by
 refine cB (fn:=aej) rfl rfl rfl ?_;unfold aej;cases wj:s with
 | nil=>simp(disch:=omega)only[jh,aa,simprocAttr,isWord]
 | cons b r =>
 rw[<- wj];have hl:((s.length:Int)==0)=false:=by rw[wj];simp;omega
 have hb:s[0]?=some b:=by rw[wj];rfl
 by_cases hk:kindOf b=1
 ·simp(disch:=omega)only[jh,aa,simprocAttr,hl,hb,xj,hk,bne_self_eq_false,MW]
  have h27:fG.length=27:=rfl;refine cj 27 0 (fun i=>Hd (fun T=>T 0=.str s/\T 3=.slice (strs fG) true/\T 4=.int .i64 i/\fG.contains s=(fG.drop i).contains s) H H.length 0)
   (Hd (fun T=>T 0=.str s/\fG.contains s=false) H H.length 0) (Hd (fun T=>T 2=.bool false/\fG.contains s=true) H H.length 0) ?_ ?_ ?_ 0 _ ah ?_
  ·rintro i st hi gZ
   obtain⟨T,rfl,h0,h3,h4,hc⟩:=gZ.out;simp(disch:=omega)only[jh,aa,simprocAttr,h3,h4,bG,h27];refine jt ?_ ?_<;>intro h
   ·have j8:i<fG.length:=by rw[h27];omega
    simp(disch:=omega)only[jh,aa,simprocAttr,h0,h3,h4,iz (auS j8)];refine jG ?_ ?_<;>intro hb
    ·simp(disch:=omega)only[jh,aa,simprocAttr,hc,avf j8,awA,show (s==fG[i])=true by rw[avB] at hb ⊢;exact hb.symm]
    ·simp(disch:=omega)only[jh,aa,simprocAttr,h0,h3,h4]
     exact⟨ah,by rw[hc,avf j8,awA,show (s==fG[i])=false by rw[awX] at hb ⊢;exact hb.symm,avP]⟩
   ·have:i=27:=ah
    subst this;rw[show fG.drop 27=[] from rfl] at hc
    simp(disch:=omega)only[jh,aa,simprocAttr,h0,hc,List.contains_nil]
  ·intro st gZ
   obtain⟨T,rfl,h0,hc⟩:=gZ.out;have e1:=aaO s 0 H (by rw[wj];simp) hs
   rw[List.drop_zero] at e1;rw[Int.natCast_zero] at e1;simp(disch:=omega)only[jh,aa,simprocAttr,h0,e1];have hw:isWord s=decide (il s=s.length):=by rw[wj] at hc ⊢;simp only[isWord,hk,hc,axU,av5,avv]
   grind
  ·intro st gZ
   obtain⟨T,rfl,h2,hc⟩:=gZ.out;have hw:isWord s=false:=by rw[wj] at hc ⊢;simp only[isWord,hc,avW,Bool.and_false,avk]
   exact vE2 h2 hw
  ·exact vE0
 ·have hw:isWord s=false:=by rw[wj];simp only[isWord,hk,decide_false,avk]
  exact vE5 hl hb xj (show (kindOf b != 1)=true by simpa using hk) hw
def lr{n k:Int}(hk:0<k):0<=mi n k/\mi n k<k:=by
 unfold mi;have h0:(0:Int)<=(if n<0 then -(n+1) else n):=by split<;>omega
 rw[avH h0];exact⟨Int.emod_nonneg _ ah,Int.emod_lt_of_pos _ hk⟩
theorem FQ{l:List Int}{i k:Int}(hk:0<k):0<=atZ l i k/\atZ l i k<k:=by
 unfold atZ;split
 ·grind
 ·exact lr hk
inductive Wd where
 | mk (name:aB) (kids:List Wd)
variable {w:Wd}
inductive Tm where
 | mk (kind n:Int) (name field wn:aB) (wk:List Wd) (kids:List Tm) (names:List aB)
variable {l:List Tm}{P:Tm->Prop}
def Wd.name:Wd->aB|.mk n _=>n
def Wd.kids:Wd->List Wd|.mk _ k=>k
def Tm.kind:Tm->Int|.mk k _ _ _ _ _ _ _=>k
def Tm.n:Tm->Int|.mk _ n _ _ _ _ _ _=>n
def Tm.name:Tm->aB|.mk _ _ a _ _ _ _ _=>a
def Tm.field:Tm->aB|.mk _ _ _ f _ _ _ _=>f
def Tm.wn:Tm->aB|.mk _ _ _ _ w _ _ _=>w
def Tm.wk:Tm->List Wd|.mk _ _ _ _ _ w _ _=>w
def Tm.kids:Tm->List Tm|.mk _ _ _ _ _ _ k _=>k
def Tm.names:Tm->List aB|.mk _ _ _ _ _ _ _ n=>n
mutual
def gR:Wd->List AV
 | .mk n ks=>[.str n,.slice (aG ks) false]
def aG:List Wd->List (List AV)
 | []=>[]
 | w :: r=>gR w :: aG r
end
mutual
def aK:Tm->List AV
 | .mk k n a f wn wk ks ns=>[.int .i64 k,.int .i64 n,.str a,.str f,.str wn,.slice (aG wk) false,.slice (aC ks) false,.slice (strs ns) false]
def aC:List Tm->List (List AV)
 | []=>[]
 | t :: r=>aK t :: aC r
end
def iu(w:Wd):gR w=[.str w.name,.slice (aG w.kids) false]:=by cases w;simp only[gR,Wd.name,Wd.kids]
theorem ai(t:Tm):aK t=[.int .i64 t.kind,.int .i64 t.n,.str t.name,.str t.field,.str t.wn,.slice (aG t.wk) false,.slice (aC t.kids) false,.slice (strs t.names) false]:=by
 cases t;simp only[aK,Tm.kind,Tm.n,Tm.name,Tm.field,Tm.wn,Tm.wk,Tm.kids,Tm.names]
def vf:∀ l:List Wd,aG l=l.map gR
 | []=>by simp[aG]
 | t :: r=>by simp[aG,vf r]
theorem j6:∀ l:List Tm,aC l=l.map aK
 | []=>by simp[aC]
 | t :: r=>by simp[aC,j6 r]
def ig{l:List Wd} : (aG l).length=l.length:=by rw[vf];simp
theorem cR : (aC l).length=l.length:=by rw[j6];simp
def ab9{l:List Wd}{e:Wd}(h:l[i]?=some e):(aG l)[i]?=some (gR e):=by rw[vf];simp[h]
def DT{e:Tm}(h:l[i]?=some e):(aC l)[i]?=some (aK e):=by rw[j6];simp[h]
def Fe:Nat->Wd->Prop
 | 0,w=>w.name.length<=1100000/\w.kids=[]
 | h+1,w=>w.name.length<=1100000/\w.kids.length<=1/\∀ k∈w.kids,Fe h k
inductive RV:Nat->Tm->Prop where
 | mk (h:Nat) (k n:Int) (a f wn:aB) (wk:List Wd) (ks:List Tm) (ns:List aB) (h1:-2199023255552<=n/\n<=2199023255552) (hk:-100<=k/\k<=100) (h2:a.length<=1100000/\f.length<=1100000)
   (h3:Fe 3 (.mk wn wk)) (h4:ks.length<=3) (h5:∀ t∈ks,RV h t) (h6:ns.length<=8/\∀ s∈ns,s.length<=1100000):RV (h+1) (.mk k n a f wn wk ks ns)
inductive At (m:Nat):Nat->Tm->Prop where
 | mk (h:Nat) (k n:Int) (a f wn:aB) (wk:List Wd) (ks:List Tm) (ns:List aB) (h1:-2199023255552<=n/\n<=2199023255552) (hk:-100<=k/\k<=100) (h2:a.length<=1100000/\f.length<=1100000)
   (h3:Fe 3 (.mk wn wk)) (h4:ks.length<=3) (h5:∀ t∈ks,At m h t) (h6:ns.length<=m/\∀ s∈ns,s.length<=1100000):At m (h+1) (.mk k n a f wn wk ks ns)
def At.le(hm:m<=8):∀ (h h' : Nat) (t:Tm),h<=h'->At m h t->RV h' t
 | 0,_,t,_,hb=>by cases hb
 | h+1,0,t,hh,_=>ah
 | h+1,h' + 1,t,hh,hb=>by
  cases hb with
  | mk h k n a f wn wk ks ns h1 hk h2 h3 h4 h5 h6=>exact .mk h' k n a f wn wk ks ns h1 hk h2 h3 h4 (fun u hu=>At.le hm h h' u ah (h5 u hu)) ⟨ah,h6.2⟩
def At.up{m':Nat}(hm:m<=m'):∀ (h h' : Nat) (t:Tm),h<=h'->At m h t->At m' h' t
 | 0,_,t,_,hb=>by cases hb
 | h+1,0,t,hh,_=>ah
 | h+1,h' + 1,t,hh,hb=>by
  cases hb with
  | mk h k n a f wn wk ks ns h1 hk h2 h3 h4 h5 h6=>exact .mk h' k n a f wn wk ks ns h1 hk h2 h3 h4 (fun u hu=>At.up hm h h' u ah (h5 u hu)) ⟨ah,h6.2⟩
def bO{f:FuncId}{fn:ax}(ho:A.ov f=none)(hf:A.fns f=some fn){args:List AV}{H:ae}{r:AV × Option fR}(hn:Nat.beq args.length fn.np=true)(hm:fn.muts.elem 777777=true)
  (h:W A fn.body { T:=fm args,H,lo:=H.length,gen:=0 } (AD H.length fn.results fun x=>(ng x.1,x.2)=r)):aj A f args H=some r:=by
 obtain⟨r',h1,h2⟩:=nz (P:=fun x=>x=r) ho hf hn hm h
 rw[h1,h2]
def cH : ng (.agg cs)=.agg (cs.map n2):=rfl
def ae' : ng (.tuple cs)=.tuple (cs.map n3):=rfl
def ae7{n:Int} : ng (.int k n)=.int k n:=rfl
def Nk{l:aB} : ng (.str l)=.str l:=rfl
def ae8 : ng (.slice e false)=.slice (e.map fun r=>r.map n1) false:=rfl
def ae9 : ng (.slice e true)=.slice e true:=rfl
def aeX : n3 (.agg cs)=.agg (cs.map n2):=rfl
def aeY{n:Int} : n3 (.int k n)=.int k n:=rfl
def dJ{n:Int} : n2 (.int k n)=.int k n:=rfl
def cG{l:aB} : n2 (.str l)=.str l:=rfl
def cV:n2 .aq=.slice [] false:=rfl
def fp : n2 (.slice e false)=.slice (e.map fun r=>r.map n1) false:=rfl
def kW{n:Int} : n1 (.int k n)=.int k n:=rfl
def jP{l:aB} : n1 (.str l)=.str l:=rfl
def mZ : n1 (.slice e o)=.slice e o:=rfl
def aoM : (gR w).map n1=gR w:=by rw[iu];rfl
def aoL{t:Tm} : (aK t).map n1=aK t:=by rw[ai];rfl
def YX{l:List Wd} : ((aG l).map fun r=>r.map n1)=aG l:=by
 rw[vf,avT];exact List.map_congr_left fun w _=>aoM
def KD : ((aC l).map fun r=>r.map n1)=aC l:=by
 rw[j6,avT];exact List.map_congr_left fun w _=>aoL
def Dk{l:List aB} : ((strs l).map fun r=>r.map n1)=strs l:=by
 rw[strs,avT];exact List.map_congr_left fun w _=>rfl
structure Cc where
 mm:Nat
 l:List Int
def Xi(c:Cc)(p:Int):List AV:=[.slice (ints c.l) false,.int .i64 p]
def df(c:Cc)(p:Int)(H:ae):ae:=H.set c.mm (.box 53 (Xi c p))
structure CH (c:Cc) (p:Int) (H:ae):Prop where
 h0:H[c.mm]?=some (.box 53 (Xi c p))
 hl:∀ n∈c.l,BZ n
 len:H.length=c.mm+1
def CH.lt{c:Cc}{H:ae}(h:CH c p H):c.mm<H.length:=(auU.1 h.h0).1
def CH.set{c:Cc}{H:ae}(h:CH c p H):CH c p' (df c p' H):=⟨by unfold df;rw[List.getElem?_set_self h.lt],h.hl,by unfold df;rw[List.length_set];exact h.len⟩
theorem bp{c:Cc}{H:ae} : df c p (df c p' H)=df c p H:=by unfold df;rw[List.set_set]
def VX{c:Cc}{H:ae} : (df c p H).length=H.length:=by unfold df;rw[List.length_set]
def bB{c:Cc}{H:ae} : (df c p H).take H.length=df c p H:=avq (awc VX)
def G3{H:ae}{o:bM} : (H.set i o).take H.length=H.set i o:=avq (awc List.length_set)
theorem CH.open{c:Cc}{H:ae}(h:CH c p H)(cs:List AV):l7 H.length c.mm (H.set c.mm (.box 53 cs))=true:=by
 have h1:((H.set c.mm (.box 53 cs)).take H.length).drop c.mm=[.box 53 cs]:=by
  rw[G3];refine awi fun j=>?_
  rw[avY,avO];cases j with
  | zero=>simp[h.lt]
  | succ j =>
   rw[if_neg ah,List.getElem?_eq_none (by have:=h.len;omega)]
   simp
 unfold l7
 grind
def CH.jm{c:Cc}{H:ae}(h:CH c p H):l7 H.length c.mm (df c p' H)=true:=h.open _
def mJ{c:Cc}{H:ae}(h:CH c p H)(n:Int)(hn:0<n):∃ x p',0<=x/\x<n/\aj A 15 [.ref c.mm 0,.int .i64 n] H=some (.int .i64 x,some ⟨df c p' H,c.mm⟩):=by
 refine⟨atZ c.l (IntKind.i64.wrap (IntKind.i64.wrap (p+1)-1)) n,IntKind.i64.wrap (p+1),(FQ hn).1,(FQ hn).2,?_⟩;refine bO (fn:=ad9) rfl rfl rfl rfl ?_;unfold ad9;have h0:=h.h0;have aZ:=h.lt;have gb:=fun i H=>amc c.l i n H h.hl hn
 have fa:=h.open;have gZ:∀ x:bM,(H.set c.mm x)[c.mm]?=some x:=fun x=>List.getElem?_set_self aZ
 rw[Xi] at h0;simp(disch:=omega)only[dr,aa,simprocAttr,h0,gZ,fa,au,G3,gb,df,Xi,ae7]
def Nf:List aB:=[[97],[98],[102],[80,111,105,110,116],[83,104,97,112,101],[120,49],[99,111,114,101],[117]]
def lt8(h0:0<=x)(h1:x<8):x=0\/x=1\/x=2\/x=3\/x=4\/x=5\/x=6\/x=7:=ah
def oq{c:Cc}{H:ae}(h:CH c p H):∃ s p',s∈Nf/\aj A 14 [.ref c.mm 0] H=some (.str s,some ⟨df c p' H,c.mm⟩):=by
 obtain⟨x,p',h0,h1,fh⟩:=mJ h 8 ah;have aZ:=h.lt;have fa:=h.jm (p':=p');refine⟨(Nf[x.toNat]?).getD [],p',?_,?_⟩
 ·rcases lt8 h0 h1 with rfl|rfl|rfl|rfl|rfl|rfl|rfl|rfl<;>decide
 ·refine bO (fn:=ad8) rfl rfl rfl rfl ?_
  unfold ad8
  rcases lt8 h0 h1 with rfl|rfl|rfl|rfl|rfl|rfl|rfl|rfl
  all_goals
   simp(disch:=omega)only[dr,aa,simprocAttr,fh,fa,bB,Nk];rfl
theorem iU:∀ s∈Nf,s.length<=5:=a8
def xq{c:Cc}{H:ae}(h:CH c p H):∃ s p',s.length<=1100000/\aj A 46 [.ref c.mm 0] H=some (.str s,some ⟨df c p' H,c.mm⟩):=by
 obtain⟨x,p1,h0,h1,fh⟩:=mJ h 4 ah;obtain⟨s,p2,hs,rf⟩:=oq (h.set (p':=p1));rw[bp] at rf;have ri:=iU s hs;have fa:=h.jm (p':=p2);have aZ:=h.lt
 by_cases hx:x=1
 ·subst hx
  refine⟨[107,46]++s,p2,dw,bO (fn:=Uv) rfl rfl rfl rfl ?_⟩;unfold Uv;simp(disch:=omega)only[dr,aa,simprocAttr,fh,rf,fa,bB,Nk]
 ·refine⟨s,p2,ah,bO (fn:=Uv) rfl rfl rfl rfl ?_⟩
  unfold Uv;simp(disch:=omega)only[dr,aa,simprocAttr,fh,rf,fa,bB,Nk]
def tj{s:aB}(h:s.length<=1100000):Fe d (.mk s []):=by
 cases d with
 | zero=>exact⟨h,rfl⟩
 | succ d=>exact⟨h,by simp[Wd.kids],by simp[Wd.kids]⟩
def aai(h:Fe d w):Fe (d+1) (.mk [76,105,115,116] [w]):=⟨by simp[Wd.name],by simp[Wd.kids],by simp[Wd.kids];exact h⟩
def Ko{c:Cc} : ∀ (d:Nat) (p:Int) (H:ae),d<=100->CH c p H->∃ w p',Fe d w/\aj A 18 [.ref c.mm 0,.int .i64 d] H=some (.agg (gR w),some ⟨df c p' H,c.mm⟩):=by
 intro d
 induction d with
 | zero =>
  intro p H hd h;obtain⟨x,p1,h0,h1,fh⟩:=mJ h 5 ah;obtain⟨s,p2,hs,uD⟩:=xq (h.set (p':=p1));rw[bp] at uD;have fa:=h.jm (p':=p1);have adN:=h.jm (p':=p2);have aZ:=h.lt
  by_cases nN:x=1
  ·refine⟨.mk [66,111,111,108] [],p1,tj a8,bO (fn:=xf) rfl rfl rfl rfl ?_⟩
   unfold xf;simp(disch:=omega)only[dr,aa,simprocAttr,fh,fa,au,bB,cH,cG,cV,gR,aG]
  by_cases D9:x=2
  ·refine⟨.mk s [],p2,tj hs,bO (fn:=xf) rfl rfl rfl rfl ?_⟩
   unfold xf;simp(disch:=omega)only[dr,aa,simprocAttr,fh,uD,adN,au,bB,cH,cG,cV,gR,aG]
  by_cases hx3:x=3
  all_goals
   refine⟨.mk [73,110,116] [],p1,tj a8,bO (fn:=xf) rfl rfl rfl rfl ?_⟩;unfold xf;simp(disch:=omega)only[dr,aa,simprocAttr,fh,fa,au,bB,cH,cG,cV,gR,aG]
 | succ d ih =>
  intro p H hd h;obtain⟨x,p1,h0,h1,fh⟩:=mJ h 5 ah;obtain⟨s,p2,hs,uD⟩:=xq (h.set (p':=p1));rw[bp] at uD;obtain⟨w,p3,hw,aa5⟩:=ih p1 (df c p1 H) ah h.set;rw[bp,iu] at aa5;have fa:=h.jm (p':=p1);have adN:=h.jm (p':=p2);have anN:=h.jm (p':=p3);have aZ:=h.lt;have zP:(d:Int)+1-1=d:=ah
  by_cases nN:x=1
  ·refine⟨.mk [66,111,111,108] [],p1,tj a8,bO (fn:=xf) rfl rfl rfl rfl ?_⟩
   unfold xf;simp(disch:=omega)only[dr,aa,simprocAttr,fh,fa,au,bB,cH,cG,cV,gR,aG]
  by_cases D9:x=2
  ·refine⟨.mk s [],p2,tj hs,bO (fn:=xf) rfl rfl rfl rfl ?_⟩
   unfold xf;simp(disch:=omega)only[dr,aa,simprocAttr,fh,uD,adN,au,bB,cH,cG,cV,gR,aG]
  by_cases hx3:x=3
  ·refine⟨.mk [76,105,115,116] [w],p3,aai hw,bO (fn:=xf) rfl rfl rfl rfl ?_⟩
   unfold xf;simp(disch:=omega)only[dr,aa,simprocAttr,fh,zP,aa5,anN,au,bB,cH,cG,fp,jP,mZ,gR,aG,iu]
  ·refine⟨.mk [73,110,116] [],p1,tj a8,bO (fn:=xf) rfl rfl rfl rfl ?_⟩
   unfold xf;simp(disch:=omega)only[dr,aa,simprocAttr,fh,fa,au,bB,cH,cG,cV,gR,aG]
def ja{t:Tm} : (aK t).length=8:=by rw[ai];rfl
theorem ao2{t:Tm} : RN (aK t)=true:=by
 grind [ai,Vz,Vy,abR,abT,abS]
theorem af5 : vS 8 (aC l):=by
 rw[j6];exact⟨fun r hr=>by simp only[List.mem_map] at hr;obtain⟨n,_,rfl⟩:=hr;exact ja,z8 fun r hr=>by simp only[List.mem_map] at hr;obtain⟨n,_,rfl⟩:=hr;exact ao2⟩
theorem Se{m:List Tm}(h:l.length+m.length<=100000000):aF false 8 136 (.slice (aC l) true) (.slice (aC m) o)=some (.slice (aC (l++m)) true):=by
 grind [wM,af5,cR,j6]
def aaz{t:Tm}(h:l.length<=10000000):aF false 8 136 (.slice (aC l) true) (.slice [[.int .i64 t.kind,.int .i64 t.n,.str t.name,.str t.field,.str t.wn,.slice (aG t.wk) false,.slice (aC t.kids) false,.slice (strs t.names) false]] o)=some (.slice (aC (l++[t])) true):=by
 have:=Se (l:=l) (m:=[t]) (o:=o) dw
 rw[show aC [t]=[aK t] by simp[aC],ai] at this
 exact this
def ts0:aC []=[]:=by simp[aC]
def B3(c:Cc)(d:Nat):Prop:=∀ (p:Int) (H:ae),CH c p H->∃ t p',At 4 (d+1) t/\aj A 19 [.ref c.mm 0,.int .i64 d] H=some (.agg (aK t),some ⟨df c p' H,c.mm⟩)
theorem ID{c:Cc}(hS:B3 c d)(jy:Int)(h0:0<=jy/\jy<=1000)(p:Int)(H:ae)(h:CH c p H) :
  ∃ l p',(l.length:Int)<=jy/\(∀ t∈l,At 4 (d+1) t)/\aj A 47 [.ref c.mm 0,.int .i64 d,.int .i64 jy] H=some (.slice (aC l) false,some ⟨df c p' H,c.mm⟩):=by
 have key:∃ r,aj A 47 [.ref c.mm 0,.int .i64 d,.int .i64 jy] H=some r/\∃ l p',(l.length:Int)<=jy/\(∀ t∈l,At 4 (d+1) t)/\r=(.slice (aC l) false,some ⟨df c p' H,c.mm⟩):=by
  obtain⟨x,p1,D8,nN,fh⟩:=mJ h (jy+1) ah;have aZ:=h.lt;refine nz (fn:=aen) rfl rfl rfl rfl ?_;unfold aen;simp(disch:=omega)only[dr,aa,simprocAttr,fh];refine cj x.toNat 0 (fun i s=>∃ T p1 acc,s=⟨T,df c p1 H,c.mm,0⟩/\T 0=.ref c.mm 0/\T 1=.int .i64 d/\T 7=.slice (aC acc) true/\T 8=.int .i64 x/\T 9=.int .i64 i/\acc.length=i/\∀ t∈acc,At 4 (d+1) t)
   (fun s=>∃ T p1 acc,s=⟨T,df c p1 H,c.mm,0⟩/\T 7=.slice (aC acc) true/\(acc.length:Int)<=jy/\∀ t∈acc,At 4 (d+1) t) (fun _=>False) ?_ ?_ (fun _ h=>h.elim) 0 _ ah ?_
  ·rintro i s hi ⟨T,p1,acc,rfl,e0,e1,e7,e8,e9,hl,hb⟩
   by_cases hc:(i:Int)<x
   ·obtain⟨t,p2,ht,kB⟩:=hS p1 (df c p1 H) h.set
    rw[bp,ai] at kB;simp(disch:=omega)only[aO,aa,simprocAttr,e0,e1,e7,e8,e9,kB,aaz];exact⟨ah,_,p2,acc++[t],rfl,fY e0,fY e1,jd,fY e8,jd,by simp[hl],fun u hu=>by
     rcases auY.1 hu with hu|hu
     ·exact hb u hu
     ·rw[ava.1 hu];exact ht⟩
   ·simp(disch:=omega)only[aO,aa,simprocAttr,e8,e9]
    exact⟨_,p1,acc,rfl,e7,ah,hb⟩
  ·rintro s ⟨T,p1,acc,rfl,e7,hl,hb⟩
   have fa:=h.jm (p':=p1);simp(disch:=omega)only[dr,aa,simprocAttr,e7,fa,bB,ae8,KD]
   grind
  ·exact⟨_,p1,[],rfl,by simp(disch:=omega)only[dr,aa,simprocAttr,ts0];simp⟩
 grind
def lK{h:Nat} : Fe h (.mk [] []):=tj a8
def zb(h:0<=a):a.tdiv b=a / b:=awV h
def jU(h:0<=a):a.tmod b=a % b:=avH h
def jT{h:Nat}{k n:Int}{a:aB}(h1:-2199023255552<=n/\n<=2199023255552)(hk:0<=k/\k<=100)(h2:a.length<=1100000):At 4 (h+1) (.mk k n a [] [] [] [] []) :=
 .mk h k n a [] [] [] [] [] h1 ah ⟨h2,a8⟩ lK a8 ag ⟨a8,ag⟩
def lt4(h0:0<=x)(h1:x<4):x=0\/x=1\/x=2\/x=3:=ah
def lt2(h0:0<=x)(h1:x<2):x=0\/x=1:=ah
def akR{c:Cc} : B3 c 0:=by
 intro p H h;obtain⟨x,p1,D8,nN,fh⟩:=mJ h 24 ah;have hm:0<=x % 5/\x % 5<5:=ah;have aZ:=h.lt
 by_cases c0:x % 5=0
 ·obtain⟨y,p2,y0,y1,gT⟩:=mJ (h.set (p':=p1)) 30 ah
  rw[bp] at gT;have fa:=h.jm (p':=p2);refine⟨.mk 0 (y-9) [] [] [] [] [] [],p2,jT ah ah a8,bO (fn:=fA) rfl rfl rfl rfl ?_⟩;unfold fA;simp(disch:=omega)only[aO,aa,simprocAttr,fh,gT,fa,c0,jU,au,bB,cH,dJ,cG,cV,ai,aC,aG,strs,Tm.kind,Tm.n,Tm.name,Tm.field,Tm.wn,Tm.wk,Tm.kids,Tm.names]
 by_cases c1:x % 5=1
 ·obtain⟨y,p2,y0,y1,gT⟩:=mJ (h.set (p':=p1)) 4 ah
  rw[bp] at gT;have fa:=h.jm (p':=p2)
  rcases lt4 y0 y1 with rfl|rfl|rfl|rfl
  ·refine⟨.mk 0 0 [] [] [] [] [] [],p2,jT ah ah a8,bO (fn:=fA) rfl rfl rfl rfl ?_⟩
   unfold fA;simp(disch:=omega)only[aO,aa,simprocAttr,fh,gT,fa,c1,jU,au,bB,cH,dJ,cG,cV,ai,aC,aG,strs,Tm.kind,Tm.n,Tm.name,Tm.field,Tm.wn,Tm.wk,Tm.kids,Tm.names]
  ·refine⟨.mk 0 1099511627776 [] [] [] [] [] [],p2,jT ah ah a8,bO (fn:=fA) rfl rfl rfl rfl ?_⟩
   unfold fA;simp(disch:=omega)only[aO,aa,simprocAttr,fh,gT,fa,c1,jU,au,bB,cH,dJ,cG,cV,ai,aC,aG,strs,Tm.kind,Tm.n,Tm.name,Tm.field,Tm.wn,Tm.wk,Tm.kids,Tm.names]
  ·refine⟨.mk 0 (-1099511627776) [] [] [] [] [] [],p2,jT ah ah a8,bO (fn:=fA) rfl rfl rfl rfl ?_⟩
   unfold fA;simp(disch:=omega)only[aO,aa,simprocAttr,fh,gT,fa,c1,jU,au,bB,cH,dJ,cG,cV,ai,aC,aG,strs,Tm.kind,Tm.n,Tm.name,Tm.field,Tm.wn,Tm.wk,Tm.kids,Tm.names]
  ·refine⟨.mk 0 10 [] [] [] [] [] [],p2,jT ah ah a8,bO (fn:=fA) rfl rfl rfl rfl ?_⟩
   unfold fA;simp(disch:=omega)only[aO,aa,simprocAttr,fh,gT,fa,c1,jU,au,bB,cH,dJ,cG,cV,ai,aC,aG,strs,Tm.kind,Tm.n,Tm.name,Tm.field,Tm.wn,Tm.wk,Tm.kids,Tm.names]
 by_cases c2:x % 5=2
 ·obtain⟨y,p2,y0,y1,gT⟩:=mJ (h.set (p':=p1)) 2 ah
  rw[bp] at gT;have fa:=h.jm (p':=p2);refine⟨.mk 1 y [] [] [] [] [] [],p2,jT ah ah a8,bO (fn:=fA) rfl rfl rfl rfl ?_⟩;unfold fA;simp(disch:=omega)only[aO,aa,simprocAttr,fh,gT,fa,c2,jU,au,bB,cH,dJ,cG,cV,ai,aC,aG,strs,Tm.kind,Tm.n,Tm.name,Tm.field,Tm.wn,Tm.wk,Tm.kids,Tm.names]
 obtain⟨s,p2,sh,gT⟩:=oq (h.set (p':=p1));have sl:=iU _ sh;rw[bp] at gT;have fa:=h.jm (p':=p2);refine⟨.mk 2 0 s [] [] [] [] [],p2,jT ah ah ah,bO (fn:=fA) rfl rfl rfl rfl ?_⟩;unfold fA;simp(disch:=omega)only[aO,aa,simprocAttr,fh,gT,fa,jU,au,bB,cH,dJ,cG,cV,ai,aC,aG,strs,Tm.kind,Tm.n,Tm.name,Tm.field,Tm.wn,Tm.wk,Tm.kids,Tm.names]
def YM{a:Tm}(h:P a):∀ t∈[a],P t:=fun t ht=>by rw[ava.1 ht];exact h
theorem Bn{a b:Tm}(h:P a)(h2:P b):∀ t∈[a,b],P t:=fun t ht=>by
 grind
theorem ajM{a b d:Tm}(h:P a)(h2:P b)(h3:P d):∀ t∈[a,b,d],P t:=fun t ht=>by
 grind
def n7:(0:Nat)<=4/\∀ s∈([]:List aB),s.length<=1100000:=⟨a8,ag⟩
def lY{h:Nat}{k n:Int}{a f wn:aB}{wk:List Wd}{ks:List Tm}{ns:List aB}(h5:∀ t∈ks,At 4 h t)(h4:ks.length<=3)(h1:-2199023255552<=n/\n<=2199023255552)(hk:0<=k/\k<=100)(h2:a.length<=1100000/\f.length<=1100000)
  (h3:Fe 3 (.mk wn wk)) (h6:ns.length<=4/\∀ s∈ns,s.length<=1100000):At 4 (h+1) (.mk k n a f wn wk ks ns):=.mk h k n a f wn wk ks ns h1 ah h2 h3 h4 h5 h6
def Wi{d':Nat} : ∀ {w:Wd},d<=d'->Fe d w->Fe d' w:=by
 induction d generalizing d' with
 | zero =>
  intro w _ h;cases d' with
  | zero=>exact h
  | succ d'=>exact⟨h.1,by rw[h.2];simp,by rw[h.2];simp⟩
 | succ d ih =>
  intro w hd h;cases d' with
  | zero=>omega
  | succ d'=>exact⟨h.1,h.2.1,fun k hk=>ih ah (h.2.2 k hk)⟩
def akS{c:Cc}(ih:B3 c d){H:ae}(h:CH c p H)(fh:aj A 15 [.ref c.mm 0,.int .i64 24] H=some (.int .i64 9,some ⟨df c p1 H,c.mm⟩))(hd:d<=100) :
  ∃ t p',At 4 (d+1+1) t/\aj A 19 [.ref c.mm 0,.int .i64 ((d+1:Nat):Int)] H=some (.agg (aK t),some ⟨df c p' H,c.mm⟩):=by
 have key:∃ r,aj A 19 [.ref c.mm 0,.int .i64 ((d+1:Nat):Int)] H=some r/\∃ t p',At 4 (d+1+1) t/\r=(.agg (aK t),some ⟨df c p' H,c.mm⟩):=by
  have aZ:=h.lt;have zP:(d:Int)+1-1=d:=ah;obtain⟨l,p2,ln,lh,gT⟩:=ID ih 2 ah p1 (df c p1 H) h.set;rw[bp] at gT;refine nz (fn:=fA) rfl rfl rfl rfl ?_;unfold fA;simp(disch:=omega)only[aO,aa,simprocAttr,fh,gT,zP];refine cj l.length 1 (fun i s=>∃ T p3 acc,s=⟨T,df c p3 H,c.mm,1⟩/\T 0=.ref c.mm 0/\T 4=.lbox 0 [.int .i64 0,.int .i64 0,.str [],.str [],.str [],.aq,.aq,.aq]/\T 6=.slice (aC l) false/\T 7=.slice (strs acc) true/\T 8=.int .i64 i/\acc.length=i/\∀ s∈acc,s.length<=1100000)
   (fun s=>∃ T p3 acc,s=⟨T,df c p3 H,c.mm,1⟩/\T 0=.ref c.mm 0/\T 4=.lbox 0 [.int .i64 0,.int .i64 0,.str [],.str [],.str [],.aq,.aq,.aq]/\T 6=.slice (aC l) false/\T 7=.slice (strs acc) true/\acc.length<=l.length/\∀ s∈acc,s.length<=1100000) (fun _=>False) ?_ ?_ (fun _ h=>h.elim) 0 _ ah ?_
  ·rintro i s hi ⟨T,p3,acc,rfl,e0,e4,e6,e7,e8,hl,hb⟩
   by_cases hc:i<l.length
   ·obtain⟨s,p4,hs,rf⟩:=oq (h.set (p':=p3))
    rw[bp] at rf;have ri:=iU s hs;have CJ:aF false 1 16 (.slice (strs acc) true) (.slice [[.str s]] true)=some (.slice (strs (acc++[s])) true):=gu ah;simp(disch:=omega)only[aO,aa,simprocAttr,e0,e6,e7,e8,cR,rf,CJ];refine⟨ah,_,p4,acc++[s],rfl,fY e0,fY e4,fY e6,jd,jd,by simp[hl],fun u hu=>?_⟩
    rcases auY.1 hu with hu|hu
    ·exact hb u hu
    ·rw[ava.1 hu];omega
   ·simp(disch:=omega)only[aO,aa,simprocAttr,e6,e8,cR]
    exact⟨_,p3,acc,rfl,e0,e4,e6,e7,ah,hb⟩
  ·rintro s ⟨T,p3,acc,rfl,e0,e4,e6,e7,hl,hb⟩
   obtain⟨s,p4,hs,uD⟩:=xq (h.set (p':=p3));rw[bp] at uD;have fa:=h.jm (p':=p4);simp(disch:=omega)only[aO,aa,simprocAttr,e0,e4,e6,e7,uD,fa,au,bB,cH,dJ,cG,cV,fp,KD,Dk];exact⟨.mk 7 0 s [] [] [] l acc,p4,lY lh ah ah ah ⟨hs,a8⟩ lK ⟨ah,hb⟩,by simp only[aK,aG];exact⟨trivial,trivial⟩⟩
  ·exact⟨_,p2,[],rfl,by simp(disch:=omega)only[dr,aa,simprocAttr,strs];simp⟩
 obtain⟨r,h1,t,p',h2,rfl⟩:=key;exact⟨t,p',h2,h1⟩
def acp{t u:Tm}(h:l.length<=1000):aF false 8 136 (.slice [[.int .i64 t.kind,.int .i64 t.n,.str t.name,.str t.field,.str t.wn,.slice (aG t.wk) false,.slice (aC t.kids) false,.slice (strs t.names) false],[.int .i64 u.kind,.int .i64 u.n,.str u.name,.str u.field,.str u.wn,.slice (aG u.wk) false,.slice (aC u.kids) false,.slice (strs u.names) false]] true) (.slice (aC l) o)=some (.slice (aC ([t,u]++l)) true):=by
 have:=Se (l:=[t,u]) (m:=l) (o:=o) dw
 rw[show aC [t,u]=[aK t,aK u] by simp[aC],ai t,ai u] at this
 exact this
def LR{l:List aB}{a b:aB}(h:l.length<=1000):aF false 1 16 (.slice (strs l) true) (.slice [[.str a],[.str b]] o)=some (.slice (strs (l++[a,b])) true):=cx (m:=[a,b]) dw
def af8{c:Cc}(ih:B3 c d){H:ae}(h:CH c p H)(fh:aj A 15 [.ref c.mm 0,.int .i64 24] H=some (.int .i64 12,some ⟨df c p1 H,c.mm⟩))(hd:d<=100) :
  ∃ t p',At 4 (d+1+1) t/\aj A 19 [.ref c.mm 0,.int .i64 ((d+1:Nat):Int)] H=some (.agg (aK t),some ⟨df c p' H,c.mm⟩):=by
 have key:∃ r,aj A 19 [.ref c.mm 0,.int .i64 ((d+1:Nat):Int)] H=some r/\∃ t p',At 4 (d+1+1) t/\r=(.agg (aK t),some ⟨df c p' H,c.mm⟩):=by
  have aZ:=h.lt;have zP:(d:Int)+1-1=d:=ah;obtain⟨t,p2,th,gT⟩:=ih p1 (df c p1 H) h.set;rw[bp,ai] at gT;obtain⟨u,p3,uh,oS⟩:=ih p2 (df c p2 H) h.set;rw[bp,ai] at oS;obtain⟨l,p4,ln,lh,vO⟩:=ID ih 1 ah p3 (df c p3 H) h.set;rw[bp] at vO;have CJ:=acp (t:=t) (u:=u) (l:=l) (o:=false) ah;have RD:∀ s∈[t,u]++l,At 4 (d+1) s:=fun s hs=>by
   rcases auY.1 hs with hs|hs
   ·exact Bn (P:=At 4 (d+1)) th uh s hs
   ·exact lh s hs
  obtain⟨k,hk⟩:∃ k,k=[t,u]++l:=⟨_,rfl⟩;have Ft:2<=k.length/\k.length<=3:=by rw[hk];simp;omega
  rw[<- hk] at CJ RD;refine nz (fn:=fA) rfl rfl rfl rfl ?_;unfold fA;simp(disch:=omega)only[aO,aa,simprocAttr,fh,gT,oS,vO,zP,CJ];refine cj (k.length-1) 3 (fun i s=>∃ T p3 acc,s=⟨T,df c p3 H,c.mm,1⟩/\T 0=.ref c.mm 0/\T 4=.lbox 0 [.int .i64 0,.int .i64 0,.str [],.str [],.str [],.aq,.aq,.aq]/\T 9=.slice (aC k) true/\T 10=.slice (strs acc) true/\T 11=.int .i64 (i+1)/\acc.length=2*i/\∀ s∈acc,s.length<=1100000)
   (fun s=>∃ T p3 acc,s=⟨T,df c p3 H,c.mm,1⟩/\T 0=.ref c.mm 0/\T 4=.lbox 0 [.int .i64 0,.int .i64 0,.str [],.str [],.str [],.aq,.aq,.aq]/\T 9=.slice (aC k) true/\T 10=.slice (strs acc) true/\acc.length<=4/\∀ s∈acc,s.length<=1100000) (fun _=>False) ?_ ?_ (fun _ h=>h.elim) 0 _ ah ?_
  ·rintro i s hi ⟨T,p3,acc,rfl,e0,e4,e9,zg,e11,hl,hb⟩
   by_cases hc:i+1<k.length
   ·obtain⟨a,p4,ha,rf⟩:=oq (h.set (p':=p3))
    rw[bp] at rf;have RD:=iU a ha;obtain⟨b,p5,j7,TR⟩:=oq (h.set (p':=p4));rw[bp] at TR;have w5:=iU b j7;have ah6:aF false 1 16 (.slice (strs acc) true) (.slice [[.str a],[.str b]] true)=some (.slice (strs (acc++[a,b])) true):=LR ah;simp(disch:=omega)only[aO,aa,simprocAttr,e0,e9,zg,e11,cR,rf,TR,ah6];refine⟨ah,_,p5,acc++[a,b],rfl,fY e0,fY e4,fY e9,jd,jd,by simp[hl];omega,fun u hu=>?_⟩
    rcases auY.1 hu with hu|hu
    ·exact hb u hu
    ·rcases avi.1 hu with rfl|hu
     ·omega
     ·rw[ava.1 hu];omega
   ·simp(disch:=omega)only[aO,aa,simprocAttr,e9,e11,cR]
    exact⟨_,p3,acc,rfl,e0,e4,e9,zg,ah,hb⟩
  ·rintro s ⟨T,p3,acc,rfl,e0,e4,e9,zg,hl,hb⟩
   obtain⟨s,p4,hs,uD⟩:=xq (h.set (p':=p3));rw[bp] at uD;have fa:=h.jm (p':=p4);simp(disch:=omega)only[aO,aa,simprocAttr,e0,e4,e9,zg,uD,fa,au,bB,cH,dJ,cG,cV,fp,KD,Dk];exact⟨.mk 10 0 s [] [] [] k acc,p4,lY RD ah ah ah ⟨hs,a8⟩ lK ⟨ah,hb⟩,by simp only[aK,aG];exact⟨trivial,trivial⟩⟩
  ·exact⟨_,p4,[],rfl,by simp(disch:=omega)only[dr,aa,simprocAttr,strs];simp⟩
 obtain⟨r,h1,t,p',h2,rfl⟩:=key;exact⟨t,p',h2,h1⟩
def akT{c:Cc}(hd:d<=100)(ih:B3 c d):B3 c (d+1):=by
 intro p H h;obtain⟨x,p1,D8,nN,fh⟩:=mJ h 24 ah;have aZ:=h.lt;have zP:(d:Int)+1-1=d:=ah
 by_cases c0:x=0
 ·obtain⟨y,p2,y0,y1,gT⟩:=mJ (h.set (p':=p1)) 30 ah
  rw[bp] at gT;have fa:=h.jm (p':=p2);refine⟨.mk 0 (y-9) [] [] [] [] [] [],p2,jT ah ah a8,bO (fn:=fA) rfl rfl rfl rfl ?_⟩;unfold fA;simp(disch:=omega)only[aO,aa,simprocAttr,fh,gT,fa,c0,au,bB,cH,dJ,cG,cV,ai,aC,aG,strs,Tm.kind,Tm.n,Tm.name,Tm.field,Tm.wn,Tm.wk,Tm.kids,Tm.names]
 by_cases c1:x=1
 ·obtain⟨y,p2,y0,y1,gT⟩:=mJ (h.set (p':=p1)) 4 ah
  rw[bp] at gT;have fa:=h.jm (p':=p2)
  rcases lt4 y0 y1 with rfl|rfl|rfl|rfl
  ·refine⟨.mk 0 0 [] [] [] [] [] [],p2,jT ah ah a8,bO (fn:=fA) rfl rfl rfl rfl ?_⟩
   unfold fA;simp(disch:=omega)only[aO,aa,simprocAttr,fh,gT,fa,c1,au,bB,cH,dJ,cG,cV,ai,aC,aG,strs,Tm.kind,Tm.n,Tm.name,Tm.field,Tm.wn,Tm.wk,Tm.kids,Tm.names]
  ·refine⟨.mk 0 1099511627776 [] [] [] [] [] [],p2,jT ah ah a8,bO (fn:=fA) rfl rfl rfl rfl ?_⟩
   unfold fA;simp(disch:=omega)only[aO,aa,simprocAttr,fh,gT,fa,c1,au,bB,cH,dJ,cG,cV,ai,aC,aG,strs,Tm.kind,Tm.n,Tm.name,Tm.field,Tm.wn,Tm.wk,Tm.kids,Tm.names]
  ·refine⟨.mk 0 (-1099511627776) [] [] [] [] [] [],p2,jT ah ah a8,bO (fn:=fA) rfl rfl rfl rfl ?_⟩
   unfold fA;simp(disch:=omega)only[aO,aa,simprocAttr,fh,gT,fa,c1,au,bB,cH,dJ,cG,cV,ai,aC,aG,strs,Tm.kind,Tm.n,Tm.name,Tm.field,Tm.wn,Tm.wk,Tm.kids,Tm.names]
  ·refine⟨.mk 0 10 [] [] [] [] [] [],p2,jT ah ah a8,bO (fn:=fA) rfl rfl rfl rfl ?_⟩
   unfold fA;simp(disch:=omega)only[aO,aa,simprocAttr,fh,gT,fa,c1,au,bB,cH,dJ,cG,cV,ai,aC,aG,strs,Tm.kind,Tm.n,Tm.name,Tm.field,Tm.wn,Tm.wk,Tm.kids,Tm.names]
 by_cases c2:x=2
 ·obtain⟨y,p2,y0,y1,gT⟩:=mJ (h.set (p':=p1)) 2 ah
  rw[bp] at gT;have fa:=h.jm (p':=p2);refine⟨.mk 1 y [] [] [] [] [] [],p2,jT ah ah a8,bO (fn:=fA) rfl rfl rfl rfl ?_⟩;unfold fA;simp(disch:=omega)only[aO,aa,simprocAttr,fh,gT,fa,c2,au,bB,cH,dJ,cG,cV,ai,aC,aG,strs,Tm.kind,Tm.n,Tm.name,Tm.field,Tm.wn,Tm.wk,Tm.kids,Tm.names]
 by_cases c5:x=5
 ·obtain⟨s,p2,sl,gT⟩:=xq (h.set (p':=p1))
  rw[bp] at gT;obtain⟨l,p3,ln,lh,oS⟩:=ID ih 3 ah p2 (df c p2 H) h.set;rw[bp] at oS;have fa:=h.jm (p':=p3);refine⟨.mk 3 0 s [] [] [] l [],p3,lY lh ah ah ah ⟨sl,a8⟩ lK n7,bO (fn:=fA) rfl rfl rfl rfl ?_⟩;unfold fA;simp(disch:=omega)only[aO,aa,simprocAttr,fh,gT,oS,fa,c5,zP,au,bB,cH,dJ,cG,cV,fp,KD,ai,aG,strs,Tm.kind,Tm.n,Tm.name,Tm.field,Tm.wn,Tm.wk,Tm.kids,Tm.names]
 by_cases c6:x=6
 ·obtain⟨t,p2,th,gT⟩:=ih p1 (df c p1 H) h.set
  rw[bp,ai] at gT;obtain⟨u,p3,uh,oS⟩:=ih p2 (df c p2 H) h.set;rw[bp,ai] at oS;obtain⟨v,p4,vh,vO⟩:=ih p3 (df c p3 H) h.set;rw[bp,ai] at vO;have fa:=h.jm (p':=p4);refine⟨.mk 5 0 [] [] [] [] [t,u,v] [],p4,lY (ajM th uh vh) ag ah ah ⟨a8,a8⟩ lK n7,bO (fn:=fA) rfl rfl rfl rfl ?_⟩;unfold fA;simp(disch:=omega)only[aO,aa,simprocAttr,fh,gT,oS,vO,fa,c6,zP,au,bB,cH,dJ,cG,cV,fp,kW,jP,mZ,ai,aC,aG,strs,Tm.kind,Tm.n,Tm.name,Tm.field,Tm.wn,Tm.wk,Tm.kids,Tm.names]
 by_cases c7:x=7
 ·obtain⟨s,p2,sh,gT⟩:=oq (h.set (p':=p1))
  have sl:=iU _ sh;rw[bp] at gT;obtain⟨t,p3,th,oS⟩:=ih p2 (df c p2 H) h.set;rw[bp,ai] at oS;obtain⟨u,p4,uh,vO⟩:=ih p3 (df c p3 H) h.set;rw[bp,ai] at vO;have fa:=h.jm (p':=p4);refine⟨.mk 6 0 [] [] [] [] [t,u] [s],p4,lY (Bn th uh) ag ah ah ⟨a8,a8⟩ lK ⟨ag,dw⟩,bO (fn:=fA) rfl rfl rfl rfl ?_⟩;unfold fA;simp(disch:=omega)only[aO,aa,simprocAttr,fh,gT,oS,vO,fa,c7,zP,au,bB,cH,dJ,cG,cV,fp,kW,jP,mZ,ai,aC,aG,strs,Tm.kind,Tm.n,Tm.name,Tm.field,Tm.wn,Tm.wk,Tm.kids,Tm.names]
 by_cases c8:x=8
 ·obtain⟨s,p2,sh,gT⟩:=oq (h.set (p':=p1))
  have sl:=iU _ sh;rw[bp] at gT;obtain⟨r,p3,rh,oS⟩:=oq (h.set (p':=p2));have rl:=iU _ rh;rw[bp] at oS;obtain⟨t,p4,th,vO⟩:=ih p3 (df c p3 H) h.set;rw[bp,ai] at vO;obtain⟨u,p5,uh,hc5⟩:=ih p4 (df c p4 H) h.set;rw[bp,ai] at hc5;obtain⟨v,p6,vh,hc6⟩:=ih p5 (df c p5 H) h.set;rw[bp,ai] at hc6;have fa:=h.jm (p':=p6);refine⟨.mk 12 0 [] [] [] [] [t,u,v] [s,r],p6,lY (ajM th uh vh) ag ah ah ⟨a8,a8⟩ lK ⟨ag,dw⟩,bO (fn:=fA) rfl rfl rfl rfl ?_⟩;unfold fA;simp(disch:=omega)only[aO,aa,simprocAttr,fh,gT,oS,vO,hc5,hc6,fa,c8,zP,au,bB,cH,dJ,cG,cV,fp,kW,jP,mZ,ai,aC,aG,strs,Tm.kind,Tm.n,Tm.name,Tm.field,Tm.wn,Tm.wk,Tm.kids,Tm.names]
 by_cases c10:x=10
 ·obtain⟨s,p2,sl,gT⟩:=xq (h.set (p':=p1))
  rw[bp] at gT;obtain⟨r,p3,rh,oS⟩:=oq (h.set (p':=p2));have rl:=iU _ rh;rw[bp] at oS;obtain⟨t,p4,th,vO⟩:=ih p3 (df c p3 H) h.set;rw[bp,ai] at vO;have fa:=h.jm (p':=p4);refine⟨.mk 8 0 s r [] [] [t] [],p4,lY (YM th) ag ah ah ⟨sl,ah⟩ lK n7,bO (fn:=fA) rfl rfl rfl rfl ?_⟩;unfold fA;simp(disch:=omega)only[aO,aa,simprocAttr,fh,gT,oS,vO,fa,c10,zP,au,bB,cH,dJ,cG,cV,fp,kW,jP,mZ,ai,aC,aG,strs,Tm.kind,Tm.n,Tm.name,Tm.field,Tm.wn,Tm.wk,Tm.kids,Tm.names]
 by_cases c11:x=11
 ·obtain⟨s,p2,sl,gT⟩:=xq (h.set (p':=p1))
  rw[bp] at gT;obtain⟨r,p3,rh,oS⟩:=oq (h.set (p':=p2));have rl:=iU _ rh;rw[bp] at oS;obtain⟨t,p4,th,vO⟩:=ih p3 (df c p3 H) h.set;rw[bp,ai] at vO;have fa:=h.jm (p':=p4);refine⟨.mk 9 0 s r [] [] [t] [],p4,lY (YM th) ag ah ah ⟨sl,ah⟩ lK n7,bO (fn:=fA) rfl rfl rfl rfl ?_⟩;unfold fA;simp(disch:=omega)only[aO,aa,simprocAttr,fh,gT,oS,vO,fa,c11,zP,au,bB,cH,dJ,cG,cV,fp,kW,jP,mZ,ai,aC,aG,strs,Tm.kind,Tm.n,Tm.name,Tm.field,Tm.wn,Tm.wk,Tm.kids,Tm.names]
 by_cases c13:x=13
 ·obtain⟨w,p2,wh,gT⟩:=Ko 2 p1 (df c p1 H) ah h.set
  rw[bp,iu] at gT;rw[show ((2:Nat):Int)=2 from rfl] at gT
  obtain⟨l,p3,ln,lh,oS⟩:=ID ih 3 ah p2 (df c p2 H) h.set;rw[bp] at oS;have fa:=h.jm (p':=p3);refine⟨.mk 11 0 [] [] w.name w.kids l [],p3,lY lh ah ah ah ⟨a8,a8⟩ (by cases w;exact Wi ah wh) n7,bO (fn:=fA) rfl rfl rfl rfl ?_⟩
  unfold fA;simp(disch:=omega)only[aO,aa,simprocAttr,fh,gT,oS,fa,c13,zP,au,bB,cH,dJ,cG,cV,fp,KD,YX,ai,strs,Tm.kind,Tm.n,Tm.name,Tm.field,Tm.wn,Tm.wk,Tm.kids,Tm.names]
 by_cases c14:x=14
 ·obtain⟨y,p2,y0,y1,gT⟩:=mJ (h.set (p':=p1)) 2 ah
  rw[bp] at gT;obtain⟨t,p3,th,oS⟩:=ih p2 (df c p2 H) h.set;rw[bp,ai] at oS;have fa:=h.jm (p':=p3)
  rcases lt2 y0 y1 with rfl|rfl
  ·refine⟨.mk 4 9 [] [] [] [] [t] [],p3,lY (YM th) ag ah ah ⟨a8,a8⟩ lK n7,bO (fn:=fA) rfl rfl rfl rfl ?_⟩
   unfold fA;simp(disch:=omega)only[aO,aa,simprocAttr,fh,gT,oS,fa,c14,zP,au,bB,cH,dJ,cG,cV,fp,kW,jP,mZ,ai,aC,aG,strs,Tm.kind,Tm.n,Tm.name,Tm.field,Tm.wn,Tm.wk,Tm.kids,Tm.names]
   first|done|rfl
  ·refine⟨.mk 4 11 [] [] [] [] [t] [],p3,lY (YM th) ag ah ah ⟨a8,a8⟩ lK n7,bO (fn:=fA) rfl rfl rfl rfl ?_⟩
   unfold fA;simp(disch:=omega)only[aO,aa,simprocAttr,fh,gT,oS,fa,c14,zP,au,bB,cH,dJ,cG,cV,fp,kW,jP,mZ,ai,aC,aG,strs,Tm.kind,Tm.n,Tm.name,Tm.field,Tm.wn,Tm.wk,Tm.kids,Tm.names]
   first|done|rfl
 by_cases c9:x=9
 ·subst c9;exact akS ih h fh hd
 by_cases c12:x=12
 ·subst c12;exact af8 ih h fh hd
 by_cases c15:14<x
 ·obtain⟨y,p2,y0,y1,gT⟩:=mJ (h.set (p':=p1)) 10 ah
  rw[bp] at gT;obtain⟨t,p3,th,oS⟩:=ih p2 (df c p2 H) h.set;rw[bp,ai] at oS;obtain⟨u,p4,uh,vO⟩:=ih p3 (df c p3 H) h.set;rw[bp,ai] at vO;have fa:=h.jm (p':=p4);have hy:y=0\/y=1\/y=2\/y=3\/y=4\/y=5\/y=6\/y=7\/y=8\/y=9:=ah
  rcases hy with rfl|rfl|rfl|rfl|rfl|rfl|rfl|rfl|rfl|rfl
  ·refine⟨.mk 4 0 [] [] [] [] [t,u] [],p4,lY (Bn th uh) ag ah ah ⟨a8,a8⟩ lK n7,bO (fn:=fA) rfl rfl rfl rfl ?_⟩
   unfold fA;simp(disch:=omega)only[aO,aa,simprocAttr,fh,gT,oS,vO,fa,zP,au,bB,cH,dJ,cG,cV,fp,kW,jP,mZ,ai,aC,aG,strs,Tm.kind,Tm.n,Tm.name,Tm.field,Tm.wn,Tm.wk,Tm.kids,Tm.names]
  ·refine⟨.mk 4 1 [] [] [] [] [t,u] [],p4,lY (Bn th uh) ag ah ah ⟨a8,a8⟩ lK n7,bO (fn:=fA) rfl rfl rfl rfl ?_⟩
   unfold fA;simp(disch:=omega)only[aO,aa,simprocAttr,fh,gT,oS,vO,fa,zP,au,bB,cH,dJ,cG,cV,fp,kW,jP,mZ,ai,aC,aG,strs,Tm.kind,Tm.n,Tm.name,Tm.field,Tm.wn,Tm.wk,Tm.kids,Tm.names]
  ·refine⟨.mk 4 2 [] [] [] [] [t,u] [],p4,lY (Bn th uh) ag ah ah ⟨a8,a8⟩ lK n7,bO (fn:=fA) rfl rfl rfl rfl ?_⟩
   unfold fA;simp(disch:=omega)only[aO,aa,simprocAttr,fh,gT,oS,vO,fa,zP,au,bB,cH,dJ,cG,cV,fp,kW,jP,mZ,ai,aC,aG,strs,Tm.kind,Tm.n,Tm.name,Tm.field,Tm.wn,Tm.wk,Tm.kids,Tm.names]
  ·refine⟨.mk 4 3 [] [] [] [] [t,u] [],p4,lY (Bn th uh) ag ah ah ⟨a8,a8⟩ lK n7,bO (fn:=fA) rfl rfl rfl rfl ?_⟩
   unfold fA;simp(disch:=omega)only[aO,aa,simprocAttr,fh,gT,oS,vO,fa,zP,au,bB,cH,dJ,cG,cV,fp,kW,jP,mZ,ai,aC,aG,strs,Tm.kind,Tm.n,Tm.name,Tm.field,Tm.wn,Tm.wk,Tm.kids,Tm.names]
  ·refine⟨.mk 4 4 [] [] [] [] [t,u] [],p4,lY (Bn th uh) ag ah ah ⟨a8,a8⟩ lK n7,bO (fn:=fA) rfl rfl rfl rfl ?_⟩
   unfold fA;simp(disch:=omega)only[aO,aa,simprocAttr,fh,gT,oS,vO,fa,zP,au,bB,cH,dJ,cG,cV,fp,kW,jP,mZ,ai,aC,aG,strs,Tm.kind,Tm.n,Tm.name,Tm.field,Tm.wn,Tm.wk,Tm.kids,Tm.names]
  ·refine⟨.mk 4 5 [] [] [] [] [t,u] [],p4,lY (Bn th uh) ag ah ah ⟨a8,a8⟩ lK n7,bO (fn:=fA) rfl rfl rfl rfl ?_⟩
   unfold fA;simp(disch:=omega)only[aO,aa,simprocAttr,fh,gT,oS,vO,fa,zP,au,bB,cH,dJ,cG,cV,fp,kW,jP,mZ,ai,aC,aG,strs,Tm.kind,Tm.n,Tm.name,Tm.field,Tm.wn,Tm.wk,Tm.kids,Tm.names]
  ·refine⟨.mk 4 6 [] [] [] [] [t,u] [],p4,lY (Bn th uh) ag ah ah ⟨a8,a8⟩ lK n7,bO (fn:=fA) rfl rfl rfl rfl ?_⟩
   unfold fA;simp(disch:=omega)only[aO,aa,simprocAttr,fh,gT,oS,vO,fa,zP,au,bB,cH,dJ,cG,cV,fp,kW,jP,mZ,ai,aC,aG,strs,Tm.kind,Tm.n,Tm.name,Tm.field,Tm.wn,Tm.wk,Tm.kids,Tm.names]
  ·refine⟨.mk 4 7 [] [] [] [] [t,u] [],p4,lY (Bn th uh) ag ah ah ⟨a8,a8⟩ lK n7,bO (fn:=fA) rfl rfl rfl rfl ?_⟩
   unfold fA;simp(disch:=omega)only[aO,aa,simprocAttr,fh,gT,oS,vO,fa,zP,au,bB,cH,dJ,cG,cV,fp,kW,jP,mZ,ai,aC,aG,strs,Tm.kind,Tm.n,Tm.name,Tm.field,Tm.wn,Tm.wk,Tm.kids,Tm.names]
  ·refine⟨.mk 4 8 [] [] [] [] [t,u] [],p4,lY (Bn th uh) ag ah ah ⟨a8,a8⟩ lK n7,bO (fn:=fA) rfl rfl rfl rfl ?_⟩
   unfold fA;simp(disch:=omega)only[aO,aa,simprocAttr,fh,gT,oS,vO,fa,zP,au,bB,cH,dJ,cG,cV,fp,kW,jP,mZ,ai,aC,aG,strs,Tm.kind,Tm.n,Tm.name,Tm.field,Tm.wn,Tm.wk,Tm.kids,Tm.names]
  ·refine⟨.mk 4 10 [] [] [] [] [t,u] [],p4,lY (Bn th uh) ag ah ah ⟨a8,a8⟩ lK n7,bO (fn:=fA) rfl rfl rfl rfl ?_⟩
   unfold fA;simp(disch:=omega)only[aO,aa,simprocAttr,fh,gT,oS,vO,fa,zP,au,bB,cH,dJ,cG,cV,fp,kW,jP,mZ,ai,aC,aG,strs,Tm.kind,Tm.n,Tm.name,Tm.field,Tm.wn,Tm.wk,Tm.kids,Tm.names]
 have asR:x=3\/x=4:=ah;obtain⟨s,p2,sh,gT⟩:=oq (h.set (p':=p1));have sl:=iU _ sh;rw[bp] at gT;have fa:=h.jm (p':=p2);refine⟨.mk 2 0 s [] [] [] [] [],p2,jT ah ah ah,bO (fn:=fA) rfl rfl rfl rfl ?_⟩;unfold fA;simp(disch:=omega)only[aO,aa,simprocAttr,fh,gT,fa,au,bB,cH,dJ,cG,cV,ai,aC,aG,strs,Tm.kind,Tm.n,Tm.name,Tm.field,Tm.wn,Tm.wk,Tm.kids,Tm.names]
def aV:aB->aB × aB × Bool
 | []=>([],[],false)
 | b :: r=>if b.toNat=46 then ([],r,true) else (b :: (aV r).1,(aV r).2.1,(aV r).2.2)
theorem uw:∀ {s:aB},(aV s).2.2=false->aV s=(s,[],false)
 | [],_=>rfl
 | b :: r,h=>by
  unfold aV at h ⊢;split at h
  ·cases h
  ·rename_i hb
   rw[if_neg hb,uw h]
def On(s:aB)(H:ae)(hs:s.length<=10000000):aj A 118 [.str s] H=some (.tuple [.str (aV s).1,.str (aV s).2.1,.bool (aV s).2.2],none):=by
 refine cW abu.eq_1 ?_;simp(disch:=omega)only[dr,aa,simprocAttr];refine cj s.length 0 (fun i=>Hd (fun T=>T 0=.str s/\T 5=.int .i64 i/\aV s=(s.take i++(aV (s.drop i)).1,(aV (s.drop i)).2.1,(aV (s.drop i)).2.2)) H H.length 0)
  (Hd (fun T=>T 0=.str s/\aV s=(s,[],false)) H H.length 0) (Hd (fun T=>T 2=.str (aV s).1/\T 3=.str (aV s).2.1/\T 4=.bool (aV s).2.2) H H.length 0) ?_ ?_ ?_ 0 _ (Nat.zero_le _) ?_
 ·rintro i st hi gZ
  obtain⟨T,rfl,h0,h5,hc⟩:=gZ.out
  by_cases h:i<s.length
  ·have hx:=auS h
   have hd:=avf h;generalize s[i]=b at hx hd;have w5:b.toNat<256:=axz b
   by_cases b46:b.toNat=46
   ·have e:aV (s.drop i)=([],s.drop (i+1),true):=by rw[hd,aV,if_pos b46]
    rw[e] at hc;simp only[List.append_nil] at hc;simp(disch:=omega)only[dr,aa,simprocAttr,h0,h5,hx,hc];rw[avr]
   ·have e:aV (s.drop i)=(b :: (aV (s.drop (i+1))).1,(aV (s.drop (i+1))).2.1,(aV (s.drop (i+1))).2.2):=by rw[hd,aV,if_neg b46]
    rw[e] at hc;have mO:s.take (i+1)=s.take i++[b]:=by rw[awj,hx];rfl
    simp(disch:=omega)only[dr,aa,simprocAttr,h0,h5,hx];exact⟨h,by rw[hc,mO];simp⟩
  ·have e:s.drop i=[]:=List.drop_eq_nil_of_le ah
   rw[e,aV,avq ah] at hc;simp only[List.append_nil] at hc;simp(disch:=omega)only[dr,aa,simprocAttr,h0,h5];exact hc
 ·rintro st gZ
  obtain⟨T,rfl,h0,hc⟩:=gZ.out;exact RQ h0 hc
 ·rintro st gZ
  obtain⟨T,rfl,h2,h3,h4⟩:=gZ.out;exact vO3 h2 h3 h4
 ·exact jd
def pf:∀ s:aB,(aV s).1.length<=s.length/\(aV s).2.1.length<=s.length
 | []=>⟨Nat.le_refl _,Nat.le_refl _⟩
 | b :: r=>by
  have:=pf r
  unfold aV;split
  ·exact⟨ag,ag⟩
  ·exact⟨ko,ko⟩
def gV(s:aB):Bool:=isWord (aV s).1&&(!(aV s).2.2 || isWord (aV s).2.1)
def aJ(s:aB):List aB:=if (aV s).2.2=true then [(aV s).1,[46],(aV s).2.1] else [(aV s).1]
def Vn(s:aB)(H:ae)(hs:s.length<=10000000):aj A 115 [.str s] H=some (.bool (gV s),none):=by
 have hf:=On s H hs;obtain⟨l1,l2⟩:=pf s;refine cW abt.eq_1 ?_;have w1:=qx (aV s).1 H ah;have w2:=qx (aV s).2.1 H ah;unfold gV;cases h1:isWord (aV s).1<;>cases h2:(aV s).2.2<;>rw[h1] at w1<;>rw[h2] at hf<;>exact vO3 hf w1 w2
def vD(s:aB)(H:ae)(hs:s.length<=10000000):aj A 83 [.str s] H=some (.slice (strs (aJ s)) true,none):=by
 have hf:=On s H hs;refine cW ajs.eq_1 ?_;unfold aJ;cases h2:(aV s).2.2<;>rw[h2] at hf<;>simp(disch:=omega)only[dr,aa,simprocAttr,hf,strs,reduceCtorEq,av4]
def KB(l:List aB)(H:ae)(hl:l.length<=10000000)(hs:∀ s∈l,s.length<=10000000):aj A 40 [.slice (strs l) false] H=some (.bool (l.all isWord),none):=by
 refine cW aji.eq_1 ?_;simp(disch:=omega)only[dr,aa,simprocAttr];refine cj l.length 0 (fun i=>Hd (fun T=>T 0=.slice (strs l) false/\T 3=.int .i64 i/\l.all isWord=(l.drop i).all isWord) H H.length 0)
  (Hd (fun T=>l.all isWord=true) H H.length 0) (Hd (fun T=>T 2=.bool false/\l.all isWord=false) H H.length 0) ?_ ?_ ?_ 0 _ (Nat.zero_le _) ?_
 ·rintro i st hi gZ
  obtain⟨T,rfl,h0,h3,hc⟩:=gZ.out
  by_cases h:i<l.length
  ·have hx:=auS h
   have hd:=avf h;have hm:=avj h;generalize l[i]=b at hx hd hm;have hw:=qx b H (by have:=hs b hm;omega)
   rw[hd,List.all_cons] at hc;have gb:=iz hx;cases hb:isWord b<;>rw[hb] at hw hc
   ·simp(disch:=omega)only[dr,aa,simprocAttr,h0,h3,bG,gb,hw]
    rw[hc];rfl
   ·simp(disch:=omega)only[dr,aa,simprocAttr,h0,h3,bG,gb,hw]
    exact⟨h,by rw[hc,avv]⟩
  ·have e:l.drop i=[]:=List.drop_eq_nil_of_le ah
   rw[e,List.all_nil] at hc;simp(disch:=omega)only[dr,aa,simprocAttr,h0,h3,bG];exact hc
 ·rintro st gZ
  obtain⟨T,rfl,hc⟩:=gZ.out;exact fY hc
 ·rintro st gZ
  obtain⟨T,rfl,h2,hc⟩:=gZ.out;exact RQ h2 hc
 ·exact jd
abbrev cS:aB:=[76,105,115,116]
abbrev DI:aB:=[73,110,116]
abbrev uT:aB:=[66,111,111,108]
def bX:Wd->Bool
 | .mk n [k]=>if n=cS then bX k else false
 | .mk n []=>if n=cS then false else (n==DI || n==uT || gV n)
 | .mk n _=>false
def bQ:Wd->List aB
 | .mk n [k]=>if n=cS then [cS,[40]]++bQ k++[[41]] else (if n=DI\/n=uT then [n] else aJ n)
 | .mk n _=>if n=DI\/n=uT then [n] else aJ n
theorem Ac:∀ (h:Nat) (w:Wd) (H:ae),Fe h w->aj A 80 [.agg (gR w)] H=some (.bool (bX w),none):=by
 have leaf:∀ (n:aB) (H:ae),n.length<=1100000->aj A 80 [.agg (gR (.mk n []))] H=some (.bool (bX (.mk n [])),none):=by
  intro n H hn;have hq:=Vn n H ah;refine cW aev.eq_1 ?_;rw[gR,aG]
  by_cases h1:n=cS
  ·have e1:(n==[76,105,115,116])=true:=cT h1
   simp(disch:=omega)only[aO,aa,simprocAttr,e1,bX,if_pos h1]
  have e1:(n==[76,105,115,116])=false:=cT h1
  by_cases h2:n=DI
  ·have e2:(n==[73,110,116])=true:=cT h2
   simp(disch:=omega)only[aO,aa,simprocAttr,e1,e2,bX,if_neg h1]
  have e2:(n==[73,110,116])=false:=cT h2
  by_cases h3:n=uT
  ·have e3:(n==[66,111,111,108])=true:=cT h3
   simp(disch:=omega)only[aO,aa,simprocAttr,e1,e2,e3,bX,if_neg h1]
  have e3:(n==[66,111,111,108])=false:=cT h3;simp(disch:=omega)only[aO,aa,simprocAttr,e1,e2,e3,hq,bX,if_neg h1]
 intro h
 induction h with
 | zero =>
  intro w H hw;obtain⟨n,ks⟩:=w;obtain⟨h1,h2⟩:=hw;simp only[Wd.kids,Wd.name] at h1 h2
  grind
 | succ h ih =>
  intro w H hw;obtain⟨n,ks⟩:=w;obtain⟨h1,h2,h3⟩:=hw;simp only[Wd.kids,Wd.name] at h1 h2 h3
  match ks,h2,h3 with
  | [],_,_=>exact leaf n H h1
  | [k],_,h3 =>
   have hk:=ih k H (h3 k ag);rw[iu] at hk;refine cW aev.eq_1 ?_;rw[gR,aG,aG,iu]
   by_cases h1:n=cS
   ·have e1:(n==[76,105,115,116])=true:=cT h1
    simp(disch:=omega)only[aO,aa,simprocAttr,e1,hk,bX,if_pos h1]
   ·have e1:(n==[76,105,115,116])=false:=cT h1
    simp(disch:=omega)only[aO,aa,simprocAttr,e1,bX,if_neg h1]
theorem lH(s:aB):(aJ s).length<=3:=by unfold aJ;split<;>simp
theorem mM:∀ (h:Nat) (w:Wd),Fe h w->(bQ w).length<=3*h+3
 | 0,.mk n ks,hw=>by
  obtain⟨_,h2⟩:=hw;simp only[Wd.kids] at h2;subst h2;unfold bQ
  grind [lH]
 | h+1,.mk n [],_=>by
  unfold bQ
  grind [lH]
 | h+1,.mk n [k],hw=>by
  have hk:=mM h k (hw.2.2 k (by simp[Wd.kids]))
  have:=lH n
  unfold bQ
  grind
 | h+1,.mk n (a :: b :: r),hw=>by
  have:=hw.2.1
  simp[Wd.kids] at this
theorem IM:∀ (h:Nat) (w:Wd) (H:ae),h<=1000->Fe h w->bX w=true->aj A 42 [.agg (gR w)] H=some (.slice (strs (bQ w)) true,none):=by
 have leaf:∀ (n:aB) (H:ae),n.length<=1100000->bX (.mk n [])=true->aj A 42 [.agg (gR (.mk n []))] H=some (.slice (strs (bQ (.mk n []))) true,none):=by
  intro n H hn hp;have hq:=vD n H ah;have h1:n≠cS:=fun e=>by subst e;simp[bX] at hp
  have e1:(n==[76,105,115,116])=false:=cT h1;refine cW ael.eq_1 ?_;rw[gR,aG]
  by_cases h2:n=DI
  ·have e2:(n==[73,110,116])=true:=cT h2
   simp(disch:=omega)only[aO,aa,simprocAttr,e1,e2,bQ,if_pos (Or.inl h2),strs]
  have e2:(n==[73,110,116])=false:=cT h2
  by_cases h3:n=uT
  ·have e3:(n==[66,111,111,108])=true:=cT h3
   simp(disch:=omega)only[aO,aa,simprocAttr,e1,e2,e3,bQ,if_pos (Or.inr h3),strs]
  have e3:(n==[66,111,111,108])=false:=cT h3;simp(disch:=omega)only[aO,aa,simprocAttr,e1,e2,e3,hq,bQ,if_neg (show ¬ (n=DI\/n=uT) from fun h=>h.elim h2 h3)]
 intro h
 induction h with
 | zero =>
  intro w H _ hw hp;obtain⟨n,ks⟩:=w;obtain⟨h1,h2⟩:=hw;simp only[Wd.kids,Wd.name] at h1 h2
  grind
 | succ h ih =>
  intro w H hh hw hp;obtain⟨n,ks⟩:=w;obtain⟨h1,h2,h3⟩:=hw;simp only[Wd.kids,Wd.name] at h1 h2 h3
  match ks,h2,h3,hp with
  | [],_,_,hp=>exact leaf n H h1 hp
  | [k],_,h3,hp =>
   have hl:n=cS:=by
    unfold bX at hp
    grind
   have oz:bX k=true:=by
    unfold bX at hp
    rwa [if_pos hl] at hp
   have hk:=ih k H ah (h3 k ag) oz;have hlen:=mM h k (h3 k ag);rw[iu] at hk;have a1:aF false 1 16 (.slice [[.str [76,105,115,116]],[.str [40]]] true) (.slice (strs (bQ k)) true)=some (.slice (strs ([cS,[40]]++bQ k)) true):=cx (l:=[cS,[40]]) dw;have a2:aF false 1 16 (.slice (strs ([cS,[40]]++bQ k)) true) (.slice [[.str [41]]] true)=some (.slice (strs ([cS,[40]]++bQ k++[[41]])) true):=gu dw;have hw:bQ (.mk n [k])=[cS,[40]]++bQ k++[[41]]:=by rw[bQ,if_pos hl]
   generalize [cS,[40]]++bQ k=l1 at a1 a2 hw;have e1:(n==[76,105,115,116])=true:=cT hl;refine cW ael.eq_1 ?_;rw[gR,aG,aG,iu];simp(disch:=omega)only[aO,aa,simprocAttr,e1,hk,a1,a2,hw]
def VY(h0:¬ x<0)(h1:¬ 11<x):x=0\/x=1\/x=2\/x=3\/x=4\/x=5\/x=6\/x=7\/x=8\/x=9\/x=10\/x=11:=by omega
def IB(n:Int)(H:ae):aj A 86 [.int .i64 n] H=some (.tuple [.str (da n).1,.int .i64 (da n).2],none):=by
 refine cB (fn:=aex) rfl rfl rfl ?_;unfold aex
 by_cases h0:n<0
 ·have e:da n=([],0):=by unfold da;rw[if_pos (Or.inl h0)]
  exact Lz h0 e
 by_cases h1:11<n
 ·have e:da n=([],0):=by unfold da;rw[if_pos (Or.inr h1)]
  exact vK3 h0 h1 e
 rcases VY h0 h1 with rfl|rfl|rfl|rfl|rfl|rfl|rfl|rfl|rfl|rfl|rfl|rfl
 all_goals
  simp(disch:=omega)only[aO,aa,simprocAttr];rfl
def bH(t:Tm):Int:=if t.kind=5\/t.kind=6\/t.kind=12 then 0 else if t.kind=4 then (da t.n).2 else 8
def YE(t:Tm)(H:ae):aj A 119 [.agg (aK t)] H=some (.int .i64 (bH t),none):=by
 have hs:=IB t.n H;refine cB (fn:=Ui) rfl rfl rfl ?_;unfold Ui;rw[ai]
 by_cases h5:t.kind=5
 ·simp(disch:=omega)only[aO,aa,simprocAttr,h5,bH,true_or]
 by_cases h6:t.kind=6
 ·simp(disch:=omega)only[aO,aa,simprocAttr,h6,bH,true_or,or_true]
 by_cases h12:t.kind=12
 ·simp(disch:=omega)only[aO,aa,simprocAttr,h12,bH,or_true]
 have hn:¬ (t.kind=5\/t.kind=6\/t.kind=12):=by omega
 by_cases h4:t.kind=4
 ·have e:bH t=(da t.n).2:=by unfold bH;rw[if_neg hn,if_pos h4]
  exact vK3 h4 hs e
 ·have e:bH t=8:=by unfold bH;rw[if_neg hn,if_neg h4]
  exact nx e
def bR(k n:Int)(len:Nat):Int × Int :=
 if k=0\/k=1\/k=2 then (0,0) else if k=3\/k=11 then (-1,0)
 else if k=4 then (if (da n).1=[] then (-2,0) else if (da n).2=7 then (1,0) else (2,0))
 else if k=5 then (3,0) else if k=6 then (2,1) else if k=7 then (-1,len) else if k=8\/k=9 then (1,0)
 else if k=10 then (if len<2 then (-2,0) else (-1,2*((len:Int)-1))) else if k=12 then (3,2) else (-2,0)
def uK(k:Int):k=0\/k=1\/k=2\/k=3\/k=4\/k=5\/k=6\/k=7\/k=8\/k=9\/k=10\/k=11\/k=12\/(k<0\/12<k):=by omega
theorem SF(t:Tm)(H:ae)(hl:t.kids.length<=1000):aj A 117 [.agg (aK t)] H=some (.tuple [.int .i64 (bR t.kind t.n t.kids.length).1,.int .i64 (bR t.kind t.n t.kids.length).2],none):=by
 have hs:=IB t.n H;refine cB (fn:=Uh) rfl rfl rfl ?_;unfold Uh;rw[ai]
 rcases uK t.kind with h|h|h|h|h|h|h|h|h|h|h|h|h|h
 ·rw[h];simp(disch:=omega)only[aO,aa,simprocAttr,cR];rfl
 ·rw[h];simp(disch:=omega)only[aO,aa,simprocAttr,cR];rfl
 ·rw[h];simp(disch:=omega)only[aO,aa,simprocAttr,cR];rfl
 ·rw[h];simp(disch:=omega)only[aO,aa,simprocAttr,cR];rfl
 ·rw[h]
  by_cases h1:(da t.n).1=[]
  ·have e1:((da t.n).1==[])=true:=by rw[h1];rfl
   have e:bR 4 t.n t.kids.length=(-2,0):=by simp[bR,h1]
   rw[e];simp(disch:=omega)only[aO,aa,simprocAttr,cR,hs,e1]
  ·have e1:((da t.n).1==[])=false:=by simpa using h1
   by_cases h2:(da t.n).2=7
   ·have e:bR 4 t.n t.kids.length=(1,0):=by simp[bR,h1,h2]
    rw[e];simp(disch:=omega)only[aO,aa,simprocAttr,cR,hs,e1,h2]
   ·have e:bR 4 t.n t.kids.length=(2,0):=by simp[bR,h1,h2]
    rw[e];simp(disch:=omega)only[aO,aa,simprocAttr,cR,hs,e1]
 ·rw[h];simp(disch:=omega)only[aO,aa,simprocAttr,cR];rfl
 ·rw[h];simp(disch:=omega)only[aO,aa,simprocAttr,cR];rfl
 ·rw[h];simp(disch:=omega)only[aO,aa,simprocAttr,cR];rfl
 ·rw[h];simp(disch:=omega)only[aO,aa,simprocAttr,cR];rfl
 ·rw[h];simp(disch:=omega)only[aO,aa,simprocAttr,cR];rfl
 ·rw[h]
  by_cases h1:t.kids.length<2
  ·have e:bR 10 t.n t.kids.length=(-2,0):=by simp[bR,h1]
   rw[e];simp(disch:=omega)only[aO,aa,simprocAttr,cR]
  ·have e:bR 10 t.n t.kids.length=(-1,2*((t.kids.length:Int)-1)):=by simp[bR,h1]
   rw[e];simp(disch:=omega)only[aO,aa,simprocAttr,cR]
 ·rw[h];simp(disch:=omega)only[aO,aa,simprocAttr,cR];rfl
 ·rw[h];simp(disch:=omega)only[aO,aa,simprocAttr,cR];rfl
 ·have e:bR t.kind t.n t.kids.length=(-2,0):=by
   unfold bR
   grind
  rw[e];simp(disch:=omega)only[aO,aa,simprocAttr,cR]
def Tp(h:j<8):∃ s:aB,s.length<=7 /\
  ([[.str []],[.str [32]],[.str [10]],[.str [32,32]],[.str [35,32,97,32,40,98,10]],[.str [32,35,10,32]],[.str [10,10]],[.str [35,255,35,32,49,10]]]:List (List AV))[j]?=some [.str s]:=by
 have hj:j=0\/j=1\/j=2\/j=3\/j=4\/j=5\/j=6\/j=7:=ah
 rcases hj with rfl|rfl|rfl|rfl|rfl|rfl|rfl|rfl<;>exact⟨_,a8,rfl⟩
def ajS(h0:0<=x)(h1:x<8):∃ j:Nat,j<8/\x=j:=⟨x.toNat,ah,ah⟩
def aaU(n k:Int)(H:ae)(hn:BZ n):∃ s:aB,s.length<=1100000/\aj A 17 [.int .i64 n,.int .i64 k] H=some (.str s,none):=by
 have hr:=lr (n:=n) (k:=1000000) ah;have ha:=qS n 1000000 H hn ah;generalize mi n 1000000=x at hr ha;obtain⟨i,hi,ei⟩:=ajS (x:=x % 8) ah ah;obtain⟨j,hj,ej⟩:=ajS (x:=x / 8 % 8) ah ah;obtain⟨s,hs,ats⟩:=Tp hi;obtain⟨u,hu,atu⟩:=Tp hj;have key:∃ r,aj A 17 [.int .i64 n,.int .i64 k] H=some r/\∃ s:aB,s.length<=1100000/\r=(.str s,none):=by
  refine ug (fn:=aeb) rfl rfl rfl ?_;unfold aeb
  by_cases h3:x % 3=0
  ·obtain⟨v,hv⟩:∃ v,v=s++u:=⟨_,rfl⟩
   have Wz:v.length<=14:=by rw[hv];simp;omega
   cases hb:(v==[]) with
   | false =>
    rw[hv] at hb;simp(disch:=omega)only[aO,aa,simprocAttr,ha,jU,zb,ei,ej,ats,atu,h3,hb];exact⟨_,by rw[<- hv];omega,rfl⟩
   | true =>
    rw[hv] at hb
    by_cases hk:k=0
    ·simp(disch:=omega)only[aO,aa,simprocAttr,ha,jU,zb,ei,ej,ats,atu,h3,hb,hk]
     exact⟨_,by rw[<- hv];omega,rfl⟩
    ·simp(disch:=omega)only[aO,aa,simprocAttr,ha,jU,zb,ei,ej,ats,atu,h3,hb]
     exact⟨[32],a8,rfl⟩
  ·cases hb:(s==[]) with
   | false =>
    simp(disch:=omega)only[aO,aa,simprocAttr,ha,jU,ei,ats,hb];exact⟨s,ah,rfl⟩
   | true =>
    by_cases hk:k=0
    ·simp(disch:=omega)only[aO,aa,simprocAttr,ha,jU,ei,ats,hb,hk]
     exact⟨s,ah,rfl⟩
    ·simp(disch:=omega)only[aO,aa,simprocAttr,ha,jU,ei,ats,hb]
     exact⟨[32],a8,rfl⟩
 obtain⟨r,h1,s,h2,rfl⟩:=key;exact⟨s,h2,h1⟩
def acM(h:j<4):∃ s:aB,s.length<=1100000/\([[.str [10]],[.str [32,10]],[.str [35,32,120,10]],[.str [32,32,35,32,121,32,40,10]]]:List (List AV))[j]?=some [.str s]:=by
 have hj:j=0\/j=1\/j=2\/j=3:=ah
 rcases hj with rfl|rfl|rfl|rfl<;>exact⟨_,a8,rfl⟩
def Gr(h0:0<=x)(h1:x<1000000):BZ x:=⟨ah,ah⟩
def UI{c:Cc}{H:ae}(h:CH c p H)(n:Nat)(hn:n<=100000)(b:aB)(hb:b.length<=1100000) :
  ∃ (out:List aB) (p' : Int),out.length<=n+2/\(∀ s∈out,s.length<=1100000)/\aj A 16 [.ref c.mm 0,.int .i64 n,.str b] H=some (.slice (strs out) true,some ⟨df c p' H,c.mm⟩):=by
 have key:∃ r,aj A 16 [.ref c.mm 0,.int .i64 n,.str b] H=some r/\∃ (out:List aB) (p' : Int),out.length<=n+2/\(∀ s∈out,s.length<=1100000)/\r=(.slice (strs out) true,some ⟨df c p' H,c.mm⟩):=by
  have aZ:=h.lt;refine nz (fn:=aea) rfl rfl rfl rfl ?_;unfold aea;simp(disch:=omega)only[aO,aa,simprocAttr];refine cj (n-1) 0 (fun i s=>∃ T G lo p3 acc,s=⟨T,G,lo,0⟩/\(G=H/\lo=H.length/\i=0\/G=df c p3 H/\lo=c.mm)/\T 0=.ref c.mm 0/\T 1=.int .i64 n/\T 7=.slice (strs acc) true/\T 8=.int .i64 (i+1)/\acc.length=i+1/\∀ s∈acc,s.length<=1100000)
   (fun s=>∃ T G lo p3 acc,s=⟨T,G,lo,0⟩/\(G=H/\lo=H.length\/G=df c p3 H/\lo=c.mm)/\T 0=.ref c.mm 0/\T 7=.slice (strs acc) true/\acc.length<=n+1/\∀ s∈acc,s.length<=1100000) (fun _=>False) ?_ ?_ (fun _ h=>h.elim) 0 _ ah ?_
  ·rintro i s hi ⟨T,G,lo,p3,acc,rfl,hG,e0,e1,e7,e8,hl,hbd⟩
   by_cases hc:i+1<n
   ·have fh:∃ x p4,0<=x/\x<1000/\aj A 15 [.ref c.mm 0,.int .i64 1000] G=some (.int .i64 x,some ⟨df c p4 H,c.mm⟩):=by
     rcases hG with ⟨rfl,rfl,rfl⟩|⟨rfl,rfl⟩
     ·exact mJ h 1000 ah
     ·obtain⟨x,p4,x0,x1,hx⟩:=mJ (h.set (p':=p3)) 1000 ah
      rw[bp] at hx;exact⟨x,p4,x0,x1,hx⟩
    obtain⟨x,p4,x0,x1,fh⟩:=fh;obtain⟨g,hg,ane⟩:=aaU x 1 (df c p4 H) (Gr x0 ah);have CJ:aF false 1 16 (.slice (strs acc) true) (.slice [[.str g]] true)=some (.slice (strs (acc++[g])) true):=gu ah;have we:(bif decide (c.mm<lo) then c.mm else lo)=c.mm:=by
     rcases hG with ⟨_,rfl,_⟩|⟨_,rfl⟩
     ·rw[decide_eq_true aZ];rfl
     ·simp
    simp(disch:=omega)only[aO,aa,simprocAttr,e0,e1,e7,e8,fh,ane,CJ,we];refine⟨ah,_,_,_,p4,acc++[g],rfl,.inr ⟨rfl,rfl⟩,fY e0,fY e1,jd,jd,by simp[hl],fun u hu=>?_⟩
    rcases auY.1 hu with hu|hu
    ·exact hbd u hu
    ·rw[ava.1 hu];omega
   ·simp(disch:=omega)only[aO,aa,simprocAttr,e1,e8]
    refine⟨_,G,lo,p3,acc,rfl,?_,e0,e7,ah,hbd⟩
    rcases hG with ⟨h1,h2,_⟩|h1
    ·exact .inl ⟨h1,h2⟩
    ·exact .inr h1
  ·rintro s ⟨T,G,lo,p3,acc,rfl,hG,e0,e7,hl,hbd⟩
   have fh:∃ x p4,0<=x/\x<4/\aj A 15 [.ref c.mm 0,.int .i64 4] G=some (.int .i64 x,some ⟨df c p4 H,c.mm⟩):=by
    rcases hG with ⟨rfl,rfl⟩|⟨rfl,rfl⟩
    ·exact mJ h 4 ah
    ·obtain⟨x,p4,x0,x1,hx⟩:=mJ (h.set (p':=p3)) 4 ah
     rw[bp] at hx;exact⟨x,p4,x0,x1,hx⟩
   obtain⟨x,p4,x0,x1,fh⟩:=fh;obtain⟨j,hj,rfl⟩:∃ j:Nat,j<4/\x=j:=⟨x.toNat,ah,ah⟩;obtain⟨e,he,ate⟩:=acM hj;have CJ:aF false 1 16 (.slice (strs acc) true) (.slice [[.str e]] true)=some (.slice (strs (acc++[e])) true):=gu ah;have we:(bif decide (c.mm<lo) then c.mm else lo)=c.mm:=by
    rcases hG with ⟨_,rfl⟩|⟨_,rfl⟩
    ·rw[decide_eq_true aZ];rfl
    ·simp
   have fa:=h.jm (p':=p4);simp(disch:=omega)only[aO,aa,simprocAttr,e0,e7,fh,ate,CJ,we,fa,bB,ae9];refine⟨acc++[e],p4,by simp[hl],fun u hu=>?_,rfl,rfl⟩
   rcases auY.1 hu with hu|hu
   ·exact hbd u hu
   ·rw[ava.1 hu];exact he
  ·refine⟨_,H,H.length,0,[b],rfl,.inl ⟨rfl,rfl,rfl⟩,?_⟩
   simp(disch:=omega)only[dr,aa,simprocAttr,strs];exact fun s hs=>by rw[ava.1 hs];exact hb
 obtain⟨r,h1,out,p',h2,h3,rfl⟩:=key;exact⟨out,p',h2,h3,h1⟩
def jC(k:Int):Bool:=decide (k=3\/k=7\/k=8\/k=9\/k=10)
def nR(c1 c2 l m:Int)(w:Bool):Bool:=decide (c1=-2) || decide (0<=c1/\l≠c1) || decide (m≠c2) || !w
def qT(t:Tm):Bool:=nR (bR t.kind t.n t.kids.length).1 (bR t.kind t.n t.kids.length).2 t.kids.length t.names.length (t.names.all isWord)
def rY(t:Tm):Bool:=bif jC t.kind then !(gV t.name) else bif decide (t.kind=2) then !(isWord t.name) else decide (t.name≠[])
def rZ(t:Tm):Bool:=bif decide (t.kind=8\/t.kind=9) then !(isWord t.field) else decide (t.field≠[])
def qU(t:Tm):Bool:=bif decide (t.kind=11) then !(bX (.mk t.wn t.wk)) else (decide (t.wn≠[]) || decide (0<t.wk.length))
def qV(t:Tm):Bool:=bif decide (t.kind=0) then decide (t.n < -1099511627776\/1099511627776<t.n) else bif decide (t.kind=1) then decide (t.n≠0/\t.n≠1) else false
def se(t:Tm):Bool:=decide (t.kind≠0/\t.kind≠1/\t.kind≠4/\t.n≠0)
def ot(t:Tm):Bool:=!(qT t || rY t || rZ t || qU t || qV t || se t)
mutual
def ay:Tm->Bool
 | .mk k n a f wn wk ks ns=>ot (.mk k n a f wn wk ks ns)&&rF ks
def rF:List Tm->Bool
 | []=>true
 | t :: r=>ay t&&rF r
end
def fP(t:Tm):ay t=(ot t&&rF t.kids):=by cases t;rw[ay,Tm.kids]
def dG:∀ l:List Tm,rF l=l.all ay
 | []=>by simp[rF]
 | t :: r=>by simp[rF,dG r]
structure NY (h:Nat) (t:Tm):Prop where
 n:-2199023255552<=t.n/\t.n<=2199023255552
 k:-100<=t.kind/\t.kind<=100
 a:t.name.length<=1100000
 f:t.field.length<=1100000
 w:Fe 3 (.mk t.wn t.wk)
 kl:t.kids.length<=3
 kb:∀ u∈t.kids,RV h u
 nl:t.names.length<=8
 nb:∀ s∈t.names,s.length<=1100000
def RV.out{h:Nat}{t:Tm}(hb:RV (h+1) t):NY h t:=by
 cases hb with
 | mk h k n a f wn wk ks ns h1 hk h2 h3 h4 h5 h6=>exact⟨h1,hk,h2.1,h2.2,h3,h4,h5,h6.1,h6.2⟩
def I8(t:Tm)(H:ae)(s:AS):Prop:=∃ T,s=⟨T,H,H.length,1⟩/\T 1=.lbox 0 [.int .i64 t.kind,.int .i64 t.n,.str t.name,.str t.field,.str t.wn,.slice (aG t.wk) false,.slice (aC t.kids) false,.slice (strs t.names) false]
abbrev jK(H:ae)(b:Bool):bJ->AS->Prop:=done H.length [.tmp 2] (.bool b,none)
def akK{t:Tm}{h:Nat}(hb:NY h t){H:ae}(hf:qT t=true->ay t=false) :
  W A (xh.body.pre 2) { T:=fm [.agg (aK t)],H,lo:=H.length,gen:=0 } (andThen (fun s'=>I8 t H s'/\qT t=false) (jK H (ay t))):=by
 have hc:=SF t H (by have:=hb.kl;omega)
 have hn:=KB t.names H (by have:=hb.nl;omega) (fun s hs=>by have:=hb.nb s hs;omega)
 unfold qT at hf ⊢;unfold I8;rw[ai] at hc ⊢;generalize ay t=pr at hf ⊢;generalize (bR t.kind t.n t.kids.length).1=c1 at hc hf ⊢;generalize (bR t.kind t.n t.kids.length).2=c2 at hc hf ⊢;generalize t.names.all isWord=aw at hn hf ⊢;have Ft:=hb.kl;have uF:=hb.nl;unfold xh;simp only[aH.pre];unfold nR at hf ⊢
 by_cases a1:c1=-2
 ·have e:=hf (by simp[a1])
  simp(disch:=omega)only[aO,aa,simprocAttr,hc,a1,e,jK]
 by_cases a2:0<=c1
 ·by_cases a3:(t.kids.length:Int)=c1
  ·by_cases a4:(t.names.length:Int)=c2
   ·cases aw with
    | false =>
     have e:=hf (by simp)
     simp(disch:=omega)only[aO,aa,simprocAttr,hc,cR,bG,a3,a4,hn,e,jK]
    | true =>
     simp(disch:=omega)only[aO,aa,simprocAttr,hc,cR,bG,a3,a4,hn,jK];exact⟨⟨_,rfl,jd⟩,by simp[a1]⟩
   ·have e:=hf (by simp[a4])
    simp(disch:=omega)only[aO,aa,simprocAttr,hc,cR,bG,a3,e,jK]
  ·have e:=hf (by simp[a2,a3])
   simp(disch:=omega)only[aO,aa,simprocAttr,hc,cR,e,jK]
 ·by_cases a4:(t.names.length:Int)=c2
  ·cases aw with
   | false =>
    have e:=hf (by simp)
    simp(disch:=omega)only[aO,aa,simprocAttr,hc,bG,a2,a4,hn,e,jK]
   | true =>
    simp(disch:=omega)only[aO,aa,simprocAttr,hc,bG,a2,a4,hn,jK];exact⟨⟨_,rfl,jd⟩,by simp[a1]⟩
  ·have e:=hf (by simp[a4])
   simp(disch:=omega)only[aO,aa,simprocAttr,hc,bG,a2,e,jK]
def akL{t:Tm}{h:Nat}(hb:NY h t){H:ae}(hf:rY t=true->ay t=false)(s:AS)(hs:I8 t H s) :
  W A ((xh.body.post 2).pre 1) s (andThen (fun s'=>I8 t H s'/\rY t=false) (jK H (ay t))):=by
 obtain⟨T,rfl,e1⟩:=hs;unfold rY at hf ⊢;unfold I8;generalize ay t=pr at hf ⊢;have hq:=Vn t.name H (by have:=hb.a;omega)
 have hw:=qx t.name H (by have:=hb.a;omega)
 generalize gV t.name=q at hq hf ⊢;generalize isWord t.name=w at hw hf ⊢;unfold xh;simp only[aH.pre,aH.post]
 by_cases ty:t.kind=3\/t.kind=7\/t.kind=8\/t.kind=9\/t.kind=10
 ·have et:jC t.kind=true:=decide_eq_true ty
  rw[et] at hf ⊢
  rcases ty with ty|ty|ty|ty|ty
  all_goals
   cases q with
   | false =>
    have e:=hf rfl;simp(disch:=omega)only[aO,aa,simprocAttr,e1,ty,hq,e,jK]
   | true =>
    simp(disch:=omega)only[aO,aa,simprocAttr,e1,ty,hq,jK]
    exact⟨_,rfl,by first|(simp(disch:=omega)only[dr,aa,simprocAttr,e1];done)|(simp(disch:=omega)only[dr,aa,simprocAttr,e1,ty];done)|(simp(disch:=omega)only[dr,aa,simprocAttr,e1,k2];done)|(simp(disch:=omega)only[dr,aa,simprocAttr,e1,k0];done)|(simp(disch:=omega)only[dr,aa,simprocAttr,e1,k1];done)|(simp(disch:=omega)only[dr,aa,simprocAttr,e1,kk];done)⟩
 ·have et:jC t.kind=false:=av1 ty
  rw[et] at hf ⊢
  by_cases k2:t.kind=2
  ·rw[decide_eq_true k2] at hf ⊢
   cases w with
   | false =>
    have e:=hf rfl;simp(disch:=omega)only[aO,aa,simprocAttr,e1,k2,hw,e,jK]
   | true =>
    simp(disch:=omega)only[aO,aa,simprocAttr,e1,k2,hw,jK]
    exact⟨_,rfl,by first|(simp(disch:=omega)only[dr,aa,simprocAttr,e1];done)|(simp(disch:=omega)only[dr,aa,simprocAttr,e1];done)|(simp(disch:=omega)only[dr,aa,simprocAttr,e1,k2];done)|(simp(disch:=omega)only[dr,aa,simprocAttr,e1,k0];done)|(simp(disch:=omega)only[dr,aa,simprocAttr,e1,k1];done)|(simp(disch:=omega)only[dr,aa,simprocAttr,e1,kk];done)⟩
  ·rw[av1 k2] at hf ⊢
   by_cases na:t.name=[]
   ·have en:(t.name==[])=true:=by rw[na];rfl
    simp(disch:=omega)only[aO,aa,simprocAttr,e1,en,bne,jK]
    exact⟨⟨_,rfl,by first|(simp(disch:=omega)only[dr,aa,simprocAttr,e1];done)|(simp(disch:=omega)only[dr,aa,simprocAttr,e1,ty];done)|(simp(disch:=omega)only[dr,aa,simprocAttr,e1,k2];done)|(simp(disch:=omega)only[dr,aa,simprocAttr,e1,k0];done)|(simp(disch:=omega)only[dr,aa,simprocAttr,e1,k1];done)|(simp(disch:=omega)only[dr,aa,simprocAttr,e1,kk];done)⟩,by simp[na]⟩
   ·have en:(t.name==[])=false:=cT na
    have e:=hf (by simp[na])
    simp(disch:=omega)only[aO,aa,simprocAttr,e1,en,bne,e,jK]
def akM{t:Tm}{h:Nat}(hb:NY h t){H:ae}(hf:rZ t=true->ay t=false)(s:AS)(hs:I8 t H s) :
  W A (((xh.body.post 2).post 1).pre 1) s (andThen (fun s'=>I8 t H s'/\rZ t=false) (jK H (ay t))):=by
 obtain⟨T,rfl,e1⟩:=hs;unfold rZ at hf ⊢;unfold I8;generalize ay t=pr at hf ⊢;have hw:=qx t.field H (by have:=hb.f;omega)
 generalize isWord t.field=w at hw hf ⊢;unfold xh;simp only[aH.pre,aH.post]
 by_cases ty:t.kind=8\/t.kind=9
 ·rw[decide_eq_true ty] at hf ⊢
  rcases ty with ty|ty
  all_goals
   cases w with
   | false =>
    have e:=hf rfl;simp(disch:=omega)only[aO,aa,simprocAttr,e1,ty,hw,e,jK]
   | true =>
    simp(disch:=omega)only[aO,aa,simprocAttr,e1,ty,hw,jK]
    exact⟨_,rfl,by first|(simp(disch:=omega)only[dr,aa,simprocAttr,e1];done)|(simp(disch:=omega)only[dr,aa,simprocAttr,e1,ty];done)|(simp(disch:=omega)only[dr,aa,simprocAttr,e1,k2];done)|(simp(disch:=omega)only[dr,aa,simprocAttr,e1,k0];done)|(simp(disch:=omega)only[dr,aa,simprocAttr,e1,k1];done)|(simp(disch:=omega)only[dr,aa,simprocAttr,e1,kk];done)⟩
 ·rw[av1 ty] at hf ⊢
  by_cases na:t.field=[]
  ·have en:(t.field==[])=true:=by rw[na];rfl
   simp(disch:=omega)only[aO,aa,simprocAttr,e1,en,jK]
   exact⟨⟨_,rfl,by first|(simp(disch:=omega)only[dr,aa,simprocAttr,e1];done)|(simp(disch:=omega)only[dr,aa,simprocAttr,e1,ty];done)|(simp(disch:=omega)only[dr,aa,simprocAttr,e1,k2];done)|(simp(disch:=omega)only[dr,aa,simprocAttr,e1,k0];done)|(simp(disch:=omega)only[dr,aa,simprocAttr,e1,k1];done)|(simp(disch:=omega)only[dr,aa,simprocAttr,e1,kk];done)⟩,by simp[na]⟩
  ·have en:(t.field==[])=false:=cT na
   have e:=hf (by simp[na])
   simp(disch:=omega)only[aO,aa,simprocAttr,e1,en,e,jK]
def akN{t:Tm}{h:Nat}(hb:NY h t){H:ae}(hf:qU t=true->ay t=false)(s:AS)(hs:I8 t H s) :
  W A ((((xh.body.post 2).post 1).post 1).pre 0) s (andThen (fun s'=>I8 t H s'/\qU t=false) (jK H (ay t))):=by
 obtain⟨T,rfl,e1⟩:=hs;unfold qU at hf ⊢;unfold I8;generalize ay t=pr at hf ⊢;have hw:aj A 80 [.agg [.str t.wn,.slice (aG t.wk) false]] H=some (.bool (bX (.mk t.wn t.wk)),none):=by
  have:=Ac 3 (.mk t.wn t.wk) H hb.w
  rwa [gR] at this
 have hwk:t.wk.length<=1:=hb.w.2.1;generalize bX (.mk t.wn t.wk)=w at hw hf ⊢;unfold xh;simp only[aH.pre,aH.post]
 by_cases ty:t.kind=11
 ·rw[decide_eq_true ty] at hf ⊢
  cases w with
  | false =>
   have e:=hf rfl;simp(disch:=omega)only[aO,aa,simprocAttr,e1,ty,hw,e,jK]
  | true =>
   simp(disch:=omega)only[aO,aa,simprocAttr,e1,ty,hw,jK]
   exact⟨_,rfl,by first|(simp(disch:=omega)only[dr,aa,simprocAttr,e1];done)|(simp(disch:=omega)only[dr,aa,simprocAttr,e1,ty];done)|(simp(disch:=omega)only[dr,aa,simprocAttr,e1,k2];done)|(simp(disch:=omega)only[dr,aa,simprocAttr,e1,k0];done)|(simp(disch:=omega)only[dr,aa,simprocAttr,e1,k1];done)|(simp(disch:=omega)only[dr,aa,simprocAttr,e1,kk];done)⟩
 ·rw[av1 ty] at hf ⊢
  by_cases na:t.wn=[]
  ·have en:(t.wn==[])=true:=by rw[na];rfl
   by_cases nk:0<t.wk.length
   ·have e:=hf (by simp[nk])
    simp(disch:=omega)only[aO,aa,simprocAttr,e1,en,bne,ig,e,jK]
   ·simp(disch:=omega)only[aO,aa,simprocAttr,e1,en,bne,ig,jK]
    exact⟨⟨_,rfl,by first|(simp(disch:=omega)only[dr,aa,simprocAttr,e1];done)|(simp(disch:=omega)only[dr,aa,simprocAttr,e1,ty];done)|(simp(disch:=omega)only[dr,aa,simprocAttr,e1,k2];done)|(simp(disch:=omega)only[dr,aa,simprocAttr,e1,k0];done)|(simp(disch:=omega)only[dr,aa,simprocAttr,e1,k1];done)|(simp(disch:=omega)only[dr,aa,simprocAttr,e1,kk];done)⟩,by simp[na,nk]⟩
  ·have en:(t.wn==[])=false:=cT na
   have e:=hf (by simp[na])
   simp(disch:=omega)only[aO,aa,simprocAttr,e1,en,bne,e,jK]
def akO{t:Tm}{h:Nat}(hb:NY h t){H:ae}(hf:qV t=true->ay t=false)(s:AS)(hs:I8 t H s) :
  W A (((((xh.body.post 2).post 1).post 1).post 0).pre 0) s (andThen (fun s'=>I8 t H s'/\qV t=false) (jK H (ay t))):=by
 obtain⟨T,rfl,e1⟩:=hs;unfold qV at hf ⊢;unfold I8;generalize ay t=pr at hf ⊢;have hn:=hb.n;unfold xh;simp only[aH.pre,aH.post]
 by_cases k0:t.kind=0
 ·rw[decide_eq_true k0] at hf ⊢
  by_cases a1:t.n < -1099511627776
  ·have e:=hf (by simp[a1])
   simp(disch:=omega)only[aO,aa,simprocAttr,e1,k0,e,jK]
  by_cases a2:1099511627776<t.n
  ·have e:=hf (by simp[a2])
   simp(disch:=omega)only[aO,aa,simprocAttr,e1,k0,e,jK]
  ·simp(disch:=omega)only[aO,aa,simprocAttr,e1,k0,jK]
   exact⟨⟨_,rfl,by first|(simp(disch:=omega)only[dr,aa,simprocAttr,e1];done)|(simp(disch:=omega)only[dr,aa,simprocAttr,e1,ty];done)|(simp(disch:=omega)only[dr,aa,simprocAttr,e1,k2];done)|(simp(disch:=omega)only[dr,aa,simprocAttr,e1,k0];done)|(simp(disch:=omega)only[dr,aa,simprocAttr,e1,k1];done)|(simp(disch:=omega)only[dr,aa,simprocAttr,e1,kk];done)⟩,dw⟩
 rw[av1 k0] at hf ⊢
 by_cases k1:t.kind=1
 ·rw[decide_eq_true k1] at hf ⊢
  by_cases a0:t.n=0
  ·simp(disch:=omega)only[aO,aa,simprocAttr,e1,k1,jK]
   exact⟨⟨_,rfl,by first|(simp(disch:=omega)only[dr,aa,simprocAttr,e1];done)|(simp(disch:=omega)only[dr,aa,simprocAttr,e1,ty];done)|(simp(disch:=omega)only[dr,aa,simprocAttr,e1,k2];done)|(simp(disch:=omega)only[dr,aa,simprocAttr,e1];done)|(simp(disch:=omega)only[dr,aa,simprocAttr,e1,k1];done)|(simp(disch:=omega)only[dr,aa,simprocAttr,e1,kk];done)⟩,by simp[a0]⟩
  by_cases a1:t.n=1
  ·simp(disch:=omega)only[aO,aa,simprocAttr,e1,k1,jK]
   exact⟨⟨_,rfl,by first|(simp(disch:=omega)only[dr,aa,simprocAttr,e1];done)|(simp(disch:=omega)only[dr,aa,simprocAttr,e1,ty];done)|(simp(disch:=omega)only[dr,aa,simprocAttr,e1,k2];done)|(simp(disch:=omega)only[dr,aa,simprocAttr,e1];done)|(simp(disch:=omega)only[dr,aa,simprocAttr,e1,k1];done)|(simp(disch:=omega)only[dr,aa,simprocAttr,e1,kk];done)⟩,by simp[a1]⟩
  ·have e:=hf (by simp[a0,a1])
   simp(disch:=omega)only[aO,aa,simprocAttr,e1,k1,e,jK]
 ·rw[av1 k1] at hf ⊢
  simp(disch:=omega)only[aO,aa,simprocAttr,e1,jK]
  exact⟨_,rfl,by first|(simp(disch:=omega)only[dr,aa,simprocAttr,e1];done)|(simp(disch:=omega)only[dr,aa,simprocAttr,e1,ty];done)|(simp(disch:=omega)only[dr,aa,simprocAttr,e1,k2];done)|(simp(disch:=omega)only[dr,aa,simprocAttr,e1,k0];done)|(simp(disch:=omega)only[dr,aa,simprocAttr,e1,k1];done)|(simp(disch:=omega)only[dr,aa,simprocAttr,e1,kk];done)⟩
def akP{t:Tm}{h:Nat}(hb:NY h t){H:ae}(hf:se t=true->ay t=false)(s:AS)(hs:I8 t H s) :
  W A ((((((xh.body.post 2).post 1).post 1).post 0).post 0).pre 0) s (andThen (fun s'=>I8 t H s'/\se t=false) (jK H (ay t))):=by
 obtain⟨T,rfl,e1⟩:=hs;unfold se at hf ⊢;unfold I8;generalize ay t=pr at hf ⊢;unfold xh;simp only[aH.pre,aH.post]
 by_cases kk:t.kind=0\/t.kind=1\/t.kind=4
 ·rcases kk with kk|kk|kk
  all_goals
   simp(disch:=omega)only[aO,aa,simprocAttr,e1,kk,jK]
   exact⟨⟨_,rfl,by first|(simp(disch:=omega)only[dr,aa,simprocAttr,e1];done)|(simp(disch:=omega)only[dr,aa,simprocAttr,e1,ty];done)|(simp(disch:=omega)only[dr,aa,simprocAttr,e1,k2];done)|(simp(disch:=omega)only[dr,aa,simprocAttr,e1,k0];done)|(simp(disch:=omega)only[dr,aa,simprocAttr,e1,k1];done)|(simp(disch:=omega)only[dr,aa,simprocAttr,e1,kk];done)⟩,ag⟩
 ·by_cases a0:t.n=0
  ·simp(disch:=omega)only[aO,aa,simprocAttr,e1,jK]
   exact⟨⟨_,rfl,by first|(simp(disch:=omega)only[dr,aa,simprocAttr,e1];done)|(simp(disch:=omega)only[dr,aa,simprocAttr,e1,ty];done)|(simp(disch:=omega)only[dr,aa,simprocAttr,e1,k2];done)|(simp(disch:=omega)only[dr,aa,simprocAttr,e1,k0];done)|(simp(disch:=omega)only[dr,aa,simprocAttr,e1,k1];done)|(simp(disch:=omega)only[dr,aa,simprocAttr,e1,kk];done)⟩,by simp[a0]⟩
  ·have e:=hf (by simp[a0];omega)
   simp(disch:=omega)only[aO,aa,simprocAttr,e1,e,jK]
def nD{t:Tm}(h:ot t=false):ay t=false:=by rw[fP,h,avk]
def GR:∀ (h:Nat) (t:Tm) (H:ae),RV h t->aj A 82 [.agg (aK t)] H=some (.bool (ay t),none)
 | 0,t,H,hb=>by cases hb
 | h+1,t,H,hb=>by
  have ih:=GR h;have hF:=hb.out;refine cB (fn:=xh) rfl rfl rfl ?_;refine im 2 _ (akK hF fun hx=>nD (by unfold ot;rw[hx];rfl)) ?_
  rintro s1 ⟨qa,b1⟩
  refine im 1 _ (akL hF (fun hx=>nD (by unfold ot;rw[hx];simp)) s1 qa) ?_
  rintro s2 ⟨xe,b2⟩
  refine im 1 _ (akM hF (fun hx=>nD (by unfold ot;rw[hx];simp)) s2 xe) ?_
  rintro s3 ⟨hs3,b3⟩
  refine im 0 _ (akN hF (fun hx=>nD (by unfold ot;rw[hx];simp)) s3 hs3) ?_
  rintro s4 ⟨hs4,b4⟩
  refine im 0 _ (akO hF (fun hx=>nD (by unfold ot;rw[hx];simp)) s4 hs4) ?_
  rintro s5 ⟨hs5,b5⟩
  refine im 0 _ (akP hF (fun hx=>nD (by unfold ot;rw[hx];simp)) s5 hs5) ?_
  rintro s6 ⟨⟨T,rfl,e1⟩,b6⟩
  have ho:ot t=true:=by unfold ot;rw[b1,b2,b3,b4,b5,b6];rfl
  have hp:ay t=t.kids.all ay:=by rw[fP,ho,avv,dG]
  rw[hp];have Ft:=hF.kl;unfold xh;simp only[aH.post];simp(disch:=omega)only[aO,aa,simprocAttr];refine cj t.kids.length 0 (fun i s=>∃ T,s=⟨T,H,H.length,1⟩/\T 1=.lbox 0 [.int .i64 t.kind,.int .i64 t.n,.str t.name,.str t.field,.str t.wn,.slice (aG t.wk) false,.slice (aC t.kids) false,.slice (strs t.names) false]/\T 7=.int .i64 i/\t.kids.all ay=(t.kids.drop i).all ay)
   (fun s=>∃ T,s=⟨T,H,H.length,1⟩/\t.kids.all ay=true) (fun s=>∃ T,s=⟨T,H,H.length,1⟩/\T 2=.bool false/\t.kids.all ay=false) ?_ ?_ ?_ 0 _ (Nat.zero_le _) ?_
  ·rintro i st hi ⟨T,rfl,e1,e7,hc⟩
   by_cases aZ:i<t.kids.length
   ·have hx:=auS aZ
    have hd:=avf aZ;have hm:=avj aZ;generalize t.kids[i]=u at hx hd hm;have hu:=ih u H (hF.kb u hm);have gb:=DT hx;rw[ai] at hu gb;rw[hd,List.all_cons] at hc;cases OF:ay u with
    | false =>
     rw[OF] at hu hc;simp(disch:=omega)only[aO,aa,simprocAttr,e1,e7,cR,gb,hu];exact⟨_,rfl,jd,by rw[hc];rfl⟩
    | true =>
     rw[OF] at hu hc;simp(disch:=omega)only[aO,aa,simprocAttr,e1,e7,cR,gb,hu];exact⟨aZ,_,rfl,fY e1,jd,by rw[hc,avv]⟩
   ·have e:t.kids.drop i=[]:=List.drop_eq_nil_of_le (by omega)
    rw[e,List.all_nil] at hc;simp(disch:=omega)only[aO,aa,simprocAttr,e1,e7,cR];exact⟨_,rfl,hc⟩
  ·rintro st ⟨T,rfl,hc⟩
   exact nx hc
  ·rintro st ⟨T,rfl,h2,hc⟩
   exact Lz h2 hc
  ·exact⟨_,rfl,fY e1,jd,by simp⟩
def mD(a l:List aB)(x y:aB)(H:ae)(ha:a.length<=10000000)(hl:l.length<=10000000)(o o' : Bool) :
  aj A 84 [.slice (strs a) false,.str x,.slice (strs l) false,.str y] H=some (.slice (strs (a++[x]++l++[y])) true,none):=by
 have h1:aF false 1 16 (.slice [] true) (.slice (strs a) false)=some (.slice (strs a) true):=cx (l:=[]) dw;have h2:aF false 1 16 (.slice (strs a) true) (.slice [[.str x]] true)=some (.slice (strs (a++[x])) true):=gu ah;have h3:aF false 1 16 (.slice (strs (a++[x])) true) (.slice (strs l) false)=some (.slice (strs (a++[x]++l)) true):=cx dw;have h4:aF false 1 16 (.slice (strs (a++[x]++l)) true) (.slice [[.str y]] true)=some (.slice (strs (a++[x]++l++[y])) true):=gu dw;generalize a++[x]++l++[y]=l3 at h4 ⊢;generalize a++[x]++l=l2 at h3 h4;generalize a++[x]=l1 at h2 h3;refine cW ajt.eq_1 ?_;exact vK4 h1 h2 h3 h4
def lR(k:Nat):aB:=gO (k+1) k []
def ye:∀ (f g n:Nat) (acc:aB),n<f->n<g->gO f n acc=gO g n acc
 | 0,_,n,acc,h,_=>ah
 | f+1,0,n,acc,_,h=>ah
 | f+1,g+1,n,acc,h,h2=>by
  unfold gO;cases hn:Nat.blt n 10 with
  | true=>rfl
  | false =>
   have:¬ n<10:=fun h=>by
    have:Nat.blt n 10=true:=by simpa [avh] using h
    rw[hn] at this;cases this
   simp only[cond_false];exact ye f g (n / 10) _ ah ah
theorem Co(k:Nat)(H:ae)(hk:k<=2199023255552):aj A 43 [.int .i64 k] H=some (.str (lR k),none):=by
 refine cW ajj.eq_1 ?_;simp(disch:=omega)only[aO,aa,simprocAttr];refine oD 0 (fun m s=>∃ T acc,s=⟨T,H,H.length,0⟩/\m<=2199023255552/\T 0=.int .i64 m/\T 3=.str acc/\acc.length+m<=k/\lR k=gO (m+1) m acc)
  (fun s=>∃ T acc m,s=⟨T,H,H.length,0⟩/\m<10/\T 0=.int .i64 (m:Nat)/\T 3=.str acc/\acc.length+m<=k/\lR k=UInt8.ofNat (48+m) :: acc) (fun _=>False) ?_ ?_ (fun _ h=>h.elim) k _ ?_
 ·rintro m s ⟨T,acc,rfl,hm,e0,e3,hl,hc⟩
  by_cases h9:9<m
  ·have hb:Nat.blt m 10=false:=by cases h:Nat.blt m 10 with|false=>rfl|true=>simp[avh] at h;omega
   have e:gO (m+1) m acc=gO (m / 10+1) (m / 10) (UInt8.ofNat (48+m % 10) :: acc):=by
    rw[gO,hb,cond_false];exact ye _ _ _ _ ah ah
   rw[e] at hc;simp(disch:=omega)only[aO,aa,simprocAttr,e0,e3,jU,zb,Wj,mz,nS,bytesOf];have em:(48+(m:Int) % 10).toNat=48+m % 10:=ah;have ed:(m:Int) / 10=((m / 10:Nat):Int):=ah;exact⟨m / 10,ah,_,UInt8.ofNat (48+m % 10) :: acc,rfl,ah,fY ed,fY em,ko,hc⟩
  ·have hb:Nat.blt m 10=true:=by simp[avh];omega
   have e:gO (m+1) m acc=UInt8.ofNat (48+m) :: acc:=by rw[gO,hb,cond_true]
   rw[e] at hc;simp(disch:=omega)only[aO,aa,simprocAttr,e0];exact⟨_,acc,m,rfl,ah,fY e0,fY e3,hl,hc⟩
 ·rintro s ⟨T,acc,m,rfl,hm,e0,e3,hl,hc⟩
  simp(disch:=omega)only[aO,aa,simprocAttr,e0,e3,Wj,mz,nS,bytesOf]
  grind
 ·exact⟨_,[],rfl,hk,jd,jd,ag,rfl⟩
def gH(p:List aB × Int)(least:Int):List aB:=if p.2<least then [[40]]++p.1++[[41]] else p.1
def av:List (List aB)->List aB
 | []=>[]
 | [a]=>a
 | a :: b :: r=>a++[[44]]++av (b :: r)
def jH(x:List aB):∀ l:List (List aB),av (l++[x])=if l=[] then x else av l++[[44]]++x
 | []=>by simp[av]
 | [a]=>by simp[av]
 | a :: b :: r=>by
  have:=jH x (b :: r)
  simp only[avU,av] at this ⊢;rw[this];simp
def jl:List aB->List (List aB × Int)->List (List aB)
 | p :: q :: ns,y :: ys=>([p,q,[45,62]]++y.1) :: jl ns ys
 | _,_=>[]
def gn(k n:Int)(a f:aB)(w:Wd)(ns:List aB)(tl:List (List aB × Int)):List aB :=
 if k=0 then (if n<0 then [[45],lR (-n).toNat] else [lR n.toNat])
 else if k=1 then [if n=0 then [102,97,108,115,101] else [116,114,117,101]]
 else if k=2 then [a]
 else if k=3 then aJ a++[[40]]++av (tl.map (·.1))++[[41]]
 else if k=4 then (match tl with
  | [x]=>[(da n).1]++gH x 7
  | [x,y]=>gH x (if (da n).2=3 then 4 else (da n).2)++[(da n).1]++gH y ((da n).2+1)
  | _=>[])
 else if k=5 then (match tl with|[x,y,z]=>[[105,102]]++x.1++[[116,104,101,110]]++y.1++[[101,108,115,101]]++z.1|_=>[])
 else if k=6 then (match tl,ns with|[x,y],[s]=>[[108,101,116],s,[61]]++x.1++[[105,110]]++y.1|_,_=>[])
 else if k=7 then aJ a++[[123]]++av (List.zipWith (fun s (x:List aB × Int)=>[s,[61]]++x.1) ns tl)++[[125]]
 else if k=8 then (match tl with|[x]=>aJ a++[[58],f]++[[91]]++x.1++[[93]]|_=>[])
 else if k=9 then (match tl with|[x]=>aJ a++[[58],f]++[[40]]++x.1++[[41]]|_=>[])
 else if k=10 then (match tl with
  | x :: ys=>[[109,97,116,99,104]]++aJ a++[[40]]++x.1++[[41]]++[[123]]++av (jl ns ys)++[[125]]
  | _=>[])
 else if k=11 then [cS]++[[40]]++bQ w++[[41]]++[[91]]++av (tl.map (·.1))++[[93]]
 else if k=12 then (match tl,ns with|[x,y,z],[s,u]=>[[102,111,108,100],s,[44],u,[61]]++y.1++[[111,118,101,114]]++x.1++[[100,111]]++z.1|_,_=>[])
 else []
mutual
def af:Tm->List aB
 | .mk k n a f wn wk ks ns=>gn k n a f (.mk wn wk) ns (DU ks)
def DU:List Tm->List (List aB × Int)
 | []=>[]
 | t :: r=>(af t,bH t) :: DU r
end
def DV:∀ l:List Tm,DU l=l.map fun t=>(af t,bH t)
 | []=>by simp[DU]
 | t :: r=>by simp[DU,DV r]
def bN(t:Tm):af t=gn t.kind t.n t.name t.field (.mk t.wn t.wk) t.names (t.kids.map fun t=>(af t,bH t)):=by
 cases t;rw[af,DV,Tm.kind,Tm.n,Tm.name,Tm.field,Tm.wn,Tm.wk,Tm.names,Tm.kids]
structure tZ (t:Tm):Prop where
 d:∀ H,aj A 44 [.agg (aK t)] H=some (.slice (strs (af t)) true,none)
 len:(af t).length<=100000
def UC{t:Tm}(h:tZ t)(least:Int)(H:ae):aj A 87 [.agg (aK t),.int .i64 least] H=some (.slice (strs (gH (af t,bH t) least)) true,none):=by
 have h1:=h.d H;have h2:=YE t H;have hl:=h.len;rw[ai] at h1 h2 ⊢;have a1:aF false 1 16 (.slice [[.str [40]]] true) (.slice (strs (af t)) true)=some (.slice (strs ([[40]]++af t)) true):=cx (l:=[[40]]) dw;have a2:aF false 1 16 (.slice (strs ([[40]]++af t)) true) (.slice [[.str [41]]] true)=some (.slice (strs ([[40]]++af t++[[41]])) true):=gu dw;unfold gH;generalize [[40]]++af t++[[41]]=l2 at a2 ⊢;generalize [[40]]++af t=l1 at a1 a2;refine cW ajv.eq_1 ?_
 by_cases hc:bH t<least
 ·rw[if_pos hc]
  exact vK4 h1 h2 a1 a2
 ·rw[if_neg hc]
  exact Lz h1 h2
theorem jj:∀ (l:List (List aB)) (n:Nat),(∀ x∈l,x.length<=n)->(av l).length<=l.length*(n+1)
 | [],_,_=>by simp[av]
 | [a],n,h=>by have:=h a ag;simp only[av,List.length_cons,List.length_nil];omega
 | a :: b :: r,n,h=>by
  have h1:=h a ag;have h2:=jj (b :: r) n (fun x hx=>h x (by simp only[avi] at hx ⊢;exact .inr hx))
  simp only[av,List.length_append,List.length_cons,List.length_nil] at h2 ⊢
  grind
theorem Kt(hl:l.length<=10)(h:∀ t∈l,tZ t)(H:ae):aj A 85 [.slice (aC l) false] H=some (.slice (strs (av (l.map af))) false,none):=by
 refine cW aju.eq_1 ?_;simp(disch:=omega)only[aO,aa,simprocAttr];refine cj l.length 0 (fun i s=>∃ T,s=⟨T,H,H.length,0⟩/\T 0=.slice (aC l) false/\T 3=.slice (strs (av ((l.take i).map af))) true/\T 4=.int .i64 i)
  (fun s=>∃ T,s=⟨T,H,H.length,0⟩/\T 3=.slice (strs (av (l.map af))) true) (fun _=>False) ?_ ?_ (fun _ h=>h.elim) 0 _ (Nat.zero_le _) ?_
 ·rintro i s hi ⟨T,rfl,e0,e3,e4⟩
  by_cases aZ:i<l.length
  ·have hx:=auS aZ
   have hm:=avj aZ;have mO:l.take (i+1)=l.take i++[l[i]]:=by rw[awj,hx];rfl
   generalize l[i]=u at hx hm mO;have hu:=(h u hm).d H;have T6:=(h u hm).len;have gb:=DT hx;rw[ai] at hu gb;have yq:(av ((l.take i).map af)).length<=10*100001:=by
    have h1:=jj ((l.take i).map af) 100000 (fun x hx=>by
     obtain⟨t,ht,rfl⟩:=List.mem_map.1 hx;exact (h t (avL ht)).len)
    grind
   have jX:(l.take (i+1)).map af=(l.take i).map af++[af u]:=by rw[mO];simp
   have hs:=jH (af u) ((l.take i).map af);rw[<- jX] at hs
   by_cases h0:i=0
   ·subst h0
    simp only[avV,avC,awE] at hs e3;have a1:aF false 1 16 (.slice (strs (av [])) true) (.slice (strs (af u)) true)=some (.slice (strs (af u)) true):=cx (l:=[]) dw;simp(disch:=omega)only[aO,aa,simprocAttr,e0,e3,e4,cR,gb,hu,a1];exact⟨aZ,_,rfl,fY e0,by rw[hs];simp(disch:=omega)only[dr,aa,simprocAttr],jd⟩
   ·have dp:¬ ((l.take i).map af=[]):=fun e=>by
     simp_all
    rw[if_neg dp] at hs;generalize av ((l.take i).map af)=acc at e3 yq hs;have a1:aF false 1 16 (.slice (strs acc) true) (.slice [[.str [44]]] true)=some (.slice (strs (acc++[[44]])) true):=gu ah;have a2:aF false 1 16 (.slice (strs (acc++[[44]])) true) (.slice (strs (af u)) true)=some (.slice (strs (acc++[[44]]++af u)) true):=cx dw;generalize acc++[[44]]++af u=l2 at a2 hs;generalize acc++[[44]]=l1 at a1 a2;simp(disch:=omega)only[aO,aa,simprocAttr,e0,e3,e4,cR,gb,hu,a1,a2];exact⟨aZ,_,rfl,fY e0,by rw[hs];simp(disch:=omega)only[dr,aa,simprocAttr],jd⟩
  ·rw[avq ah] at e3
   simp(disch:=omega)only[aO,aa,simprocAttr,e0,e4,cR];exact⟨_,rfl,fY e3⟩
 ·rintro s ⟨T,rfl,e3⟩
  exact nx e3
 ·exact⟨_,rfl,jd,by simp(disch:=omega)only[dr,aa,simprocAttr,av,strs],jd⟩
section
structure Fb (t:Tm):Prop where
 b1:qT t=false
 b2:rY t=false
 b3:rZ t=false
 b4:qU t=false
 b5:qV t=false
 b6:se t=false
 kids:∀ u∈t.kids,ay u=true
def vy{t:Tm}(h:ay t=true):Fb t:=by
 rw[fP,auT,dG] at h;obtain⟨h1,h2⟩:=h;simp only[ot,avg,avz] at h1;obtain⟨⟨⟨⟨⟨a1,a2⟩,a3⟩,a4⟩,a5⟩,a6⟩:=h1;exact⟨a1,a2,a3,a4,a5,a6,fun u hu=>auX.1 h2 u hu⟩
def gJ{t:Tm}(h:Fb t){c1 c2:Int}(hc:bR t.kind t.n t.kids.length=(c1,c2)):c1≠-2/\(0<=c1->(t.kids.length:Int)=c1)/\(t.names.length:Int)=c2:=by
 have h1:=h.b1;unfold qT at h1;rw[hc] at h1;simp only[nR,avz,ave,not_and,Decidable.not_not] at h1;exact⟨h1.1.1.1,h1.1.1.2,h1.1.2⟩
def yW{t:Tm}(h:Fb t):0<=t.kind/\t.kind<=12:=by
 rcases uK t.kind with e|e|e|e|e|e|e|e|e|e|e|e|e|e
 all_goals first|omega|skip
 have hc:bR t.kind t.n t.kids.length=(-2,0):=by
  unfold bR
  repeat rw[if_neg ah]
 exact absurd rfl (gJ h hc).1
def Bm{l:List α}(h:l.length=1):∃ a,l=[a]:=by
 match l,h with
 | [a],_=>exact⟨a,rfl⟩
def xp{l:List α}(h:l.length=2):∃ a b,l=[a,b]:=by
 match l,h with
 | [a,b],_=>exact⟨a,b,rfl⟩
def M3{l:List α}(h:l.length=3):∃ a b c,l=[a,b,c]:=by
 match l,h with
 | [a,b,c],_=>exact⟨a,b,c,rfl⟩
section
variable {t:Tm}{h:Nat}(hF:NY h t)(hO:Fb t)(hK:∀ u∈t.kids,tZ u)(H:ae)
include hF hO hK
def tk0(hk:t.kind=0):aj A 44 [.agg (aK t)] H=some (.slice (strs (af t)) true,none):=by
 have _:=hF;have _:=hK;have hn:=hO.b5;unfold qV at hn;rw[decide_eq_true hk] at hn;simp only[cond_true,ave,not_or,Int.not_lt] at hn;rw[bN,ai];refine cW xg.eq_1 ?_
 by_cases h0:t.n<0
 ·obtain⟨m,hm⟩:∃ m:Nat, -t.n=m:=⟨(-t.n).toNat,ah⟩
  have hm0:0-t.n=m:=ah;have hd:=Co m H ah;have e:gn t.kind t.n t.name t.field (.mk t.wn t.wk) t.names (t.kids.map fun t=>(af t,bH t))=[[45],lR m]:=by
   unfold gn;rw[if_pos hk,if_pos h0,hm];rfl
  rw[e];simp(disch:=omega)only[aO,aa,simprocAttr,hk,hm0,hd,strs]
 ·obtain⟨m,hm⟩:∃ m:Nat,t.n=m:=⟨t.n.toNat,ah⟩
  have hd:=Co m H ah;have e:gn t.kind t.n t.name t.field (.mk t.wn t.wk) t.names (t.kids.map fun t=>(af t,bH t))=[lR m]:=by
   unfold gn;rw[if_pos hk,if_neg h0,hm];rfl
  rw[e];simp(disch:=omega)only[aO,aa,simprocAttr,hk,hm,hd,strs]
def tk2(hk:t.kind=2):aj A 44 [.agg (aK t)] H=some (.slice (strs (af t)) true,none):=by
 have _:=hF;have _:=hO;have _:=hK;rw[bN,ai];refine cW xg.eq_1 ?_;have e:gn t.kind t.n t.name t.field (.mk t.wn t.wk) t.names (t.kids.map fun t=>(af t,bH t))=[t.name]:=by
  rw[hk];rfl
 rw[e];simp(disch:=omega)only[aO,aa,simprocAttr,hk,strs]
def tk3(hk:t.kind=3):aj A 44 [.agg (aK t)] H=some (.slice (strs (af t)) true,none):=by
 have _:=hO;have hq:=vD t.name H (by have:=hF.a;omega)
 have hl:=Kt (l:=t.kids) (by have:=hF.kl;omega) hK H
 have hb:=mD (aJ t.name) (av (t.kids.map af)) [40] [41] H (by have:=lH t.name;omega) (by
  have h1:=jj (t.kids.map af) 100000 (fun x hx=>by obtain⟨u,hu,rfl⟩:=List.mem_map.1 hx;exact (hK u hu).len)
  rw[List.length_map] at h1;have:=hF.kl
  have h2:t.kids.length*(100000+1)<=3*100001:=au6 _ this;omega) true false
 rw[bN,ai];have e:gn t.kind t.n t.name t.field (.mk t.wn t.wk) t.names (t.kids.map fun t=>(af t,bH t))=aJ t.name++[[40]]++av (t.kids.map af)++[[41]]:=by
  rw[hk]
  show aJ t.name++[[40]]++av ((t.kids.map fun t=>(af t,bH t)).map (·.1))++[[41]]=_
  rw[avT];rfl
 rw[e];generalize aJ t.name++[[40]]++av (t.kids.map af)++[[41]]=out at hb ⊢;refine cW xg.eq_1 ?_;simp(disch:=omega)only[aO,aa,simprocAttr,hk,hq,hl,hb]
def tk1(hk:t.kind=1):aj A 44 [.agg (aK t)] H=some (.slice (strs (af t)) true,none):=by
 have _:=hF;have _:=hK;have hn:=hO.b5;unfold qV at hn;rw[av1 (show ¬ t.kind=0 by omega),decide_eq_true hk] at hn
 simp only[cond_true,cond_false,ave,not_and,Decidable.not_not] at hn;rw[bN,ai];refine cW xg.eq_1 ?_
 by_cases h0:t.n=0
 ·have e:gn t.kind t.n t.name t.field (.mk t.wn t.wk) t.names (t.kids.map fun t=>(af t,bH t))=[[102,97,108,115,101]]:=by
   rw[hk,h0];rfl
  rw[e];simp(disch:=omega)only[aO,aa,simprocAttr,hk,h0,strs]
  first|done|rfl
 ·have h1:=hn h0
  have e:gn t.kind t.n t.name t.field (.mk t.wn t.wk) t.names (t.kids.map fun t=>(af t,bH t))=[[116,114,117,101]]:=by
   rw[hk,h1];rfl
  rw[e];simp(disch:=omega)only[aO,aa,simprocAttr,hk,h1,strs]
  first|done|rfl
def tk5(hk:t.kind=5):aj A 44 [.agg (aK t)] H=some (.slice (strs (af t)) true,none):=by
 have _:=hF;have hc:=gJ hO (c1:=3) (c2:=0) (by rw[hk];rfl)
 have hl:=hc.2.1 ah;obtain⟨x,y,z,gG⟩:=M3 (show t.kids.length=3 by omega)
 have hx:=hK x (by rw[gG];simp)
 have hy:=hK y (by rw[gG];simp)
 have hz:=hK z (by rw[gG];simp)
 have dx:=hx.d H;have dy:=hy.d H;have dz:=hz.d H;have lx:=hx.len;have ly:=hy.len;have lz:=hz.len;have kt:aC t.kids=[[.int .i64 x.kind,.int .i64 x.n,.str x.name,.str x.field,.str x.wn,.slice (aG x.wk) false,.slice (aC x.kids) false,.slice (strs x.names) false],
   [.int .i64 y.kind,.int .i64 y.n,.str y.name,.str y.field,.str y.wn,.slice (aG y.wk) false,.slice (aC y.kids) false,.slice (strs y.names) false],
   [.int .i64 z.kind,.int .i64 z.n,.str z.name,.str z.field,.str z.wn,.slice (aG z.wk) false,.slice (aC z.kids) false,.slice (strs z.names) false]]:=by
  rw[gG,aC,aC,aC,aC,ai,ai,ai]
 rw[ai] at dx dy dz;have a1:aF false 1 16 (.slice [[.str [105,102]]] true) (.slice (strs (af x)) true)=some (.slice (strs ([[105,102]]++af x)) true):=cx (l:=[[105,102]]) dw;have a2:aF false 1 16 (.slice (strs ([[105,102]]++af x)) true) (.slice [[.str [116,104,101,110]]] true)=some (.slice (strs ([[105,102]]++af x++[[116,104,101,110]])) true):=gu dw;have a3:aF false 1 16 (.slice (strs ([[105,102]]++af x++[[116,104,101,110]])) true) (.slice (strs (af y)) true)=some (.slice (strs ([[105,102]]++af x++[[116,104,101,110]]++af y)) true):=cx dw;have a4:aF false 1 16 (.slice (strs ([[105,102]]++af x++[[116,104,101,110]]++af y)) true) (.slice [[.str [101,108,115,101]]] true)=some (.slice (strs ([[105,102]]++af x++[[116,104,101,110]]++af y++[[101,108,115,101]])) true):=gu dw;have a5:aF false 1 16 (.slice (strs ([[105,102]]++af x++[[116,104,101,110]]++af y++[[101,108,115,101]])) true) (.slice (strs (af z)) true)=some (.slice (strs ([[105,102]]++af x++[[116,104,101,110]]++af y++[[101,108,115,101]]++af z)) true):=cx dw;have e:af t=[[105,102]]++af x++[[116,104,101,110]]++af y++[[101,108,115,101]]++af z:=by
  rw[bN,hk,gG];rfl
 rw[e,ai];generalize [[105,102]]++af x++[[116,104,101,110]]++af y++[[101,108,115,101]]++af z=l5 at a5 ⊢;generalize [[105,102]]++af x++[[116,104,101,110]]++af y++[[101,108,115,101]]=l4 at a4 a5;generalize [[105,102]]++af x++[[116,104,101,110]]++af y=l3 at a3 a4;generalize [[105,102]]++af x++[[116,104,101,110]]=l2 at a2 a3;generalize [[105,102]]++af x=l1 at a1 a2;refine cW xg.eq_1 ?_;rw[kt];simp(disch:=omega)only[aO,aa,simprocAttr,hk,dx,dy,dz,a1,a2,a3,a4,a5]
end
end
section
section
variable {t:Tm}{h:Nat}(hF:NY h t)(hO:Fb t)(hK:∀ u∈t.kids,tZ u)(H:ae)
include hF hO hK
def tk6(hk:t.kind=6):aj A 44 [.agg (aK t)] H=some (.slice (strs (af t)) true,none):=by
 have _:=hF;have hc:=gJ hO (c1:=2) (c2:=1) (by rw[hk];rfl)
 have hl:=hc.2.1 ah;have uF:=hc.2.2;obtain⟨x,y,gG⟩:=xp (show t.kids.length=2 by omega)
 obtain⟨s,AN⟩:=Bm (show t.names.length=1 by omega)
 have hx:=hK x (by rw[gG];simp)
 have dx:=hx.d H;have lx:=hx.len;have hy:=hK y (by rw[gG];simp)
 have dy:=hy.d H;have ly:=hy.len;have kt:aC t.kids=[[.int .i64 x.kind,.int .i64 x.n,.str x.name,.str x.field,.str x.wn,.slice (aG x.wk) false,.slice (aC x.kids) false,.slice (strs x.names) false],[.int .i64 y.kind,.int .i64 y.n,.str y.name,.str y.field,.str y.wn,.slice (aG y.wk) false,.slice (aC y.kids) false,.slice (strs y.names) false]]:=by
  rw[gG,aC,aC,aC,ai,ai]
 have nt:strs t.names=[[.str s]]:=by rw[AN];rfl
 rw[ai] at dx dy;have a1:aF false 1 16 (.slice [[.str [108,101,116]],[.str s],[.str [61]]] true) (.slice (strs (af x)) true)=some (.slice (strs ([[108,101,116],s,[61]]++af x)) true):=cx (l:=[[108,101,116],s,[61]]) dw;have a2:aF false 1 16 (.slice (strs ([[108,101,116],s,[61]]++af x)) true) (.slice [[.str [105,110]]] true)=some (.slice (strs ([[108,101,116],s,[61]]++af x++[[105,110]])) true):=gu dw;have a3:aF false 1 16 (.slice (strs ([[108,101,116],s,[61]]++af x++[[105,110]])) true) (.slice (strs (af y)) true)=some (.slice (strs ([[108,101,116],s,[61]]++af x++[[105,110]]++af y)) true):=cx dw;have e:af t=[[108,101,116],s,[61]]++af x++[[105,110]]++af y:=by
  rw[bN,hk,gG,AN];rfl
 rw[e,ai];generalize [[108,101,116],s,[61]]++af x++[[105,110]]++af y=q3 at a3 ⊢;generalize [[108,101,116],s,[61]]++af x++[[105,110]]=q2 at a2 a3;generalize [[108,101,116],s,[61]]++af x=q1 at a1 a2;refine cW xg.eq_1 ?_;rw[kt,nt];simp(disch:=omega)only[aO,aa,simprocAttr,hk,dx,dy,a1,a2,a3]
def ao5(hk:t.kind=12):aj A 44 [.agg (aK t)] H=some (.slice (strs (af t)) true,none):=by
 have _:=hF;have hc:=gJ hO (c1:=3) (c2:=2) (by rw[hk];rfl)
 have hl:=hc.2.1 ah;have uF:=hc.2.2;obtain⟨x,y,z,gG⟩:=M3 (show t.kids.length=3 by omega)
 obtain⟨s,u,AN⟩:=xp (show t.names.length=2 by omega)
 have hx:=hK x (by rw[gG];simp)
 have dx:=hx.d H;have lx:=hx.len;have hy:=hK y (by rw[gG];simp)
 have dy:=hy.d H;have ly:=hy.len;have hz:=hK z (by rw[gG];simp)
 have dz:=hz.d H;have lz:=hz.len;have kt:aC t.kids=[[.int .i64 x.kind,.int .i64 x.n,.str x.name,.str x.field,.str x.wn,.slice (aG x.wk) false,.slice (aC x.kids) false,.slice (strs x.names) false],[.int .i64 y.kind,.int .i64 y.n,.str y.name,.str y.field,.str y.wn,.slice (aG y.wk) false,.slice (aC y.kids) false,.slice (strs y.names) false],[.int .i64 z.kind,.int .i64 z.n,.str z.name,.str z.field,.str z.wn,.slice (aG z.wk) false,.slice (aC z.kids) false,.slice (strs z.names) false]]:=by
  rw[gG,aC,aC,aC,aC,ai,ai,ai]
 have nt:strs t.names=[[.str s],[.str u]]:=by rw[AN];rfl
 rw[ai] at dx dy dz;have a1:aF false 1 16 (.slice [[.str [102,111,108,100]],[.str s],[.str [44]],[.str u],[.str [61]]] true) (.slice (strs (af y)) true)=some (.slice (strs ([[102,111,108,100],s,[44],u,[61]]++af y)) true):=cx (l:=[[102,111,108,100],s,[44],u,[61]]) dw;have a2:aF false 1 16 (.slice (strs ([[102,111,108,100],s,[44],u,[61]]++af y)) true) (.slice [[.str [111,118,101,114]]] true)=some (.slice (strs ([[102,111,108,100],s,[44],u,[61]]++af y++[[111,118,101,114]])) true):=gu dw;have a3:aF false 1 16 (.slice (strs ([[102,111,108,100],s,[44],u,[61]]++af y++[[111,118,101,114]])) true) (.slice (strs (af x)) true)=some (.slice (strs ([[102,111,108,100],s,[44],u,[61]]++af y++[[111,118,101,114]]++af x)) true):=cx dw;have a4:aF false 1 16 (.slice (strs ([[102,111,108,100],s,[44],u,[61]]++af y++[[111,118,101,114]]++af x)) true) (.slice [[.str [100,111]]] true)=some (.slice (strs ([[102,111,108,100],s,[44],u,[61]]++af y++[[111,118,101,114]]++af x++[[100,111]])) true):=gu dw;have a5:aF false 1 16 (.slice (strs ([[102,111,108,100],s,[44],u,[61]]++af y++[[111,118,101,114]]++af x++[[100,111]])) true) (.slice (strs (af z)) true)=some (.slice (strs ([[102,111,108,100],s,[44],u,[61]]++af y++[[111,118,101,114]]++af x++[[100,111]]++af z)) true):=cx dw;have e:af t=[[102,111,108,100],s,[44],u,[61]]++af y++[[111,118,101,114]]++af x++[[100,111]]++af z:=by
  rw[bN,hk,gG,AN];rfl
 rw[e,ai];generalize [[102,111,108,100],s,[44],u,[61]]++af y++[[111,118,101,114]]++af x++[[100,111]]++af z=q5 at a5 ⊢;generalize [[102,111,108,100],s,[44],u,[61]]++af y++[[111,118,101,114]]++af x++[[100,111]]=q4 at a4 a5;generalize [[102,111,108,100],s,[44],u,[61]]++af y++[[111,118,101,114]]++af x=q3 at a3 a4;generalize [[102,111,108,100],s,[44],u,[61]]++af y++[[111,118,101,114]]=q2 at a2 a3;generalize [[102,111,108,100],s,[44],u,[61]]++af y=q1 at a1 a2;refine cW xg.eq_1 ?_;rw[kt,nt];simp(disch:=omega)only[aO,aa,simprocAttr,hk,dx,dy,dz,a1,a2,a3,a4,a5]
end
end
section
section
variable {t:Tm}{h:Nat}(hF:NY h t)(hO:Fb t)(hK:∀ u∈t.kids,tZ u)(H:ae)
include hF hO hK
def tk8(hk:t.kind=8):aj A 44 [.agg (aK t)] H=some (.slice (strs (af t)) true,none):=by
 have hc:=gJ hO (c1:=1) (c2:=0) (by rw[hk];rfl)
 have hl:=hc.2.1 ah;obtain⟨x,gG⟩:=Bm (show t.kids.length=1 by omega)
 have hx:=hK x (by rw[gG];simp)
 have dx:=hx.d H;have lx:=hx.len;have kt:aC t.kids=[[.int .i64 x.kind,.int .i64 x.n,.str x.name,.str x.field,.str x.wn,.slice (aG x.wk) false,.slice (aC x.kids) false,.slice (strs x.names) false]]:=by
  rw[gG,aC,aC,ai]
 rw[ai] at dx;have hq:=vD t.name H (by have:=hF.a;omega)
 have hql:=lH t.name;have a1:aF false 1 16 (.slice (strs (aJ t.name)) true) (.slice [[.str [58]],[.str t.field]] true)=some (.slice (strs (aJ t.name++[[58],t.field])) true):=LR ah;have hb:=mD (aJ t.name++[[58],t.field]) (af x) [91] [93] H dw ah true true;have e:af t=aJ t.name++[[58],t.field]++[[91]]++af x++[[93]]:=by
  rw[bN,hk,gG];rfl
 rw[e,ai];generalize aJ t.name++[[58],t.field]++[[91]]++af x++[[93]]=q2 at hb ⊢;generalize aJ t.name++[[58],t.field]=q1 at a1 hb;refine cW xg.eq_1 ?_;rw[kt];exact vK5 hk dx hq a1 hb
def tk9(hk:t.kind=9):aj A 44 [.agg (aK t)] H=some (.slice (strs (af t)) true,none):=by
 have hc:=gJ hO (c1:=1) (c2:=0) (by rw[hk];rfl)
 have hl:=hc.2.1 ah;obtain⟨x,gG⟩:=Bm (show t.kids.length=1 by omega)
 have hx:=hK x (by rw[gG];simp)
 have dx:=hx.d H;have lx:=hx.len;have kt:aC t.kids=[[.int .i64 x.kind,.int .i64 x.n,.str x.name,.str x.field,.str x.wn,.slice (aG x.wk) false,.slice (aC x.kids) false,.slice (strs x.names) false]]:=by
  rw[gG,aC,aC,ai]
 rw[ai] at dx;have hq:=vD t.name H (by have:=hF.a;omega)
 have hql:=lH t.name;have a1:aF false 1 16 (.slice (strs (aJ t.name)) true) (.slice [[.str [58]],[.str t.field]] true)=some (.slice (strs (aJ t.name++[[58],t.field])) true):=LR ah;have hb:=mD (aJ t.name++[[58],t.field]) (af x) [40] [41] H dw ah true true;have e:af t=aJ t.name++[[58],t.field]++[[40]]++af x++[[41]]:=by
  rw[bN,hk,gG];rfl
 rw[e,ai];generalize aJ t.name++[[58],t.field]++[[40]]++af x++[[41]]=q2 at hb ⊢;generalize aJ t.name++[[58],t.field]=q1 at a1 hb;refine cW xg.eq_1 ?_;rw[kt];exact vK5 hk dx hq a1 hb
def ao4(hk:t.kind=11):aj A 44 [.agg (aK t)] H=some (.slice (strs (af t)) true,none):=by
 have hp:bX (.mk t.wn t.wk)=true:=by
  have h4:=hO.b4;unfold qU at h4;rw[decide_eq_true hk] at h4
  simpa using h4
 have hw:=IM 3 (.mk t.wn t.wk) H ah hF.w hp;rw[gR] at hw;have hwl:=mM 3 (.mk t.wn t.wk) hF.w;have hl:=Kt (l:=t.kids) (by have:=hF.kl;omega) hK H
 have oT:(av (t.kids.map af)).length<=3*100001:=by
  have h1:=jj (t.kids.map af) 100000 (fun x hx=>by obtain⟨u,hu,rfl⟩:=List.mem_map.1 hx;exact (hK u hu).len)
  rw[List.length_map] at h1;exact avx h1 (au6 _ hF.kl)
 have b1:=mD [cS] (bQ (.mk t.wn t.wk)) [40] [41] H ag ah true true;have b2:=mD ([cS]++[[40]]++bQ (.mk t.wn t.wk)++[[41]]) (av (t.kids.map af)) [91] [93] H dw ah true true;have e:af t=[cS]++[[40]]++bQ (.mk t.wn t.wk)++[[41]]++[[91]]++av (t.kids.map af)++[[93]]:=by
  rw[bN,hk]
  show [cS]++[[40]]++bQ (.mk t.wn t.wk)++[[41]]++[[91]]++av ((t.kids.map fun t=>(af t,bH t)).map (·.1))++[[93]]=_
  rw[avT];rfl
 rw[e,ai];generalize [cS]++[[40]]++bQ (.mk t.wn t.wk)++[[41]]++[[91]]++av (t.kids.map af)++[[93]]=q2 at b2 ⊢;generalize [cS]++[[40]]++bQ (.mk t.wn t.wk)++[[41]]=q1 at b1 b2;rw[show strs [cS]=[[.str [76,105,115,116]]] from rfl] at b1
 refine cW xg.eq_1 ?_;exact vK5 hk hw hl b1 b2
end
end
section
def yL{p:List aB × Int}{k:Int} : (gH p k).length<=p.1.length+2:=by
 unfold gH;split
 ·simp
 ·omega
section
variable {t:Tm}{h:Nat}(hF:NY h t)(hO:Fb t)(hK:∀ u∈t.kids,tZ u)(H:ae)
include hF hO hK
def tk4(hk:t.kind=4):aj A 44 [.agg (aK t)] H=some (.slice (strs (af t)) true,none):=by
 have _:=hF;have hs:=IB t.n H
 by_cases s0:(da t.n).1=[]
 ·exact absurd rfl (gJ hO (c1:=-2) (c2:=0) (by rw[hk];simp[bR,s0])).1
 by_cases s7:(da t.n).2=7
 ·have hc:=gJ hO (c1:=1) (c2:=0) (by rw[hk];simp[bR,s0,s7])
  have hl:=hc.2.1 ah;obtain⟨x,gG⟩:=Bm (show t.kids.length=1 by omega)
  have hx:=hK x (by rw[gG];simp)
  have dx:=UC hx 7 H;have lx:=hx.len;have kl:=yL (p:=(af x,bH x)) (k:=7);simp only at kl;have kt:aC t.kids=[[.int .i64 x.kind,.int .i64 x.n,.str x.name,.str x.field,.str x.wn,.slice (aG x.wk) false,.slice (aC x.kids) false,.slice (strs x.names) false]]:=by
   rw[gG,aC,aC,ai]
  rw[ai] at dx;have e:af t=[(da t.n).1]++gH (af x,bH x) 7:=by rw[bN,hk,gG];rfl
  rw[e,ai];generalize gH (af x,bH x) 7=kx at dx kl ⊢;generalize (da t.n).1=sg at hs ⊢;have a1:aF false 1 16 (.slice [[.str sg]] true) (.slice (strs kx) true)=some (.slice (strs ([sg]++kx)) true):=cx (l:=[sg]) dw;generalize [sg]++kx=q1 at a1 ⊢;refine cW xg.eq_1 ?_;rw[kt];exact vK5 hk hs s7 dx a1
 ·have hc:=gJ hO (c1:=2) (c2:=0) (by rw[hk];simp[bR,s0,s7])
  have hl:=hc.2.1 ah;obtain⟨x,y,gG⟩:=xp (show t.kids.length=2 by omega)
  have hx:=hK x (by rw[gG];simp)
  have hy:=hK y (by rw[gG];simp)
  have lx:=hx.len;have ly:=hy.len;obtain⟨lv,tQ⟩:∃ lv,lv=(da t.n).2:=⟨_,rfl⟩;have hlr:0<=lv/\lv<=7:=by
   rw[tQ];unfold da;split
   ·exact⟨a8,a8⟩
   ·rename_i hn
    rcases VY (x:=t.n) ah ah with e|e|e|e|e|e|e|e|e|e|e|e<;>rw[e]<;>exact⟨a8,a8⟩
  have dx:=fun l=>UC hx l H
  have dy:=UC hy (lv+1) H;have kt:aC t.kids=[[.int .i64 x.kind,.int .i64 x.n,.str x.name,.str x.field,.str x.wn,.slice (aG x.wk) false,.slice (aC x.kids) false,.slice (strs x.names) false],
    [.int .i64 y.kind,.int .i64 y.n,.str y.name,.str y.field,.str y.wn,.slice (aG y.wk) false,.slice (aC y.kids) false,.slice (strs y.names) false]]:=by
   rw[gG,aC,aC,aC,ai,ai]
  rw[ai] at dx dy;have e:af t=gH (af x,bH x) (if lv=3 then 4 else lv)++[(da t.n).1]++gH (af y,bH y) (lv+1):=by rw[bN,hk,gG,tQ];rfl
  rw[e,ai];rw[<- tQ] at hs s7;have klx:=yL (p:=(af x,bH x)) (k:=if lv=3 then 4 else lv)
  have kly:=yL (p:=(af y,bH y)) (k:=lv+1);simp only at klx kly;have dx:=dx (if lv=3 then 4 else lv)
  generalize gH (af x,bH x) (if lv=3 then 4 else lv)=kx at dx klx ⊢
  generalize gH (af y,bH y) (lv+1)=ky at dy kly ⊢;generalize (da t.n).1=sg at hs ⊢;have a1:aF false 1 16 (.slice (strs kx) true) (.slice [[.str sg]] true)=some (.slice (strs (kx++[sg])) true):=gu ah;have a2:aF false 1 16 (.slice (strs (kx++[sg])) true) (.slice (strs ky) true)=some (.slice (strs (kx++[sg]++ky)) true):=cx dw;generalize kx++[sg]++ky=q2 at a2 ⊢;generalize kx++[sg]=q1 at a1 a2;refine cW xg.eq_1 ?_;rw[kt]
  by_cases l3:lv=3
  ·rw[if_pos l3] at dx
   rw[l3] at hs dy;rw[show (3:Int)+1=4 from rfl] at dy
   exact vK6 hk hs dx dy a1 a2
  ·rw[if_neg l3] at dx
   exact vK6 hk hs dx dy a1 a2
end
end
section
section
variable {t:Tm}{h:Nat}(hF:NY h t)(hO:Fb t)(hK:∀ u∈t.kids,tZ u)(H:ae)
include hF hO hK
def tk7(hk:t.kind=7):aj A 44 [.agg (aK t)] H=some (.slice (strs (af t)) true,none):=by
 have hc:=gJ hO (c1:=-1) (c2:=t.kids.length) (by rw[hk];rfl)
 have uF:=hc.2.2;have Ft:=hF.kl;have hq:=vD t.name H (by have:=hF.a;omega)
 have hql:=lH t.name;obtain⟨ws,hws⟩:∃ ws,ws=List.zipWith (fun s (x:List aB × Int)=>[s,[61]]++x.1) t.names (t.kids.map fun t=>(af t,bH t)):=⟨_,rfl⟩
 have hwl:ws.length=t.kids.length:=by rw[hws,axN,List.length_map];omega
 have gb:∀ (i:Nat) (s:aB) (u:Tm),t.names[i]?=some s->t.kids[i]?=some u->ws[i]?=some ([s,[61]]++af u):=by
  intro i s u h1 h2;rw[hws,axy,List.getElem?_map,h1,h2];rfl
 have MP:∀ x∈ws,x.length<=100002:=by
  intro x hx;obtain⟨i,hi⟩:=avl hx;have aZ:=(auU.1 hi).1;have h1:=auS (l:=t.names) (i:=i) ah;have h2:=auS (l:=t.kids) (i:=i) ah;have h3:=gb i _ _ h1 h2;rw[hi] at h3;injection h3 with h3
  rw[h3];have:=(hK _ (avj (l:=t.kids) (n:=i) ah)).len
  simp only[List.length_append,List.length_cons,List.length_nil];omega
 have Ww:∀ i,(av (ws.take i)).length<=3*100003:=fun i=>by
  have h1:=jj (ws.take i) 100002 (fun x hx=>MP x (avL hx))
  have h2:(ws.take i).length<=3:=by rw[avK];omega
  exact avx h1 (au6 _ h2)
 have hb:=mD (aJ t.name) (av ws) [123] [125] H ah (by have:=Ww ws.length;rw[avr] at this;omega) true true
 have e:af t=aJ t.name++[[123]]++av ws++[[125]]:=by rw[bN,hk,hws];rfl
 rw[e,ai];generalize aJ t.name++[[123]]++av ws++[[125]]=out at hb ⊢;refine cW xg.eq_1 ?_;simp(disch:=omega)only[aO,aa,simprocAttr,hk];refine cj t.kids.length 1 (fun i s=>∃ T,s=⟨T,H,H.length,1⟩/\T 1=.lbox 0 [.int .i64 7,.int .i64 t.n,.str t.name,.str t.field,.str t.wn,.slice (aG t.wk) false,.slice (aC t.kids) false,.slice (strs t.names) false]/\T 8=.slice (strs (av (ws.take i))) true/\T 9=.int .i64 i)
  (fun s=>∃ T,s=⟨T,H,H.length,1⟩/\T 1=.lbox 0 [.int .i64 7,.int .i64 t.n,.str t.name,.str t.field,.str t.wn,.slice (aG t.wk) false,.slice (aC t.kids) false,.slice (strs t.names) false]/\T 8=.slice (strs (av ws)) true) (fun _=>False) ?_ ?_ (fun _ h=>h.elim) 0 _ (Nat.zero_le _) ?_
 ·rintro i st hi ⟨T,rfl,e1,e8,e9⟩
  by_cases aZ:i<t.kids.length
  ·obtain⟨u,hu⟩:∃ u,t.kids[i]?=some u:=⟨_,auS aZ⟩
   obtain⟨s,hs⟩:∃ s,t.names[i]?=some s:=⟨_,auS ah⟩;have hw:=gb i s u hs hu;have hm:=hK u (au0 hu);have du:=hm.d H;have lu:=hm.len;have atk:=DT hu;have atn:=iz hs;rw[ai] at du atk;have mO:ws.take (i+1)=ws.take i++[[s,[61]]++af u]:=by rw[awj,hw];rfl
   have AO:=jH ([s,[61]]++af u) (ws.take i);rw[<- mO] at AO;have yq:=Ww i
   by_cases h0:i=0
   ·subst h0
    simp only[avV,awE] at AO e8;have a1:aF false 1 16 (.slice (strs (av [])) true) (.slice [[.str s],[.str [61]]] true)=some (.slice (strs [s,[61]]) true):=cx (l:=[]) (m:=[s,[61]]) ag;have a2:aF false 1 16 (.slice (strs [s,[61]]) true) (.slice (strs (af u)) true)=some (.slice (strs ([s,[61]]++af u)) true):=cx dw;generalize [s,[61]]++af u=q2 at a2 AO;generalize [s,[61]]=q1 at a1 a2;simp(disch:=omega)only[aO,aa,simprocAttr,e1,e8,e9,cR,atk,atn,du,a1,a2];exact⟨aZ,_,rfl,fY e1,by rw[AO];simp(disch:=omega)only[dr,aa,simprocAttr],jd⟩
   ·have dp:¬ (ws.take i=[]):=fun e=>by
     have:=awu List.length e
     rw[avK,List.length_nil] at this;omega
    rw[if_neg dp,<- au8] at AO;generalize av (ws.take i)=acc at e8 yq AO;have a0:aF false 1 16 (.slice (strs acc) true) (.slice [[.str [44]]] true)=some (.slice (strs (acc++[[44]])) true):=gu ah;have a1:aF false 1 16 (.slice (strs (acc++[[44]])) true) (.slice [[.str s],[.str [61]]] true)=some (.slice (strs (acc++[[44]]++[s,[61]])) true):=cx (m:=[s,[61]]) dw;have a2:aF false 1 16 (.slice (strs (acc++[[44]]++[s,[61]])) true) (.slice (strs (af u)) true)=some (.slice (strs (acc++[[44]]++[s,[61]]++af u)) true):=cx dw;generalize acc++[[44]]++[s,[61]]++af u=q2 at a2 AO;generalize acc++[[44]]++[s,[61]]=q1 at a1 a2;generalize acc++[[44]]=q0 at a0 a1;simp(disch:=omega)only[aO,aa,simprocAttr,e1,e8,e9,cR,atk,atn,du,a0,a1,a2];exact⟨aZ,_,rfl,fY e1,by rw[AO];simp(disch:=omega)only[dr,aa,simprocAttr],jd⟩
  ·rw[avq ah] at e8
   simp(disch:=omega)only[aO,aa,simprocAttr,e1,e9,cR];exact⟨_,rfl,fY e1,fY e8⟩
 ·rintro st ⟨T,rfl,e1,e8⟩
  exact vK4 e1 e8 hq hb
 ·exact⟨_,rfl,jd,by simp(disch:=omega)only[dr,aa,simprocAttr,av,strs],jd⟩
end
end
end Go.Proofs.YtnhpoddlmjpapaaGreatDoor
end
