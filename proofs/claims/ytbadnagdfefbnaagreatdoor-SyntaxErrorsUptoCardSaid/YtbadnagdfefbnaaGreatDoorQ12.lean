/-
  A part of the proof of SyntaxErrors: UQ24, UQ25, UQ26, AbsLaidU, AbsLibU, AbsLib2U, AbsLib3U, AbsLib4U, AbsLib5U, AbsSgnU2, AbsOKU, UQ27, UQ28, UQ29, AbsIrP, UQ30, UQ31, UQ32, U54, U55, U56, U53, U57, U58.
-/
import Derived.Shelf.Strconv.AtoiAll
import Derived.Shelf.Strconv.Itoa3
import Derived.Shelf.Small.Strs
import Derived.Shelf.Strings.Search1
import Derived.Ground.NamesProg
import Derived.Test.YtbadnagdfefbnaaGreatDoorChecked
import Derived.Shelf.Lay
import Derived.Shelf.Strings.Builder1
import Derived.Test.YtbadnagdfefbnaaGreatDoorProg
import Derived.KernelRfl
import Derived.Test.YtbadnagdfefbnaaGreatDoorQ11
set_option linter.unusedSimpArgs false
set_option linter.unusedVariables false
set_option linter.defProp false
set_option maxHeartbeats 4000000
set_option maxRecDepth 100000
noncomputable section
namespace Go.Proofs.YtbadnagdfefbnaaGreatDoor
open Go Go.Abs Go.Proofs
def j7:=aO
variable {x:AV × Option fP}{kd:Int}{args:List AV}{a:List Fd}
def R7{rows:List (List AV)}{x:List AV}{o:Bool}(h:wm 4 rows)(hr:rows.length<=1000000)(h4:x.length=4)(hn:nb [x]=true):aG false 4 64 (.slice rows true) (.slice [x] o)=some (.slice (rows++[x]) true) :=
 wV h ⟨fun r hr=>by rw[avi.1 hr];exact h4,hn⟩ dq dq
theorem Wj{n:Nat}{H:ae}(hR:Cd n args H x):args.length=C6.np/\D (PA 2 n) C6.body ⟨fi args,H,H.length,0⟩ (dn C6 H.length x):=by
 cases hR with
 | @mk tk pl pv fl s H fd s' kd cs rows h hn hv hf hc aZ hlf hr hw he =>
 refine⟨rfl,?_⟩;have gW:=h.q.lt;have HM:=Va (k:=2) (n:=n) h;have l1:=jY (tk:=tk) h.le;unfold oP at he;generalize aF (aq tk) s=q at *;obtain⟨nm,s1⟩:=q;simp only at he HM l1;simp only[au2] at he;obtain⟨⟨w,s2⟩,hwd,he⟩:=he;have Gq:=aci (k:=2) (n:=n) (h.to l1) hwd;rw[fG,iA] at Gq;have l2:=(ji _ _ _ hwd).le l1;simp only at l2 he;obtain⟨a,rest,rfl⟩:∃ a r,cs=a :: Np rows :: r:=by
  match cs,hc with
  | a :: v :: r,hc=>simp only[avI,avk,au4] at hc;subst hc;exact⟨a,r,rfl⟩
 have yK:=(au7.1 hf).1;have WW:∀ s',(aJ tk pl s' H)[fl]?=some (.box 58 (.int .i64 kd :: a :: Np rows :: rest)):=fun s'=>by rw[dH ah];exact hf
 have RF:∀ s',(aJ tk pl s' H)[pv]?=some (.box 97 [.ref pl 0]):=fun s'=>by rw[dH ah];exact hv
 have hq:∀ (s' : PS) (o:bS),(aJ tk pl s' H).set fl o=aJ tk pl s' (H.set fl o):=fun s' o=>qc ah
 have hg:∀ (s' : PS) (o:bS),((aJ tk pl s' H).set fl o)[fl]?=some o:=fun s' o=>List.getElem?_set_self (by rw[bF];exact yK)
 have aiw:∀ (s' : PS) (o:bS),(∀ cs,o≠.bZ cs)->ni H.length pl ((aJ tk pl s' H).set fl o)=true:=fun s' o ho=>by
  rw[hq];have hp:PQ pl (H.set fl o):=⟨by rw[List.length_set];exact gW,fun j cs hj hc=>by
   rw[List.length_set]
   by_cases e:fl=j
   ·subst e;rw[List.getElem?_set_self yK] at hc;injection hc with hc;exact absurd hc (ho cs)
   ·rw[List.getElem?_set_ne e] at hc;exact h.q.ob j cs hj hc⟩
  have:=hp.open (tk:=tk) (s:=s')
  grind
 have dN:∀ (s' : PS) (cs:List AV),ni H.length pl ((aJ tk pl s' H).set fl (.box 58 cs))=true:=fun s' cs=>aiw s' _ (fun _ h=>by cases h)
 have IQ:decide (fl<pl)=false:=dq;have yP:∀ (s' : PS) (o:bS),((aJ tk pl s' H).set fl o).take H.length=(aJ tk pl s' H).set fl o:=fun s' o=>List.take_of_length_le (by rw[List.length_set,bF];exact Nat.le_refl _)
 have hlen:∀ (s' : PS) (o:bS),((aJ tk pl s' H).set fl o).length=H.length:=fun s' o=>by rw[List.length_set,bF]
 have z6:∀ (x:List AV) (o:Bool),x.length=4->nb [x]=true->aG false 4 64 (.slice rows true) (.slice [x] o)=some (.slice (rows++[x]) true):=fun x o h4 hn=>R7 hw hr h4 hn
 have CX:C6.results=[]:=rfl;refine jR _ _ ?_ (SH (fn:=C6) rfl);refine (show D (PA 2 n) (.seq (C6.body.sub [false]) (.seq (.seq (.region _) (.cond _ (.region _) .skip)) (.region _))) _ _ from ?_)
 rw[fh];refine akk (n:=n) (w:=w) (T0:=fi [.ref pv 0,.ref fl 0]) aZ gW hv HM Gq rfl fun T q0 q1 q2=>?_
 have q0:T 0=.ref pv 0:=q0.trans rfl;have q1:T 1=.ref fl 0:=q1.trans rfl;rw[kQ];refine PB ?_;have h4:(kd==4)=decide (kd=4):=rfl;have fg:=ae2 (k:=2) (n:=n) (h.to l2) (least:=0) ah ah;rw[fG] at fg;cases hk:decide (kd=4) with
 | true =>
  rw[hk,cond_true] at he;rw[hk] at h4;generalize gR (aq tk) 0 s2=q at *;obtain⟨v,s3⟩:=q;simp only[au8,avO,awe,av'] at he fg;obtain⟨rfl,rfl⟩:=he;have ha:=z6 [.str nm,.str w.name,.slice (aH w.kids) false,.int .i64 v] true rfl rfl;cases rows with
  | nil =>
   simp only[Np] at WW;simp(disch:=omega)only[aO,aa,simprocAttr,CX,q0,q1,q2,RF,WW,h4,fg,hg,ha,IQ,ax,bU,cS,cM,avD,avq,ab,List.set_set,yP,dN,fE]
  | cons r0 rs =>
   simp only[Np] at WW;simp(disch:=omega)only[aO,aa,simprocAttr,CX,q0,q1,q2,RF,WW,h4,fg,hg,ha,IQ,ax,bU,cS,cM,avD,avq,ab,List.set_set,yP,dN,fE]
 | false =>
  rw[hk,cond_false] at he;rw[hk] at h4;simp only[au8,avO,awe,av'] at he;obtain⟨rfl,rfl⟩:=he;have ha:=z6 [.str nm,.str w.name,.slice (aH w.kids) false,.int .i64 0] true rfl rfl;cases rows with
  | nil =>
   simp only[Np] at WW;simp(disch:=omega)only[aO,aa,simprocAttr,CX,q1,q2,WW,h4,hg,ha,IQ,ax,bU,cS,cM,avD,avq,ab,List.set_set,yP,dN,fE]
  | cons r0 rs =>
   simp only[Np] at WW;simp(disch:=omega)only[aO,aa,simprocAttr,CX,q1,q2,WW,h4,hg,ha,IQ,ax,bU,cS,cM,avD,avq,ab,List.set_set,yP,dN,fE]
section
section
variable {n:Nat}{tk:List Tk}{pl:Nat}{H:ae}{w:ay}{k:Int}
def ahz(hle:pl<H.length)(BW:∀ M,(M=[]\/∃ cs,M=[.box 58 cs])->aj (PA 3 n) 84 [.ref pl 0] (H++[.box 97 [.ref pl 0]]++M)=some (.str w,none))(hix:∀ H,aj (PA 3 n) 86 [.slice (strs dJ) false,.str w] H=some (.int .i64 k,none))
  {T0:aD} (CT:T0 1=.ref H.length 0) {Q:bH->AS->Prop}
  (hQ:∀ T,T 1=T0 1->T 2=T0 2->T 3=.ref (H.length+1) 0->Q .normal ⟨T,H++[.box 97 [.ref pl 0]]++[.box 58 [.int .i64 k,.str [],.ar,.str [],.ar,.int .i64 0,.int .i64 0,.str [],.str [],.str [],.ar,.ar,.ar,.ar]],H.length,1⟩) :
  D (PA 3 n) (we.body.sub [true,false]) ⟨T0,H++[.box 97 [.ref pl 0]],H.length,1⟩ Q:=by
 have hgl:(PA 3 n).aY 0=[.slice (strs dJ) false]:=rfl;have aiy:=BW [] (.inl rfl);have aiz:=BW [.box 58 [.int .i64 0,.str [],.ar,.str [],.ar,.int .i64 0,.int .i64 0,.str [],.str [],.str [],.ar,.ar,.ar,.ar]] (.inr ⟨_,rfl⟩);rw[List.append_nil] at aiy;rw[tQ] at aiz;have T1:(H++[bS.box 97 [.ref pl 0]])[H.length]?=some (.box 97 [.ref pl 0]):=Oc;have Mo:∀ o,(H++[bS.box 97 [.ref pl 0]]++[o])[H.length]?=some (.box 97 [.ref pl 0]):=fun o=>by rw[avd ag];exact Oc
 have hl1:(H++[bS.box 97 [.ref pl 0]]).length=H.length+1:=OF;have xT:decide (H.length+1<H.length)=false:=ag;have amZ:decide (H.length<H.length)=false:=ag;have hg1:∀ o,(H++[bS.box 97 [.ref pl 0]]++[o])[H.length+1]?=some o:=fun o=>by rw[tQ,aa3]
 have qK:∀ o o',(H++[bS.box 97 [.ref pl 0]]++[o]).set (H.length+1) o'=H++[bS.box 97 [.ref pl 0]]++[o']:=fun o o'=>by rw[tQ,ab6,tQ]
 unfold we;simp only[aK.sub];refine SD (by conv=>lhs;cbv) ?_
 simp(disch:=omega)only[oy,da,cj,cE,cr,gK,aS,aR,bt,aE.eval,AS.ca,↓reduceIte,Nat.reduceEqDiff,Option.isSome,Option.isNone,cond_true,cond_false,Nat.reduceBEq,Nat.reduceAdd,Nat.reduceMul,aa,cz,eq_self,reduceCtorEq,gF,de,cn,bL,bound,dj,AS.bG,aP,bN,bz,Nat.reduceLeDiff,cA,putAt,Int.reduceEq,Int.reduceLT,Int.reduceLE,Int.reduceBEq,Int.reduceBNe,Int.reduceAdd,Int.reduceNeg,Int.reduceSub,Int.reduceMul,dX,dW,dV,dU,dS,dR,dZ,dY,ax,bA,avH,avG,Fa,CT,hgl,T1,Mo,aiy,aiz,hix,hl1,xT,amZ,hg1,qK,ax];simp only[tQ] at hQ
 and_intros<;>exact hQ _ rfl rfl rfl
end
end
section
def akj{k n:Nat}(hk:3<=k){H:ae}(h:Cd n args H x):aj (PA k n) 88 args H=some x:=by
 have ho:(PA k n).ov 88=some (mg (Cd n)):=by
  have:Nat.ble 3 k=true:=by rw[avv];exact hk
  show (bif Nat.ble 3 k then _ else _)=_
  rw[this];rfl
 refine gU ho (pZ (fun _ hy=>Q9 h hy) h) ?_
 cases h;rfl
def fH(pl:Nat)(H:ae)(cs:List AV):ae:=H++[.box 97 [.ref pl 0],.box 58 cs]
section
variable {n:Nat}{tk:List Tk}{pl:Nat}{s s' : PS}{H:ae}{cs:List AV}
def N4(h:jx tk pl s H):jx tk pl s (fH pl H cs):=by
 have gW:=h.q.lt;unfold fH;refine⟨?_,by rw[avd gW];exact h.at',h.b,h.le⟩
 rw[<- tQ];exact h.q.box.box
theorem S8:(aJ tk pl s' (fH pl H cs)).length=H.length+2:=by rw[bF];unfold fH;rw[UY]
def aa1(h:jx tk pl s H):(aJ tk pl s' (fH pl H cs))[H.length]?=some (.box 97 [.ref pl 0]):=by
 rw[ke h.q.lt];unfold fH;rw[List.getElem?_append_right (Nat.le_refl _)];simp
def aa0(h:jx tk pl s H):(aJ tk pl s' (fH pl H cs))[H.length+1]?=some (.box 58 cs):=by
 have:=h.q.lt
 rw[ke ah];unfold fH;rw[List.getElem?_append_right ah];simp
def S9(h:jx tk pl s H){cs':List AV} : (aJ tk pl s' (fH pl H cs)).set (H.length+1) (.box 58 cs')=aJ tk pl s' (fH pl H cs'):=by
 have:=h.q.lt
 rw[qc ah];unfold fH;rw[List.set_append_right _ _ ah];simp
theorem G1{L:List ay}{r:List Fd × PS}(h:oP L n kd a s=some r):∃ fd,r.1=a++[fd]/\oP L n kd [] s=some ([fd],r.2):=by
 unfold oP at h ⊢;simp only[au2] at h
 grind
def qP{r:List Fd × PS}(h:oP (aq tk) n kd a s=some r):Lq tk s r.2:=by
 unfold oP at h;simp only[au2] at h;obtain⟨w,hw,rfl⟩:=h;have h1:=(dP (tk:=tk) (s:=s)).tr (ji _ _ _ hw);cases decide (kd=4) with
 | true=>exact h1.tr (Aj ah)
 | false=>exact h1
theorem ZY(hn:n<=1000000)(h0:jx tk pl s H){nm:ay}{rest:List AV} :
  G9 3 n tk pl (H.length+2) 88 [] [.ref H.length 0,.ref (H.length+1) 0] (oP (aq tk) n kd) (fun b sl s1 K=>K=aJ tk pl s1 (fH pl H (.int .i64 kd :: .str nm :: Np (sl.map fE) :: rest))/\s1.i<=tk.length) List.length where
 at':=fun b a s1 K hJ=>by rw[hJ.1];exact (N4 h0).to hJ.2
 set:=fun b a s1 s2 K hJ hl=>by rw[hJ.1];exact⟨fG,hl⟩
 el:=fun b a s1 K r hJ hz he=>by
  obtain⟨rfl,hl⟩:=hJ;obtain⟨fd,e1,e2⟩:=G1 he;have hp:=(N4 (cs:=.int .i64 kd :: .str nm :: Np (a.map fE) :: rest) h0).to hl;have gW:=h0.q.lt;refine⟨_,akj (k:=3) ah (Cd.mk (fl:=H.length+1) (rows:=a.map fE) hp hn (aa1 h0) (aa0 h0) rfl gW ah (by rw[List.length_map];exact hz) HB e2),?_,(qP he).le hl⟩
  rw[fG,S9 h0,e1]
  congr 2
  simp only[axc,axr,List.map_append,avm,avN];cases a<;>rfl
 sz:=fun a s1 r he=>by
  grind [G1]
 fin:=fun a s1 K T gen hJ=>by
  obtain⟨rfl,hl⟩:=hJ;have hp:=(N4 (cs:=.int .i64 kd :: .str nm :: Np (a.map fE) :: rest) h0).to hl;have:=hp.ahv (s':=s1) (T:=T) (gen:=gen)
  grind [fG,S8]
 fc:=rfl
theorem acN{fn:aB}{base:Nat}(hm:fn.muts.elem 777777=true):∀ e s,AM base fn.results (fun y=>(nh y.1,y.2)=x) e s->dn fn base x e s:=by
 intro e s h;have key:cd (fin base fn.results s) (fun y=>(nh y.1,y.2)=x)->finish base fn s=some x:=fun h=>by
  obtain⟨y,h1,h2⟩:=h;have:=pI (fn:=fn) h1
  grind [Dm]
 cases e with
 | exit i=>exact h.elim
 | normal=>exact key h
 | ret=>exact key h
def aee{w:ay}(h:¬ kM w dJ 0<0):w≠[]:=fun e=>by subst e;exact h aI
theorem Ys(w:ay):-1<=kM w dJ 0/\kM w dJ 0<=5:=by
 unfold dJ;simp only[kM]
 grind
def Tn{H:ae}(hR:Fc n args H x):args.length=we.np/\D (PA 3 n) we.body ⟨fi args,H,H.length,0⟩ (dn we H.length x):=by
 cases hR with
 | @mk tk pl s H f s' h hn he =>
 refine⟨rfl,?_⟩;have gW:=h.q.lt;have hG:=fun cs=>N4 (cs:=cs) h
 have BW:∀ M,(M=[]\/∃ cs,M=[.box 58 cs])->aj (PA 3 n) 84 [.ref pl 0] (H++[.box 97 [.ref pl 0]]++M)=some (.str (pk (aq tk) s),none):=fun M hM=>by
  rcases hM with rfl|⟨cs,rfl⟩
  ·rw[List.append_nil]
   exact OQ (k:=3) (n:=n) ⟨h.q.box,by rw[avd gW];exact h.at',h.b,h.le⟩
  ·rw[tQ]
   exact OQ (k:=3) (n:=n) (hG cs)
 have hix:∀ H,aj (PA 3 n) 86 [.slice (strs dJ) false,.str (pk (aq tk) s)] H=some (.int .i64 (kM (pk (aq tk) s) dJ 0),none):=fun H=>cP rfl (Ox dJ (pk (aq tk) s) H aI)
 unfold pL at he;simp only at he;generalize Mj:kM (pk (aq tk) s) dJ 0=kd at *;have CX:we.results=[.cell 2 true 14]:=rfl;refine jR _ _ ?_ (acN (fn:=we) rfl);refine (show D (PA 3 n) (.seq (.region _) (.seq (we.body.sub [true,false]) (we.body.sub [true,true]))) _ _ from ?_)
 generalize hX:we.body.sub [true,true]=X;rw[fh,cq rfl];refine nK1 @wW ?_;rw[fh];refine ahz (n:=n) (w:=pk (aq tk) s) (k:=kd) gW BW hix (nK0 tv) fun T q1 q2 q3=>?_
 simp(disch:=omega)only[aO,aa,simprocAttr] at q1 q2;rw[kQ];refine PB ?_;rw[<- hX];rw[tQ];have e0:=(hG [.int .i64 kd,.str [],.ar,.str [],.ar,.int .i64 0,.int .i64 0,.str [],.str [],.str [],.ar,.ar,.ar,.ar]).eq;rw[show H++[bS.box 97 [.ref pl 0],.box 58 [.int .i64 kd,.str [],.ar,.str [],.ar,.int .i64 0,.int .i64 0,.str [],.str [],.str [],.ar,.ar,.ar,.ar]]=aJ tk pl s (fH pl H [.int .i64 kd,.str [],.ar,.str [],.ar,.int .i64 0,.int .i64 0,.str [],.str [],.str [],.ar,.ar,.ar,.ar]) from e0]
 have tS:=fun s' cs=>aa1 (s':=s') (cs:=cs) h
 have gfl:=fun s' cs=>aa0 (s':=s') (cs:=cs) h
 have vX:=fun s' cs cs'=>S9 (s':=s') (cs:=cs) (cs':=cs') h
 have gat:=fun s' cs=>Xj (s:=s') (hG cs)
 have gsp:∀ i (b:Bool) s' cs,(aJ tk pl s' (fH pl H cs)).set pl (.box 99 [.slice (tk.map gN) false,.int .i64 (i:Nat),.bool b])=aJ tk pl ⟨i,b⟩ (fH pl H cs):=fun i b s' cs=>ve
 have ade:∀ i (b:Bool) s' cs,(aJ tk pl s' (fH pl H cs)).set pl (.box 99 [.slice (tk.map gN) false,.int .i64 ((i:Nat)+1),.bool b])=aJ tk pl ⟨i+1,b⟩ (fH pl H cs):=fun i b s' cs=>sk
 have JK:∀ s' cs,(aJ tk pl s' (fH pl H cs)).take H.length=aJ tk pl s' H:=fun s' cs=>Ax gW
 have gop:∀ s' cs,ni H.length pl (aJ tk pl s' (fH pl H cs))=true:=fun s' cs=>by
  have:=h.q.open (tk:=tk) (s:=s')
  unfold ni at this ⊢;rw[JK]
  rwa [dE] at this
 have D8:decide (H.length<pl)=false:=dq;have nY:decide (H.length+1<pl)=false:=dq;have hxx:decide (pl<pl)=false:=ag;have hpe:Nat.beq pl H.length=false:=ae1 ah;cases yL:decide (kd<0) with
 | true =>
  rw[yL,cond_true] at he;injection he with he
  injection he with lZ iZ
  subst lZ iZ;unfold we;simp only[aK.sub];obtain⟨i,b⟩:=s;unfold PS.xe;simp(disch:=omega)only[aO,aa,simprocAttr,q1,q2,q3,tS,gfl,gat,gsp,JK,gop,yL,ax,bU,ab,jJ,cH,dC,cG,cT,cm,tm0,Tm.kind,Tm.n,Tm.name,Tm.field,Tm.wn,Tm.wk,Tm.kids,Tm.names,aH,aC,strs]
  done
 | false =>
  rw[yL,cond_false] at he;simp only[au3] at he;obtain⟨⟨sl,s2⟩,hl,he⟩:=he;have dk:pk (aq tk) s≠[]:=aee (by rw[Mj];simpa using yL)
  have aZ:=tY dk;have lu:s.up.i<=tk.length:=aZ;have tw:=fun cs=>GA (k:=3) (n:=n) (s:=s.up) (hG cs) lu
  have ln:=jY (tk:=tk) lu;generalize aF (aq tk) s.up=q at *;obtain⟨nm,s1⟩:=q;simp only at tw ln hl he;have Qu:=fun cs=>Bh (k:=3) (n:=n) (s:=s1) (hG cs) ln (w:=[40]) ag
  have lw:=gy (tk:=tk) (w:=[40]) ag ln;obtain⟨K',hc,b,rfl,l2⟩:=H7 (ZY hn h (rest:=[.str [],.ar,.int .i64 0,.int .i64 0,.str [],.str [],.str [],.ar,.ar,.ar,.ar])) (H:=aJ tk pl (aQ (aq tk) [40] s1) (fH pl H (.int .i64 kd :: .str nm :: .ar :: [.str [],.ar,.int .i64 0,.int .i64 0,.str [],.str [],.str [],.ar,.ar,.ar,.ar]))) S8 (fin:=[41]) ag ⟨rfl,lw⟩ dq hl;simp only at hc l2 he;have HM:∀ r∈sl.map fE,r.map n1=r:=fun r hr=>by
   obtain⟨fd,_,rfl⟩:=List.mem_map.1 hr;rfl
  have hsd:∃ sd,(Np (sl.map fE)).drop=sd/\sd.drop=sd/\aN sd=true/\n2 sd=.slice (sl.map fE) false/\∀ b,AV.bw b sd=true:=by
   cases sl with
   | nil=>exact⟨.ar,rfl,rfl,rfl,rfl,fun _=>rfl⟩
   | cons a r =>
    refine⟨.slice ((a :: r).map fE) false,rfl,rfl,rfl,?_,fun _=>rfl⟩
    rw[fp]
    congr 1
    conv=>rhs;rw[<- axX ((a :: r).map fE)]
    exact List.map_congr_left HM
  obtain⟨sd,d1,d2,d3,d4,d5⟩:=hsd;generalize Np (sl.map fE)=sc at *;have hrg:=Ys (pk (aq tk) s);rw[Mj] at hrg;cases AY:(decide (kd=0) || decide (kd=1)) with
  | true =>
   rw[AY,cond_true] at he;injection he with he
   injection he with lZ iZ
   subst lZ iZ;unfold we;simp only[aK.sub];unfold PS.up at tw;obtain⟨i,b⟩:=s;have yH:=h.b.len;simp only at tw aZ;have h01:kd=0\/kd=1:=cY AY
   rcases h01 with rfl|rfl
   ·simp(disch:=omega)only[aO,aa,simprocAttr,q1,q2,q3,tS,gfl,gat,vX,ade,tw,Qu,hc,JK,gop,nY,hxx,ax,bU,ab,d1,d2,d3,d4,d5,cH,dC,cG,cT,cm,tm0,Tm.kind,Tm.n,Tm.name,Tm.field,Tm.wn,Tm.wk,Tm.kids,Tm.names,aH,aC,strs]
   ·simp(disch:=omega)only[aO,aa,simprocAttr,q1,q2,q3,tS,gfl,gat,vX,ade,tw,Qu,hc,JK,gop,nY,hxx,ax,bU,ab,d1,d2,d3,d4,d5,cH,dC,cG,cT,cm,tm0,Tm.kind,Tm.n,Tm.name,Tm.field,Tm.wn,Tm.wk,Tm.kids,Tm.names,aH,aC,strs]
  | false =>
   rw[AY,cond_false] at he;simp only[au3,au2] at he;obtain⟨⟨w,s3⟩,hw,⟨t1,s4⟩,hx,he⟩:=he;injection he with lZ iZ
   simp only at lZ iZ hx;subst lZ iZ;have hwd:=fun cs=>(show aj (PA 3 n) 89 [.ref pl 0] (aJ tk pl s2 (fH pl H cs))=some (.agg (gX w),some ⟨aJ tk pl s3 (fH pl H cs),pl⟩) from by
    have:=aci (k:=3) (n:=n) ((hG cs).to l2) hw
    rwa [fG] at this)
   have l3:=(ji _ _ _ hw).le l2;simp only at l3;have anM:=fun cs=>Bh (k:=3) (n:=n) (s:=s3) (hG cs) l3 (w:=[61]) ag
   have l4:=gy (tk:=tk) (w:=[61]) ag l3;have hex:=fun cs=>N1 (k:=3) (hG cs) hn l4 hx
   have ew:=iA w;have et:=ai t1;rw[ew] at hwd;rw[et] at hex;generalize aQ (aq tk) [61] s3=s5 at *;unfold PS.up at tw;obtain⟨i,b⟩:=s;have yH:=h.b.len;simp only at tw aZ;simp only[avJ,avp] at AY;have hk2:(kd != 0)=true:=by simp;exact AY.1
   have hk3:(kd != 1)=true:=by simp;exact AY.2
   unfold we;simp only[aK.sub];simp(disch:=omega)only[aO,aa,simprocAttr,q1,q2,q3,tS,gfl,gat,vX,ade,tw,Qu,hc,hwd,anM,hex,hk2,hk3,JK,gop,yL,nY,hxx,ax,bU,ab,d1,d2,d3,d4,d5,cH,dC,cG,cT,fp,Kr,Dn,Y3,cm,Tm.kind,Tm.n,Tm.name,Tm.field,Tm.wn,Tm.wk,Tm.kids,Tm.names];rfl
end
end
end Go.Proofs.YtbadnagdfefbnaaGreatDoor
namespace Go.Proofs
open Go.Shelf
def YtbadnagdfefbnaaGreatDoor.Kb:Go.Shelf.Ren:=⟨fun|172=>157|244=>171|245=>172|247=>186|279=>187|280=>188|281=>189|282=>190|287=>195|316=>196|171=>62|205=>197|321=>198|322=>199|243=>102|246=>140|283=>161|284=>162|285=>163|286=>164|129=>177|317=>176|318=>178|319=>179|320=>180|337=>192|338=>193|n=>n,fun|9=>9|3=>3|75=>136|76=>137|4=>4|5=>5|167=>226|37=>132|0=>0|85=>227|2=>2|168=>229|53=>207|175=>235|46=>223|210=>239|127=>171|145=>246|143=>244|21=>21|171=>206|173=>210|212=>219|51=>220|20=>20|213=>221|232=>241|233=>242|80=>90|n=>n,fun|15=>7|16=>8|17=>6|18=>9|19=>10|n=>n⟩
def YtbadnagdfefbnaaGreatDoor.H3:Go.Proofs.LaysC.n172 Tryz.prog YtbadnagdfefbnaaGreatDoor.Kb:={
 mixed:=by kernel_rfl
 f129:=tk Tryz.func177 (by kernel_rfl)
 f171:=tk Tryz.func62 (by kernel_rfl)
 f172:=tk Tryz.func157 (by kernel_rfl)
 f205:=tk Tryz.func197 (by kernel_rfl)
 f243:=tk Tryz.func102 (by kernel_rfl)
 f244:=tk Tryz.func171 (by kernel_rfl)
 f245:=tk Tryz.func172 (by kernel_rfl)
 f246:=tk Tryz.func140 (by kernel_rfl)
 f247:=tk Tryz.func186 (by kernel_rfl)
 f279:=tk Tryz.func187 (by kernel_rfl)
 f280:=tk Tryz.func188 (by kernel_rfl)
 f281:=tk Tryz.func189 (by kernel_rfl)
 f282:=tk Tryz.func190 (by kernel_rfl)
 f283:=tk Tryz.func161 (by kernel_rfl)
 f284:=tk Tryz.func162 (by kernel_rfl)
 f285:=tk Tryz.func163 (by kernel_rfl)
 f286:=tk Tryz.func164 (by kernel_rfl)
 f287:=tk Tryz.func195 (by kernel_rfl)
 f316:=tk Tryz.func196 (by kernel_rfl)
 f317:=tk Tryz.func176 (by kernel_rfl)
 f318:=tk Tryz.func178 (by kernel_rfl)
 f319:=tk Tryz.func179 (by kernel_rfl)
 f320:=tk Tryz.func180 (by kernel_rfl)
 f321:=tk Tryz.func198 (by kernel_rfl)
 f322:=tk Tryz.func199 (by kernel_rfl)
 f337:=tk Tryz.func192 (by kernel_rfl)
 f338:=tk Tryz.func193 (by kernel_rfl)
 t0:=Tryz.underlying0
 a0:=Tryz.isAgg0
 z0:=Tryz.sizeOf0
 v0:=Tryz.zeroValue0
 t2:=Tryz.underlying2
 a2:=Tryz.isAgg2
 z2:=Tryz.sizeOf2
 v2:=Tryz.zeroValue2
 t3:=Tryz.underlying3
 a3:=Tryz.isAgg3
 z3:=Tryz.sizeOf3
 v3:=Tryz.zeroValue3
 t4:=Tryz.underlying4
 a4:=Tryz.isAgg4
 z4:=Tryz.sizeOf4
 v4:=Tryz.zeroValue4
 t5:=Tryz.underlying5
 a5:=Tryz.isAgg5
 z5:=Tryz.sizeOf5
 v5:=Tryz.zeroValue5
 t9:=Tryz.underlying9
 a9:=Tryz.isAgg9
 z9:=Tryz.sizeOf9
 v9:=Tryz.zeroValue9
 t20:=Tryz.underlying20
 a20:=Tryz.isAgg20
 z20:=Tryz.sizeOf20
 v20:=Tryz.zeroValue20
 t21:=Tryz.underlying21
 a21:=Tryz.isAgg21
 z21:=Tryz.sizeOf21
 v21:=Tryz.zeroValue21
 t37:=Tryz.underlying132
 a37:=Tryz.isAgg132
 z37:=Tryz.sizeOf132
 v37:=Tryz.zeroValue132
 t46:=Tryz.underlying223
 a46:=Tryz.isAgg223
 z46:=Tryz.sizeOf223
 v46:=Tryz.zeroValue223
 t51:=Tryz.underlying220
 a51:=Tryz.isAgg220
 z51:=Tryz.sizeOf220
 v51:=Tryz.zeroValue220
 t53:=Tryz.underlying207
 a53:=Tryz.isAgg207
 z53:=Tryz.sizeOf207
 v53:=Tryz.zeroValue207
 t75:=Tryz.underlying136
 a75:=Tryz.isAgg136
 z75:=Tryz.sizeOf136
 v75:=Tryz.zeroValue136
 t76:=Tryz.underlying137
 a76:=Tryz.isAgg137
 z76:=Tryz.sizeOf137
 v76:=Tryz.zeroValue137
 t85:=Tryz.underlying227
 a85:=Tryz.isAgg227
 z85:=Tryz.sizeOf227
 v85:=Tryz.zeroValue227
 t127:=Tryz.underlying171
 a127:=Tryz.isAgg171
 z127:=Tryz.sizeOf171
 v127:=Tryz.zeroValue171
 t143:=Tryz.underlying244
 a143:=Tryz.isAgg244
 z143:=Tryz.sizeOf244
 v143:=Tryz.zeroValue244
 t145:=Tryz.underlying246
 a145:=Tryz.isAgg246
 z145:=Tryz.sizeOf246
 v145:=Tryz.zeroValue246
 t167:=Tryz.underlying226
 a167:=Tryz.isAgg226
 z167:=Tryz.sizeOf226
 v167:=Tryz.zeroValue226
 t168:=Tryz.underlying229
 a168:=Tryz.isAgg229
 z168:=Tryz.sizeOf229
 v168:=Tryz.zeroValue229
 t171:=Tryz.underlying206
 a171:=Tryz.isAgg206
 z171:=Tryz.sizeOf206
 v171:=Tryz.zeroValue206
 t173:=Tryz.underlying210
 a173:=Tryz.isAgg210
 z173:=Tryz.sizeOf210
 v173:=Tryz.zeroValue210
 t175:=Tryz.underlying235
 a175:=Tryz.isAgg235
 z175:=Tryz.sizeOf235
 v175:=Tryz.zeroValue235
 t210:=Tryz.underlying239
 a210:=Tryz.isAgg239
 z210:=Tryz.sizeOf239
 v210:=Tryz.zeroValue239
 t212:=Tryz.underlying219
 a212:=Tryz.isAgg219
 z212:=Tryz.sizeOf219
 v212:=Tryz.zeroValue219
 t213:=Tryz.underlying221
 a213:=Tryz.isAgg221
 z213:=Tryz.sizeOf221
 t232:=Tryz.underlying241
 a232:=Tryz.isAgg241
 z232:=Tryz.sizeOf241
 v232:=Tryz.zeroValue241
 t233:=Tryz.underlying242
 a233:=Tryz.isAgg242
 z233:=Tryz.sizeOf242
 v233:=Tryz.zeroValue242
 g15:=by kernel_rfl
 g16:=by kernel_rfl
 g17:=by kernel_rfl
 g18:=by kernel_rfl
 g19:=by kernel_rfl
 t80:=Tryz.underlying90
 a80:=Tryz.isAgg90
 z80:=Tryz.sizeOf90
 v80:=Tryz.zeroValue90
 i0:=by kernel_rfl
 i2:=by kernel_rfl
 i3:=by kernel_rfl
 i4:=by kernel_rfl
 i5:=by kernel_rfl
 i9:=by kernel_rfl
 i20:=by kernel_rfl
 i21:=by kernel_rfl
 i37:=by kernel_rfl
 i46:=by kernel_rfl
 i51:=by kernel_rfl
 i53:=by kernel_rfl
 i75:=by kernel_rfl
 i76:=by kernel_rfl
 i80:=by kernel_rfl
 i85:=by kernel_rfl
 i127:=by kernel_rfl
 i143:=by kernel_rfl
 i145:=by kernel_rfl
 i167:=by kernel_rfl
 i168:=by kernel_rfl
 i171:=by kernel_rfl
 i173:=by kernel_rfl
 i175:=by kernel_rfl
 i210:=by kernel_rfl
 i212:=by kernel_rfl
 i232:=by kernel_rfl
 i233:=by kernel_rfl
 m15:=by kernel_rfl
 m16:=by kernel_rfl
 m17:=by kernel_rfl
 m18:=by kernel_rfl
 m19:=by kernel_rfl
 c0:=by kernel_rfl
 c2:=by kernel_rfl
 c3:=by kernel_rfl
 c4:=by kernel_rfl
 c5:=by kernel_rfl
 c9:=by kernel_rfl
 c20:=by kernel_rfl
 c21:=by kernel_rfl
 c37:=by kernel_rfl
 c46:=by kernel_rfl
 c51:=by kernel_rfl
 c53:=by kernel_rfl
 c75:=by kernel_rfl
 c76:=by kernel_rfl
 c80:=by kernel_rfl
 c85:=by kernel_rfl
 c127:=by kernel_rfl
 c143:=by kernel_rfl
 c145:=by kernel_rfl
 c167:=by kernel_rfl
 c168:=by kernel_rfl
 c171:=by kernel_rfl
 c173:=by kernel_rfl
 c175:=by kernel_rfl
 c210:=by kernel_rfl
 c212:=by kernel_rfl
 c213:=by kernel_rfl
 c232:=by kernel_rfl
 c233:=by kernel_rfl }
def YtbadnagdfefbnaaGreatDoor.Kc:Go.Shelf.Ren:=⟨fun|171=>62|243=>102|246=>140|283=>161|284=>162|285=>163|286=>164|129=>177|317=>176|318=>178|319=>179|320=>180|337=>192|338=>193|n=>n,fun|3=>3|9=>9|2=>2|4=>4|171=>206|0=>0|53=>207|37=>132|5=>5|173=>210|212=>219|51=>220|20=>20|213=>221|46=>223|232=>241|233=>242|n=>n,fun|17=>6|18=>9|19=>10|n=>n⟩
def YtbadnagdfefbnaaGreatDoor.YK:Go.Proofs.LaysM.n171 Tryz.prog YtbadnagdfefbnaaGreatDoor.Kc:={
 mixed:=by kernel_rfl
 f129:=tk Tryz.func177 (by kernel_rfl)
 f171:=tk Tryz.func62 (by kernel_rfl)
 f243:=tk Tryz.func102 (by kernel_rfl)
 f246:=tk Tryz.func140 (by kernel_rfl)
 f283:=tk Tryz.func161 (by kernel_rfl)
 f284:=tk Tryz.func162 (by kernel_rfl)
 f285:=tk Tryz.func163 (by kernel_rfl)
 f286:=tk Tryz.func164 (by kernel_rfl)
 f317:=tk Tryz.func176 (by kernel_rfl)
 f318:=tk Tryz.func178 (by kernel_rfl)
 f319:=tk Tryz.func179 (by kernel_rfl)
 f320:=tk Tryz.func180 (by kernel_rfl)
 f337:=tk Tryz.func192 (by kernel_rfl)
 f338:=tk Tryz.func193 (by kernel_rfl)
 t0:=Tryz.underlying0
 a0:=Tryz.isAgg0
 z0:=Tryz.sizeOf0
 v0:=Tryz.zeroValue0
 t2:=Tryz.underlying2
 a2:=Tryz.isAgg2
 z2:=Tryz.sizeOf2
 v2:=Tryz.zeroValue2
 t3:=Tryz.underlying3
 a3:=Tryz.isAgg3
 z3:=Tryz.sizeOf3
 v3:=Tryz.zeroValue3
 t4:=Tryz.underlying4
 a4:=Tryz.isAgg4
 z4:=Tryz.sizeOf4
 v4:=Tryz.zeroValue4
 t5:=Tryz.underlying5
 a5:=Tryz.isAgg5
 z5:=Tryz.sizeOf5
 v5:=Tryz.zeroValue5
 t9:=Tryz.underlying9
 a9:=Tryz.isAgg9
 z9:=Tryz.sizeOf9
 v9:=Tryz.zeroValue9
 t20:=Tryz.underlying20
 a20:=Tryz.isAgg20
 z20:=Tryz.sizeOf20
 v20:=Tryz.zeroValue20
 t37:=Tryz.underlying132
 a37:=Tryz.isAgg132
 z37:=Tryz.sizeOf132
 v37:=Tryz.zeroValue132
 t46:=Tryz.underlying223
 a46:=Tryz.isAgg223
 z46:=Tryz.sizeOf223
 v46:=Tryz.zeroValue223
 t51:=Tryz.underlying220
 a51:=Tryz.isAgg220
 z51:=Tryz.sizeOf220
 v51:=Tryz.zeroValue220
 t53:=Tryz.underlying207
 a53:=Tryz.isAgg207
 z53:=Tryz.sizeOf207
 v53:=Tryz.zeroValue207
 t171:=Tryz.underlying206
 a171:=Tryz.isAgg206
 z171:=Tryz.sizeOf206
 v171:=Tryz.zeroValue206
 t173:=Tryz.underlying210
 a173:=Tryz.isAgg210
 z173:=Tryz.sizeOf210
 v173:=Tryz.zeroValue210
 t212:=Tryz.underlying219
 a212:=Tryz.isAgg219
 z212:=Tryz.sizeOf219
 v212:=Tryz.zeroValue219
 t213:=Tryz.underlying221
 a213:=Tryz.isAgg221
 z213:=Tryz.sizeOf221
 t232:=Tryz.underlying241
 a232:=Tryz.isAgg241
 z232:=Tryz.sizeOf241
 v232:=Tryz.zeroValue241
 t233:=Tryz.underlying242
 a233:=Tryz.isAgg242
 z233:=Tryz.sizeOf242
 v233:=Tryz.zeroValue242
 g17:=by kernel_rfl
 g18:=by kernel_rfl
 g19:=by kernel_rfl
 i0:=by kernel_rfl
 i2:=by kernel_rfl
 i3:=by kernel_rfl
 i4:=by kernel_rfl
 i5:=by kernel_rfl
 i9:=by kernel_rfl
 i20:=by kernel_rfl
 i37:=by kernel_rfl
 i46:=by kernel_rfl
 i51:=by kernel_rfl
 i53:=by kernel_rfl
 i171:=by kernel_rfl
 i173:=by kernel_rfl
 i212:=by kernel_rfl
 i232:=by kernel_rfl
 i233:=by kernel_rfl
 m17:=by kernel_rfl
 m18:=by kernel_rfl
 m19:=by kernel_rfl }
def YtbadnagdfefbnaaGreatDoor.H4:Go.Shelf.Ren:=⟨fun|137=>92|217=>136|266=>159|n=>n,fun|9=>9|5=>5|3=>3|n=>n,fun|n=>n⟩
def YtbadnagdfefbnaaGreatDoor.UU:Go.Proofs.Lays.n137 Tryz.prog YtbadnagdfefbnaaGreatDoor.H4:={
 mixed:=by kernel_rfl
 f137:=tk Tryz.func92 (by kernel_rfl)
 f217:=tk Tryz.func136 (by kernel_rfl)
 f266:=tk Tryz.func159 (by kernel_rfl)
 t3:=Tryz.underlying3
 a3:=Tryz.isAgg3
 z3:=Tryz.sizeOf3
 v3:=Tryz.zeroValue3
 t5:=Tryz.underlying5
 a5:=Tryz.isAgg5
 z5:=Tryz.sizeOf5
 v5:=Tryz.zeroValue5
 t9:=Tryz.underlying9
 a9:=Tryz.isAgg9
 z9:=Tryz.sizeOf9
 v9:=Tryz.zeroValue9 }
def YtbadnagdfefbnaaGreatDoor.FF:Go.Shelf.Ren:=⟨fun|217=>136|266=>159|n=>n,fun|9=>9|5=>5|3=>3|n=>n,fun|n=>n⟩
def YtbadnagdfefbnaaGreatDoor.QJ:Go.Proofs.Lays.n217 Tryz.prog YtbadnagdfefbnaaGreatDoor.FF:={
 mixed:=by kernel_rfl
 f217:=tk Tryz.func136 (by kernel_rfl)
 f266:=tk Tryz.func159 (by kernel_rfl)
 t3:=Tryz.underlying3
 a3:=Tryz.isAgg3
 z3:=Tryz.sizeOf3
 v3:=Tryz.zeroValue3
 t5:=Tryz.underlying5
 a5:=Tryz.isAgg5
 z5:=Tryz.sizeOf5
 v5:=Tryz.zeroValue5
 t9:=Tryz.underlying9
 a9:=Tryz.isAgg9
 z9:=Tryz.sizeOf9
 v9:=Tryz.zeroValue9 }
end Go.Proofs
namespace Go.Proofs.YtbadnagdfefbnaaGreatDoor
open Go Go.Abs Go.Proofs Go.Shelf RowKit
variable {x y:AV}{vs:Array Value}{g:Nat}{P:Program}{v:Value}
section
def Uc(s:ByteArray)(c:Int)(w:World):Calls Tryz.prog 92 #[.string s,.int .u8 c] w fun e w'=>e=.returned (.int .i64 (Lib.indexByte s.data.toList c.toNat.toUInt8))/\w'=w:=Any.strings_IndexByte UU s c w
def QA(s:ByteArray)(c:Int)(w:World):Calls Tryz.prog 136 #[.string s,.int .u8 c] w fun e w'=>e=.returned (.int .i64 (Lib.indexByte s.data.toList c.toNat.toUInt8))/\w'=w:=Any.stringslite_IndexByte QJ s c w
def YA(n:Int)(h0:-9223372036854775808<=n)(h1:n<=9223372036854775807)(w:World)(anC:Lib.TabIs Tryz.prog w "internal/strconv.uint64pow10" .u64 Lib.pow10Tab) :
  Calls Tryz.prog 62 #[.int .i64 n] w fun e w'=>e=.returned (.string ⟨(Lib.itoa n).toArray⟩)/\∃ k os,w'=Sort.grow (w.drewN k) os:=Any.strconv_Itoa YK n h0 h1 w anC
def Xk(s:ByteArray)(TQ:s.size<=9223372036854775806)(v:Int)(h:Lib.atoiAll s.data.toList=.ok v)(w:World) :
  Calls Tryz.prog 157 #[.string s] w fun e w'=>e=.returned (.tuple #[.int .i64 v,.nilIface])/\(w'=w\/∃ t,w'=Lib.bytesWorld w 5 t):=Any.strconv_Atoi_ok H3 s TQ v h w
def Se(s:ByteArray)(adN:s.size<=281474976710656)(h1:∀ v,Lib.atoiAll s.data.toList≠.ok v)(h2:Lib.atoiAll s.data.toList≠.range)(ev:Value)(w:World)(hv:w.cell? ⟨7,0,none⟩=some ev)(ct:ev=.nilIface\/∃ te pe,ev=.iface te pe) :
  Calls Tryz.prog 157 #[.string s] w fun e w'=>∃ N,e=.returned (.tuple #[.int .i64 (0),.iface 229 (.pointer (some ⟨N,0,none⟩))])/\Below w.heap.size w w' :=
 (Any.strconv_Atoi_syntax H3 s adN (by
  generalize Lib.atoiAll s.data.toList=x at h1 h2
  cases x<;>first|rfl|exact absurd rfl (h1 _)|exact absurd rfl h2) ev w hv ct).mono fun e w' ⟨N,h1,_,_,h4⟩=>⟨N,h1,h4⟩
def LC(s:ByteArray)(adN:s.size<=281474976710656)(h:Lib.atoiAll s.data.toList=.range)(ev:Value)(w:World)(hv:w.cell? ⟨8,0,none⟩=some ev)(ct:ev=.nilIface\/∃ te pe,ev=.iface te pe) :
  Calls Tryz.prog 157 #[.string s] w fun e w'=>∃ N,e=.returned (.tuple #[.int .i64 (Lib.atoiSat s.data.toList),.iface 229 (.pointer (some ⟨N,0,none⟩))])/\Below w.heap.size w w' :=
 (Any.strconv_Atoi_range H3 s adN h ev w hv ct).mono fun e w' ⟨N,h1,_,_,h4⟩=>⟨N,h1,h4⟩
section
variable {G:Nat->List AV}{base:Nat}{gh:Gh}{w w' : World}{H:ae}
def DS(hW:a8 G base H gh w)(hb:Below w.heap.size w w')(n:Nat):Step (fun _=>False) n gh w gh w':=by
 refine⟨fun _ _ h=>h,fun b o h=>cell_of_heap (hb.block b (hW.qa b o h)),hb.size,hb.os,hb.tape,hb.output,fun b aZ _=>⟨.inl (hb.block b aZ),rfl,fun _ h=>h⟩,fun b iR=>hW.cB b iR,fun _ _=>rfl,fun b ty m hm=>?_,fun b E ck hs h0=>(hb.block b (hW.qa b 0 hs)).trans h0⟩
 obtain⟨C,fr,h1,h2⟩:=hm;exact⟨C,fr,by rw[hb.block b (avc.1 h1).1];exact h1,h2⟩
def aaK(hW:a8 G base H gh w)(hb:Below w.heap.size w w'){r:AV}(hv:VR gh H.length w' v r):pA G base H gh w r none v gh w' :=
 ⟨Nat.le_refl _,hW.step (DS hW hb H.length) (fun l=>⟨id,fun _=>id⟩) (fun b o h=>awk (hW.qa b o h) hb.size) (fun b h=>⟨(hW.ry b h).1,awk (hW.ry b h).2 hb.size⟩) (fun _ _ _ h=>.inl h),
  (DS hW hb H.length).mono (fun _ h=>h.elim),fun _ h=>h,.inl hv⟩
def rL:jN H none:=⟨Nat.le_refl _,fun c h=>by cases h⟩
def I7(hs:vs.size=[x].length)(h:∀ (j:Nat) (v:Value) (y:AV),vs[j]?=some v->[x][j]?=some y->VR gh H.length w v y):∃ v,vs=#[v]/\VR gh H.length w v x:=by
 obtain⟨l⟩:=vs
 match l,hs with
 | [v],_=>exact⟨v,rfl,h 0 v x rfl rfl⟩
def aaJ(hs:vs.size=[x,y].length)(h:∀ (j:Nat) (v:Value) (z:AV),vs[j]?=some v->[x,y][j]?=some z->VR gh H.length w v z):∃ u v,vs=#[u,v]/\VR gh H.length w u x/\VR gh H.length w v y:=by
 obtain⟨l⟩:=vs
 match l,hs with
 | [u,v],_=>exact⟨u,v,rfl,h 0 u x rfl rfl,h 1 v y rfl rfl⟩
end
theorem wZ:∀ (f n:Nat) (acc:List UInt8),n<f->fS f n acc=Lib.decDigits n++acc
 | 0,n,acc,h=>absurd h (axF _)
 | f+1,n,acc,h=>by
  unfold fS;rw[Lib.decDigits]
  by_cases hn:n<10
  ·rw[show Nat.blt n 10=true by simpa [avn] using hn,dif_pos hn]
   rfl
  ·rw[show Nat.blt n 10=false by simpa [<- aw2,avn] using hn,dif_neg hn,cond_false,wZ f (n / 10) _ ah]
   simp
theorem UL(n:Int):qM n=Lib.itoa n:=by
 unfold qM Lib.itoa;cases n with
 | ofNat k =>
  grind [wZ]
 | negSucc k =>
  grind [wZ]
theorem Ad(c:Int)(h0:0<=c)(h1:c<256):∀ (l:List UInt8) (k:Nat),dp c k l=if Lib.indexByte l c.toNat.toUInt8=-1 then -1 else Lib.indexByte l c.toNat.toUInt8+k
 | [],k=>by simp[dp,Lib.indexByte]
 | b :: r,k=>by
  have hc:(c.toNat.toUInt8).toNat=c.toNat:=dq;have hb:(b==c.toNat.toUInt8)=decide ((b.toNat:Int)=c):=by
   by_cases h:(b.toNat:Int)=c
   ·have:b=c.toNat.toUInt8:=UInt8.toNat_inj.1 (by rw[hc];omega)
    grind
   ·grind
  have JY:∀ l:List UInt8, -1<=Lib.indexByte l c.toNat.toUInt8:=by
   intro l
   induction l with
   | nil=>simp[Lib.indexByte]
   | cons x l ih =>
    simp only[Lib.indexByte]
    grind
  unfold dp Lib.indexByte;rw[hb]
  by_cases h:(b.toNat:Int)=c
  ·simp[h]
  ·have:=JY r
   simp only[h,decide_false,cond_false,axN,awj];rw[Ad c h0 h1 r (k+1)]
   grind
def P9(f:FuncId)(fn:Func)(h:Tryz.prog.funcs[f]?=some fn)(hb:fn.body.isSome=true)(hn:fn.name≠ "runtime.NumGoroutine"):∃ fn,Tryz.prog.funcs[f]?=some fn/\fn.body.isSome=true/\fn.name≠ "runtime.NumGoroutine":=⟨fn,h,hb,hn⟩
theorem A3{G:Nat->List AV} : gQ Tryz.prog G 92 iG:=by
 intro args H r c he;refine⟨P9 92 _ Tryz.func92 Lk aI,?_⟩;unfold iG at he;split at he
 ·rename_i l c'
  obtain⟨h0,he⟩:=al he;simp only[au6,avf] at h0;simp only[au4,au8] at he;obtain⟨rfl,rfl⟩:=he;refine⟨rL,fun base gh w vs hW _ hs dr=>?_⟩
  obtain⟨u,v,rfl,hu,hv⟩:=aaJ hs dr;obtain⟨s,rfl,hl⟩:=hu.kG;rw[hv.kE];refine (Uc s c' w).mono ?_
  rintro e w' ⟨rfl,rfl⟩
  refine⟨_,gh,rfl,aaK hW (Below.refl _ _) ?_⟩;rw[Ad c' h0.1 h0.2 l 0,hl];have:(if Lib.indexByte l c'.toNat.toUInt8=-1 then (-1:Int) else Lib.indexByte l c'.toNat.toUInt8+(0:Nat))=Lib.indexByte l c'.toNat.toUInt8:=by split<;>simp_all
  rw[this];exact .plain _ _ (.int _ _)
 ·cases he
theorem yQ{G:Nat->List AV} : gQ Tryz.prog G 136 iG:=by
 intro args H r c he;refine⟨P9 136 _ Tryz.func136 Lk aI,?_⟩;unfold iG at he;split at he
 ·rename_i l c'
  obtain⟨h0,he⟩:=al he;simp only[au6,avf] at h0;simp only[au4,au8] at he;obtain⟨rfl,rfl⟩:=he;refine⟨rL,fun base gh w vs hW _ hs dr=>?_⟩
  obtain⟨u,v,rfl,hu,hv⟩:=aaJ hs dr;obtain⟨s,rfl,hl⟩:=hu.kG;rw[hv.kE];refine (QA s c' w).mono ?_
  rintro e w' ⟨rfl,rfl⟩
  refine⟨_,gh,rfl,aaK hW (Below.refl _ _) ?_⟩;rw[Ad c' h0.1 h0.2 l 0,hl];have:(if Lib.indexByte l c'.toNat.toUInt8=-1 then (-1:Int) else Lib.indexByte l c'.toNat.toUInt8+(0:Nat))=Lib.indexByte l c'.toNat.toUInt8:=by split<;>simp_all
  rw[this];exact .plain _ _ (.int _ _)
 ·cases he
theorem LF(w:World)(k:Nat)(os:Array Obj):Below w.heap.size w (Sort.grow (w.drewN k) os):=by
 refine⟨rfl,rfl,rfl,by simp[Sort.grow,World.drewN],fun i hi=>?_⟩
 show (w.heap++os)[i]?=_
 grind
theorem af6{G:Nat->List AV}{base:Nat}{gh:Gh}{w:World}{H:ae}(hW:a8 G base H gh w){name:String}(hg:Tryz.prog.globalNamed name=some g){k:IntKind}{zs:List Int}(hG:G g=zs.map (.int k))(dk:zs≠[]) :
  Lib.TabIs Tryz.prog w name k zs:=by
 obtain⟨ty,C,fr,h1,h2⟩:=hW.BA g (by rw[hG];simpa using dk)
 have hC:C=(zs.map fun z=>Value.int k z).toArray:=by
  apply Array.ext_getElem?;intro j;rw[hG,List.length_map] at h2
  by_cases hj:j<zs.length
  ·have hx:(G g)[j]?=some (.int k zs[j]):=by rw[hG];simp[hj]
   obtain⟨v,hv,hp,_⟩:=hW.aY g j _ hx;rw[cell_of_row w g j C ty fr h1] at hv;cases hp;rw[hv];simp[hj]
  ·grind
 unfold Lib.TabIs World.var?
 grind
theorem C9:gQ Tryz.prog Bg 62 Dt:=by
 intro args H r c he;refine⟨P9 62 _ Tryz.func62 Lk aI,?_⟩;unfold Dt at he;split at he
 ·rename_i n
  obtain⟨h0,he⟩:=al he;simp only[au6,avf] at h0;simp only[au4,au8] at he;obtain⟨rfl,rfl⟩:=he;refine⟨rL,fun base gh w vs hW _ hs dr=>?_⟩
  obtain⟨u,rfl,hu⟩:=I7 hs dr;rw[hu.kE];refine (YA n h0.1 h0.2 w (af6 hW Lk (g:=6) rfl (by simp[Lib.pow10Tab]))).mono ?_
  rintro e w' ⟨rfl,k,os,rfl⟩
  exact⟨_,gh,rfl,aaK hW (LF w k os) (.plain _ _ (.str _ _ (by rw[UL])))⟩
 ·cases he
def Jr{base:Nat}{gh:Gh}{w:World}{H:ae}(hW:a8 Bg base H gh w)(hG:Bg g=[.iface G4 .any]):∃ ev,w.cell? ⟨g,0,none⟩=some ev/\(ev=.nilIface\/∃ te pe,ev=.iface te pe):=by
 obtain⟨v,hv,hp,_⟩:=hW.aY g 0 (.iface G4 .any) (by rw[hG];rfl)
 cases hp with
 | iface _ u _ _=>exact⟨_,hv,.inr ⟨_,_,rfl⟩⟩
theorem Nu{gh:Gh}{n:Nat}{w:World}{u:Value}(h1:VR gh n w u x)(h2:VR gh n w v y):VR gh n w (.tuple #[u,v]) (.tuple [x,y]):=by
 refine .tuple _ _ rfl (fun j a b ha hb=>?_)
 grind
theorem Co:gQ Tryz.prog Bg 157 Ds:=by
 intro args H r c he;refine⟨P9 157 _ Tryz.func157 Lk aI,?_⟩;unfold Ds at he;split at he
 ·rename_i l
  obtain⟨h0,he⟩:=al he;have hlen:l.length<=281474976710656:=by simpa [avv] using h0
  have hc:c=none:=by split at he<;>(simp only[au4,au8] at he;exact he.2.symm)
  subst hc;refine⟨rL,fun base gh w vs hW _ hs dr=>?_⟩
  obtain⟨u,rfl,hu⟩:=I7 hs dr;obtain⟨s,rfl,hl⟩:=hu.kG;have pO:s.size<=281474976710656:=by
   have:s.size=s.data.toList.length:=ag
   rw[this,hl];exact hlen
  split at he
  ·rename_i v gn
   simp only[au4,au8,av'] at he;subst he;refine (Xk s ah v (by rw[hl];exact gn) w).mono ?_
   rintro e w' ⟨rfl,hw⟩
   refine⟨_,gh,rfl,aaK hW ?_ (Nu (.plain _ _ (.int _ _)) (.plain _ _ .df))⟩
   rcases hw with rfl|⟨t,rfl⟩
   ·exact Below.refl _ _
   ·exact Lib.bytesWorld_below _ _ _
  ·rename_i gn
   simp only[au4,au8,av'] at he;subst he;obtain⟨ev,h1,h2⟩:=Jr hW (g:=8) rfl;refine (LC s pO (by rw[hl];exact gn) ev w h1 h2).mono ?_
   rintro e w' ⟨N,rfl,hb⟩
   rw[hl];exact⟨_,gh,rfl,aaK hW hb (Nu (.plain _ _ (.int _ _)) (.iface _ _ _ (.plain _ _ (.any _ rfl))))⟩
  ·rename_i mJ hnr
   simp only[au4,au8,av'] at he;subst he;obtain⟨ev,h1,h2⟩:=Jr hW (g:=7) rfl;refine (Se s pO (by rw[hl];exact fun v e=>mJ v e) (by rw[hl];exact fun e=>hnr e) ev w h1 h2).mono ?_
   rintro e w' ⟨N,rfl,hb⟩
   exact⟨_,gh,rfl,aaK hW hb (Nu (.plain _ _ (.int _ _)) (.iface _ _ _ (.plain _ _ (.any _ rfl))))⟩
 ·cases he
end
def ab8:(Tryz.prog.info? 134).map (·.size)=some 2:=Lk
def ajm:liesAt Tryz.prog Tryz.prog.depth 134 (2 / Tryz.prog.cellsOf 134) 0 134 1=true:=Lk
def Pz(b:Nat)(w:World)(h0:w.cell? ⟨b,0,none⟩=some (.pointer (some ⟨b,0,none⟩))) :
  Calls Tryz.prog 113 #[.pointer (some ⟨b,0,none⟩)] w fun e w'=>e=.returned (.tuple #[])/\w'=w:=by
 obtain⟨j,hj,_⟩:=au2.1 ab8
 go_enter Tryz.func113,Tryz.ntmps113
 go_wp2
 rw[Lib.run_neq_ptr_same w _ Tryz.underlying131 hj]
 go_wp2
 go_end0
 exact⟨rfl,rfl⟩
def LS(b:Nat)(w:World)(h0:w.cell? ⟨b,0,none⟩=some (.pointer none))(hsh:w.shape? b=some (134,2))(hfz:w.frozen? ⟨b,0,none⟩=false) :
  Calls Tryz.prog 113 #[.pointer (some ⟨b,0,none⟩)] w fun e w'=>e=.returned (.tuple #[])/\w'=w.setCell ⟨b,0,none⟩ (.pointer (some ⟨b,0,none⟩)):=by
 obtain⟨j,hj,hjs⟩:=au2.1 ab8
 go_enter Tryz.func113,Tryz.ntmps113
 go_wp2
 rw[Lib.run_to_unsafe w ⟨b,0,none⟩ Tryz.underlying131 Tryz.underlying195 hj (by rw[hjs];decide) hsh (Nat.zero_lt_succ 1)]
 simp only[Result.andThen];rw[Oper.upon_value]
 go_wp2
 rw[run_callFunc_extern Tryz.func148 Lk Lk Lk (e:=Extern.AbiNoEscape.same) Lk];rw[Lib.run_noEscape];simp only[Result.andThen];rw[Oper.upon_value]
 go_wp2
 rw[Lib.run_from_unsafe w ⟨b,0,none⟩ Tryz.underlying195 Tryz.underlying131 hj hsh ajm];simp only[Result.andThen];rw[Oper.upon_value]
 go_wp2
 go_end0
 exact⟨rfl,rfl⟩
theorem Cv{G:Nat->List AV} : gQ Tryz.prog G 113 qQ:=by
 intro args H r c he;refine⟨P9 113 _ Tryz.func113 Lk aI,?_⟩;unfold qQ at he;split at he
 ·rename_i l
  split at he
  ·
   rename_i x hH;simp only[au4,au8] at he;obtain⟨rfl,rfl⟩:=he;have aZ:l<H.length:=(au7.1 hH).1;refine⟨⟨by simp[qx],fun c' BT=>?_⟩,fun base gh w vs hW _ hs dr=>?_⟩
   ·grind
   ·obtain⟨u,rfl,hu⟩:=I7 hs dr
    obtain⟨_,rfl⟩:=hu.kF;obtain⟨hκ,hS,C,ty,hb,hC,iL⟩:=hW.boxes l _ _ hH;obtain⟨C2,fr2,kO,hC2⟩:=hW.types l _ _ hH aI;rw[hb] at kO;injection kO with kO
    injection kO with e1 e2 e3
    subst e1 e2;have hC2:C.size=2:=hC2;have h0:C[0]?=some C[0]:=avh ah;have Ty:C[0]=.pointer none:=by
     have:=(iL 0 _ .nf h0 rfl).2.dropped
     generalize C[0]=V at this;cases this with
     | plain _ _ h=>cases h;rfl
    have di:w.cell? ⟨gh.ρ l,0,none⟩=some (.pointer none):=by rw[cell_of_row w _ 0 C _ _ hb,h0,Ty]
    have mJ:∀ o,gh.S (gh.ρ l) o->(C.setIfInBounds 0 (.pointer (some ⟨gh.ρ l,0,none⟩)))[o]?=C[o]?:=fun o ho=>(hS o ho).elim
    have st:=nN hW hb ag mJ H.length;rw[hκ] at st;refine (LS (gh.ρ l) w di (by simp[World.shape?,hb,hC2]) (by simp[World.frozen?,hb])).mono ?_
    rintro e w' ⟨rfl,rfl⟩
    rw[setCell_eq_setRow w (gh.ρ l) 0 C _ (0,0) _ hb];have nW:a8 G base (H.set l (.box 134 [.ref l 0,x])) gh (w.setRow (gh.ρ l) (C.setIfInBounds 0 (.pointer (some ⟨gh.ρ l,0,none⟩)))):=by
     refine hW.Nk st hH (by intro k hk;simp[hk]) (fun b o ho=>by simpa using hW.qa b o ho) (fun b hb=>by simpa using hW.ry b hb) ⟨hκ,hS,_,_,setRow_heap w _ C _ _ _ hb,cY hC,fun j v y hv hy=>?_⟩ ?_ ?_ ?_
     ·match j with
      | 0 =>
       simp at hy;subst hy;rw[Array.getElem?_setIfInBounds_self_of_lt ah] at hv;injection hv with hv
       subst hv;exact⟨rfl,.inl (.ref l 0 aZ)⟩
      | j+1 =>
       rw[axm ah] at hv;obtain⟨k1,k2⟩:=iL (j+1) v y hv (cY hy);exact⟨k1,k2.mono st (Nat.le_refl _) ag⟩
     ·have:=hW.refs l _ _ hH
      simp only[List.all_cons,List.all_nil,awb,au6] at this ⊢;exact⟨by simp[bf],this.2⟩
     ·exact fun _ _ h=>h
     ·rfl
    refine⟨_,gh,rfl,by simp[qx],nW,st.mono (fun p hp=>.inl ⟨l,hp⟩),fun _ h=>h,.inl .undef⟩
  ·
   rename_i l' y hH;obtain⟨h0,lZ⟩:=al he;clear he;have ru:l=l':=by simpa [iI] using h0
   simp only[au4,au8] at lZ;obtain⟨rfl,rfl⟩:=lZ;subst ru;refine⟨rL,fun base gh w vs hW _ hs dr=>?_⟩
   obtain⟨u,rfl,hu⟩:=I7 hs dr;obtain⟨_,rfl⟩:=hu.kF;obtain⟨hκ,hS,C,ty,hb,hC,iL⟩:=hW.boxes l _ _ hH;have hC2:2<=C.size:=hC;have h0' : C[0]?=some C[0]:=avh ah;have Ty:C[0]=.pointer (some ⟨gh.ρ l,0,none⟩):=(VR.kF (iL 0 _ (.ref l 0) h0' rfl).2.dropped).2;refine (Pz (gh.ρ l) w (by rw[cell_of_row w _ 0 C _ _ hb,h0',Ty])).mono ?_
   rintro e w' ⟨rfl,rfl⟩
   exact⟨_,gh,rfl,aaK hW (Below.refl _ _) .undef⟩
  ·cases he
 ·cases he
def Nr(b:Nat)(a q:Option Addr)(n cap:Nat)(s:ByteArray)(w W1 W:World)(c1:w.drew.cell? ⟨b,1,none⟩=some (.slice a n cap))(c2:W1.cell? ⟨b,1,none⟩=some (.slice a n cap))
  (hSD:(Builtin.unsafeSliceData_ #[132] 171 #[.slice a n cap]).run Tryz.prog w.drew=.ok (.pointer q) W1)
  (hUS:(Builtin.unsafeString_ #[171,3] 9 #[.pointer q,.int .i64 n]).run Tryz.prog W1=.ok (.string s) W) :
  Calls Tryz.prog 68 #[.pointer (some ⟨b,0,none⟩)] w fun e w'=>e=.returned (.string s)/\w'=W:=by
 have mixed:Tryz.prog.follows .mixedOrders=true:=by kernel_rfl
 go_enter Tryz.func68,Tryz.ntmps68
 go_wp2
 go_region_o
 all_goals (go_wp2;go_ret;exact⟨rfl,rfl⟩)
def MI{e:TypeId}(hc:P.cellsOf e=1)(count n off:Nat)(hn:off+n<=count):liesAt P P.depth e count off e n=true:=by
 have hd:P.depth=(2*(P.types.size+Made.depth)+1)+1:=rfl;rw[hd];simp only[liesAt,awx];left;rw[hd];simp[rowAt,hc,hn,sameLayout];exact .inl (Nat.mod_one off)
def vb(w:World)(pt it ty e:TypeId)(hp:P.underlying pt=some (.pointer e))(hc:P.cellsOf e=1)(g off cells:Nat)(hsh:w.shape? g=some (e,cells))(l:List UInt8)(h0:l≠[])(hn:off+l.length<=cells)(h63:l.length<=9223372036854775807)
  (di:∀ j x,l[j]?=some x->w.cell? ((⟨g,off,none⟩:Addr).add j)=some (.int .u8 x.toNat)) :
  (Builtin.unsafeString_ #[pt,it] ty #[.pointer (some ⟨g,off,none⟩),.int .i64 l.length]).run P w=.ok (.string ⟨l.toArray⟩) (w.freeze ⟨g,off,none⟩ l.length):=by
 have hl:l.length≠0:=by simpa using h0
 have WZ:=Lib.run_loadBytes (P:=P) w l ⟨g,off,none⟩ .empty di;have ail:=MI (P:=P) hc (cells / P.cellsOf e) l.length off (by rw[hc];simpa using hn)
 have al8:¬ (9223372036854775807:Int)<(l.length:Int):=by omega
 have TE:Builtin.unsafeString_ #[pt,it] ty #[.pointer (some ⟨g,off,none⟩),.int .i64 l.length] =
   (do
    let n <- asInt (.int .i64 l.length)
    if n<0 then runtimePanic (.error "unsafe.String: len out of range")
    if n>IntKind.i64.max then unsupported (.unsafePointer "String: a length above the largest int")
    if n=0 then pure (.string .empty)
    else if <- variablesAt ⟨g,off,none⟩ (<- elemOf pt) n.toNat then do
     let s <- loadBytes ⟨g,off,none⟩ .empty n.toNat
     freeze ⟨g,off,none⟩ n.toNat
     pure (.string s)
    else unsupported (.unsafePointer "String: not so many bytes at ptr")):=rfl
 rw[TE];have TQ:IntKind.i64.max=9223372036854775807:=rfl;have Qo:¬ (l.length:Int)<0:=by omega
 simp[asInt,asIntOf,TQ,al8,Qo,hl,variablesAt,hsh,elemOf,run_underlying hp,ail,WZ]
section
section
variable {G:Nat->List AV}{base:Nat}{gh:Gh}{w w' : World}{H:ae}
def VT(hW:a8 G base H gh w)(st:Step (fun _=>False) H.length gh w gh w'){r:AV}(hv:VR gh H.length w' v r):pA G base H gh w r none v gh w' :=
 ⟨Nat.le_refl _,hW.step st (fun l=>⟨id,fun _=>id⟩) (fun b o h=>awk (hW.qa b o h) st.size) (fun b h=>⟨(hW.ry b h).1,awk (hW.ry b h).2 st.size⟩) (fun _ _ _ h=>.inl h),
  st.mono (fun _ h=>h.elim),fun _ h=>h,.inl hv⟩
theorem KZ(hW:a8 G base H gh w){b o n:Nat}{C:Array Value}{ty:TypeId}{fr:Nat × Nat}(hb:w.heap[b]?=some (.cells C ty fr))(hn:n≠0)(hS:∀ j,j<n->gh.S b (o+j))(h8:∃ m,C[o]?=some (.int .u8 m))(m:Nat) :
  Step (fun _=>False) m gh w gh (w.drew.freeze ⟨b,o,none⟩ n):=by
 have aZ:b<w.heap.size:=(avc.1 hb).1;have uM:∀ k,(w.drew.freeze ⟨b,o,none⟩ n).heap[k]?=if k=b then some (.cells C ty (if fr.1==fr.2 then (o,o+n) else (min fr.1 o,max fr.2 (o+n)))) else w.heap[k]?:=by
  intro k;unfold World.freeze;rw[if_neg hn]
  show (w.heap.modify b _)[k]?=_
  grind
 have di:∀ k j,(w.drew.freeze ⟨b,o,none⟩ n).cell? ⟨k,j,none⟩=w.cell? ⟨k,j,none⟩:=by
  intro k j;simp only[World.cell?,uM]
  grind
 have pO:(w.drew.freeze ⟨b,o,none⟩ n).heap.size=w.heap.size:=by
  unfold World.freeze
  simp_all
 have hos:(w.drew.freeze ⟨b,o,none⟩ n).os=w.os/\(w.drew.freeze ⟨b,o,none⟩ n).tape=w.tape/\(w.drew.freeze ⟨b,o,none⟩ n).output=w.output:=by
  unfold World.freeze;rw[if_neg hn];exact⟨rfl,rfl,rfl⟩
 refine⟨fun _ _ h=>h,fun k j _=>di k j,by rw[pO];exact Nat.le_refl _,hos.1,hos.2.1,hos.2.2,fun k hk _=>⟨?_,rfl,fun _ h=>h⟩,fun k hk=>hW.cB k (by rw[<- pO];rw[pO];exact hk),fun _ _=>rfl,fun k ox m' hm=>?_,fun k E ck _ h0=>?_⟩
 rotate_left 2
 ·grind
 ·rw[uM]
  by_cases IP:k=b
  ·subst IP
   rw[if_pos rfl,hb];obtain⟨lo,hi⟩:=fr;obtain⟨m8,h8⟩:=h8;have Ok:∀ q,(∀ o,q<=o->¬ gh.S k o)->o+n<=q:=fun q mJ=>by
    rcases awQ (o+(n-1)) q with h|h
    ·omega
    ·grind
   by_cases hlh:(lo==hi)=true
   ·exact .inr ⟨C,ty,lo,hi,o,o+n,rfl,by rw[if_pos hlh],⟨o,m8,by simpa using hS 0 ah,h8⟩,fun q hq mJ=>Ok q mJ⟩
   ·exact .inr ⟨C,ty,lo,hi,min lo o,max hi (o+n),rfl,by rw[if_neg hlh],⟨o,m8,by simpa using hS 0 ah,h8⟩,fun q hq mJ=>by have:=Ok q mJ;omega⟩
  ·rw[if_neg IP];exact .inl rfl
 ·obtain⟨C',fr',h1,h2⟩:=hm
  by_cases IP:k=b
  ·subst IP
   rw[hb] at h1;injection h1 with h1
   injection h1 with e1 e2 e3
   subst e1 e2;exact⟨C,_,by rw[uM,if_pos rfl],h2⟩
  ·exact⟨C',fr',by rw[uM,if_neg IP];exact h1,h2⟩
end
theorem FU:∀ {e:List (List AV)} {l:List UInt8},bytesOf e=some l->e.length=l.length/\∀ (i:Nat) (b:UInt8),l[i]?=some b->∃ m:Int,e[i]?=some [.int .u8 m]/\b=UInt8.ofNat m.toNat
 | [],l,h=>by
  simp only[bytesOf,au4] at h
  grind
 | r :: e,l,h=>by
  unfold bytesOf at h;split at h
  ·cases ‹_ :: _=[]›
  ·rename_i n e' heq
   injection heq with h1 h2
   subst h1 h2;obtain⟨l',h3,rfl⟩:=au2.1 h;obtain⟨k1,k2⟩:=FU h3
   grind
  ·cases h
theorem zq{G:Nat->List AV} : gQ Tryz.prog G 68 zc:=by
 intro args H r c he;refine⟨P9 68 _ Tryz.func68 Lk aI,?_⟩;unfold zc at he;split at he
 ·rename_i l
  split at he
  ·rename_i x e hH
   obtain⟨h0,he⟩:=al he;simp only[au6] at h0;have hlen:e.length<=4611686018427387904:=by simpa [avv] using h0.1.1
   have ad3:=h0.1.2;obtain⟨bs,hbs,he⟩:=au2.1 he;simp only[au8] at he;obtain⟨rfl,rfl⟩:=he;obtain⟨yH,hbr⟩:=FU hbs;have aZ:l<H.length:=(au7.1 hH).1;refine⟨rL,fun base gh w vs hW _ hs dr=>?_⟩
   obtain⟨u,rfl,hu⟩:=I7 hs dr;obtain⟨_,rfl⟩:=hu.kF;obtain⟨hκ,hS,C,ty,hb,hC,iL⟩:=hW.boxes l _ _ hH;have hC2:2<=C.size:=hC;have h1:C[1]?=some C[1]:=avh ah;have hv:=(iL 1 _ (.slice e true) h1 rfl).2;have di:w.cell? ⟨gh.ρ l,1,none⟩=some C[1]:=by rw[cell_of_row w _ 1 C _ _ hb,h1]
   generalize C[1]=v at hv di
   by_cases dk:e=[]
   ·grind
   ·have dQ:PR gh.S w v (.slice e false):=by
     rcases hv with hv|⟨e',heq,h,_⟩
     ·cases hv with
      | plain _ _ h=>cases h
      | full a k _ h hz=>exact h
     ·grind
    cases dQ with
    | dF=>exact absurd rfl dk
    | slice b o n cap sz _ f hn kY bX adv aiF =>
     subst hn;have Ab:0<e.length:=awq.2 dk;have JR:0<bs.length:=ah;obtain⟨m0,hm0,_⟩:=hbr 0 bs[0] (au5 JR);have kj:sz=1:=(bX 0 _ hm0).symm;subst kj;have each:∀ (i:Nat) (x:UInt8),bs[i]?=some x->gh.S b (o+i)/\w.cell? ⟨b,o+i,none⟩=some (.int .u8 x.toNat):=by
      intro i x hx;obtain⟨m,hm,rfl⟩:=hbr i x hx;obtain⟨k1,k2,_⟩:=adv i 0 _ _ hm rfl;have hr:=aiF i 0 _ _ hm rfl;have hf:f i 0=.int .u8 m:=by
       generalize f i 0=V at hr;cases hr;rfl
      simp only[axq,avG] at k1 k2;refine⟨k1,?_⟩;rw[k2,hf];have hm8:=ava.1 ad3 _ (avb hm);simp only[au6,avf] at hm8;have e1:((UInt8.ofNat m.toNat).toNat:Int)=m:=by
       rw[awW];omega
      rw[e1]
     obtain⟨Cb,fr,xR⟩:∃ Cb fr,w.heap[b]?=some (.cells Cb jo fr):=by
      have:=each 0 bs[0] (au5 JR)
      exact hW.bytes b (o+0) _ this.1 this.2
     have hsh:w.drew.shape? b=some (5,Cb.size):=by
      have:w.drew.heap[b]?=some (.cells Cb jo fr):=xR
      simp[World.shape?,this]
     have X6:o+bs.length<=Cb.size:=by
      have:=(each (bs.length-1) bs[bs.length-1] (au5 ah)).2
      rw[cell_of_row w b _ Cb _ _ xR] at this;have:=(avc.1 this).1
      omega
     have c1:w.drew.cell? ⟨gh.ρ l,1,none⟩=some (.slice (some ⟨b,o,none⟩) e.length cap):=di;have hSD:(Builtin.unsafeSliceData_ #[132] 171 #[.slice (some ⟨b,o,none⟩) e.length cap]).run Tryz.prog w.drew=.ok (.pointer (some ⟨b,o,none⟩)) w.drew:=Lib.run_unsafeSliceData_row _ _ _ _ _ _ ah;have hUS:=vb (P:=Tryz.prog) w.drew 171 3 9 5 Tryz.underlying171 Lk b o Cb.size hsh bs (by intro e;rw[e] at JR;simp at JR) X6 ah (fun j x hx=>by
      have Tt:(Addr.mk b o none).add j=⟨b,o+j,none⟩:=by
       unfold Addr.add;split
       ·rename_i h0;subst h0;simp
       ·simp
      rw[Tt];exact (each j x hx).2)
     rw[<- yH] at hUS;refine (Nr (gh.ρ l) _ _ e.length cap _ w _ _ c1 c1 hSD hUS).mono ?_
     rintro e' w' ⟨rfl,rfl⟩
     refine⟨_,gh,rfl,VT hW (KZ hW xR ah (fun j hj=>(each j bs[j] (au5 ah)).1) ⟨bs[0].toNat,?_⟩ _) (.plain _ _ (.str _ _ rfl))⟩
     have:=(each 0 bs[0] (au5 JR)).2
     rw[cell_of_row w b _ Cb _ _ xR] at this
     simpa using this
  ·cases he
 ·cases he
end
end Go.Proofs.YtbadnagdfefbnaaGreatDoor
namespace Go.Proofs.YtbadnagdfefbnaaGreatDoor
open Go Go.Abs Go.Proofs
variable {st:AS}{K:AS->Prop}{x:AV × Option fP}{b ka o va:Bool}{fn:Func}{f:FuncId}{rows todo:List (List AV)}{args cur:List AV}{fs:List Fm}{es:List Nat}{os:List aV}{g gen i k lo off pl z:Nat}{s1:PS}{T:aD}{a:bS}
def Vm:∀ q∈mO,∃ w i j,q=[.str w,.int .i64 i,.int .i64 j]/\ot i=(w,j):=by
 intro q hq;simp only[mO,avs,avQ,aww] at hq
 rcases hq with rfl|rfl|rfl|rfl|rfl|rfl|rfl|rfl|rfl|rfl<;>exact⟨_,_,_,rfl,aI⟩
def No{n:Int}(h:∀ q∈mO,∀ w i j,q=[.str w,.int .i64 i,.int .i64 j]->i≠n):(n=9/\ot n=([110,111,116],7))\/(n=11/\ot n=([108,101,110],7))\/(n≠9/\n≠11/\ot n=([],7)):=by
 have hh:∀ w i j,[AV.str w,.int .i64 i,.int .i64 j]∈mO->i≠n:=fun w i j hm=>h _ hm _ _ _ rfl
 have h0:=hh [43] 0 5 (by simp[mO])
 have h1:=hh [45] 1 5 (by simp[mO])
 have h2:=hh [42] 2 6 (by simp[mO])
 have h3:=hh [47] 3 6 (by simp[mO])
 have h4:=hh [37] 4 6 (by simp[mO])
 have h5:=hh [60] 5 3 (by simp[mO])
 have h6:=hh [61,61] 6 3 (by simp[mO])
 have h7:=hh [97,110,100] 7 2 (by simp[mO])
 have h8:=hh [111,114] 8 1 (by simp[mO])
 have h10:=hh [106,111,105,110] 10 4 (by simp[mO])
 by_cases e9:n=9
 ·subst e9;exact .inl ⟨rfl,rfl⟩
 ·by_cases e11:n=11
  ·subst e11;exact .inr (.inl ⟨rfl,rfl⟩)
  ·refine .inr (.inr ⟨e9,e11,?_⟩)
   rw[ot,if_pos ah]
def aao{kz:Nat}{H:ae}{t d:Nat}{r:List aV}{c:aK}{Q:bH->AS->Prop}(h:T t=.iter g kz ka va cur todo)
  (h1:todo=[]->W A0 (.region r) ⟨T.put d (.tuple [.bool false]),H,lo,gen⟩ (andThen (fun s=>W A0 c s Q) Q))
  (h2:∀ q rest,todo.Perm (q :: rest)->W A0 (.region r) ⟨(T.put t (.iter g kz ka va q rest)).put d (.tuple [.bool true,qY ka (q.take kz),qY va (q.drop kz)]),H,lo,gen⟩ (andThen (fun s=>W A0 c s Q) Q)) :
  WN A0.aY (aj A0) (.seq (.region (⟨some d,none,.next (.tmp t)⟩ :: r)) c) ⟨T,H,lo,gen⟩ Q:=by
 have key:∀ s,W A0 (.region r) s (andThen (fun s=>W A0 c s Q) Q)->qh A0.aY (aj A0) r s (fun s'=>WN A0.aY (aj A0) c s' Q):=fun s h=>by
  rw[<- FJ] at h;exact B7 (c:=.seq (.region r) c) h
 exact⟨g,kz,ka,va,cur,todo,h,fun e=>key _ (h1 e),fun q rest hp=>key _ (h2 q rest hp)⟩
def HS:aK:=.seq (.region [⟨some 20,none,.Kn 1 false false⟩,⟨none,none,.MN 1 false false 1 [CK.i] (.tmp 20) (.xQ (.int .i64 9)) (.xQ (.str [110,111,116]))⟩,⟨none,none,.MN 1 false false 1 [CK.i] (.tmp 20) (.xQ (.int .i64 11)) (.xQ (.str [108,101,110]))⟩,⟨some 21,none,.mov false false (.tmp 20)⟩,⟨some 22,none,.mov false false (.tmp 0)⟩,⟨some 23,none,.look false 1 false false [CK.i] [.str []] (.tmp 21) (.tmp 22)⟩,⟨some 2,none,.mov true false (.tmp 23)⟩,⟨some 3,none,.mov true false (.xQ (.int .i64 7))⟩]) .ret
def afv{kz:Nat}{H:ae}{t u:Nat}(h:T u=.iter g kz ka va cur todo)(hk:(Nat.ble kz cur.length&&!cur.isEmpty)=true) :
  WO A0 (⟨some t,none,.ent (.tmp u)⟩ :: os) ⟨T,H,lo,gen⟩ K=jK A0 (some (.tuple [qY ka (cur.take kz),qY va (cur.drop kz)])) t os T H lo gen K:=ik (by simp only[aR,h,hk,cond_true,ave])
def xI{H:ae}{n:Int}{x:List UInt8}(q0:T 0=.int .i64 n)
  (hx:(dK [.i] [.int .i64 n] [[.int .i64 9,.str [110,111,116]],[.int .i64 11,.str [108,101,110]]]).map (pW false false [.str []] 1 [[.int .i64 9,.str [110,111,116]],[.int .i64 11,.str [108,101,110]]])=some (.str x)) :
  W A0 HS ⟨T,H,H.length,gen⟩ (done H.length [.tmp 2,.tmp 3] (.tuple [.str x,.int .i64 7],none)):=by
 have D6:∀ x:bS,(H++[x])[H.length]?=some x:=fun x=>ag
 have qK:∀ x y:bS,(H++[x]).set H.length y=H++[y]:=fun x y=>ag
 have fe9:dK [.i] [.int .i64 9] []=some none:=rfl;have Te:dK [.i] [.int .i64 11] [[.int .i64 9,.str [110,111,116]]]=some none:=rfl;have RX:∀ (k:IntKind) (n:Int),(AV.int k n).isAgg=false:=fun _ _=>rfl
 have RY:∀ (s:List UInt8),(AV.str s).isAgg=false:=fun _=>rfl
 have ahu:(false==false)=true:=rfl;have sn:∀ (es:List (List AV)) (r:List AV),wj es none r=es++[r]:=fun _ _=>rfl
 have v8:decide (H.length<H.length)=false:=ag;have hlx:y4 (H++[.map 1 false false [[.int .i64 9,.str [110,111,116]],[.int .i64 11,.str [108,101,110]]]]) false 1 false false [.i] [.str []] (.mref H.length) (.int .i64 n)=some (.str x):=by
  simp only[y4,UN,AV.drop,AV.cells,au9,D6];exact hx
 unfold HS;simp(disch:=omega)only[oy,da,cj,cE,cr,gK,aS,aR,bt,aE.eval,AS.ca,↓reduceIte,Nat.reduceEqDiff,Option.isSome,Option.isNone,cond_true,cond_false,Nat.reduceBEq,Nat.reduceAdd,Nat.reduceMul,aa,cz,eq_self,reduceCtorEq,gF,de,cn,bL,bound,dj,AS.bG,aP,bN,bz,Nat.reduceLeDiff,cA,putAt,Int.reduceEq,Int.reduceLT,Int.reduceLE,Int.reduceBEq,Int.reduceBNe,Int.reduceAdd,Int.reduceNeg,Int.reduceSub,Int.reduceMul,dX,dW,dV,dU,dS,dR,dZ,dY,ax,bA,avH,avG,tf,D6,qK,fe9,Te,RX,RY,sn,v8,hlx,Bool.and_self,cond_true,q0]
 done
def Rk(n:Int)(H:ae):WN A0.aY (aj A0) C4.body { T:=fi [.int .i64 n],H,lo:=H.length,gen:=0 } (done H.length C4.results (.tuple [.str (ot n).1,.int .i64 (ot n).2],none)):=by
 unfold C4;simp only;refine B7 (c:=.region _) ?_;refine nK0 ?_;generalize hR:done H.length [iu.tmp 2,iu.tmp 3] (AV.tuple [AV.str (ot n).1,AV.int .i64 (ot n).2],none)=R;refine (show WN A0.aY (aj A0) (.seq _ (.block 0 (.loop _))) _ (andThen (fun s=>WN A0.aY (aj A0) HS s R) R) from ?_)
 refine (show WN A0.aY (aj A0) (.region _) _ (andThen (fun s=>WN A0.aY (aj A0) (.block 0 (.loop _)) s _) _) from ?_)
 refine vk _ _ ⟨((((fi [AV.int .i64 n]).put 2 (AV.str [])).put 3 (AV.int .i64 0)).put 6 (.mz 1 false true mO)).put 7 (.iter 0 1 false true [] mO),H,H.length,1⟩ rfl ?_;refine (show WN A0.aY (aj A0) (.loop _) _ (leave 0 (andThen (fun s=>WN A0.aY (aj A0) HS s R) R)) from ?_)
 refine⟨_,O8 (fun k s=>∃ T cur todo gen,s=⟨T,H,H.length,gen⟩/\T 0=.int .i64 n/\T 7=.iter 0 1 false true cur todo/\todo.length=k/\(∀ q∈todo,q∈mO)/\∀ q∈mO,q∈todo\/∀ w i j,q=[.str w,.int .i64 i,.int .i64 j]->i≠n) ?_ 10 _ ⟨_,[],mO,1,rfl,rfl,rfl,rfl,fun q h=>h,fun q h=>.inl h⟩⟩
 rintro k s ⟨T,cur,todo,gen,rfl,q0,q7,hk,X6,ft⟩
 refine aao q7 ?_ ?_
 ·intro e
  subst e;have A2:=No (n:=n) fun q hq=>(ft q hq).resolve_left ag
  refine nK0 ?_;refine B7 ?_;rw[<- hR]
  rcases A2 with ⟨e,hs⟩|⟨e,hs⟩|⟨e,e',hs⟩
  ·rw[hs];exact xI (n:=n) (nD q0) (by rw[e];rfl)
  ·rw[hs];exact xI (n:=n) (nD q0) (by rw[e];rfl)
  ·rw[hs]
   have e1:(n==(9:Int))=false:=dq;have e2:(n==(11:Int))=false:=dq;exact xI (n:=n) (nD q0) (by simp only[dK,cD,axY,cond_true,ave,au9,awb,cond_false,e1,e2,awf];rfl)
 ·intro q rest hp
  obtain⟨w,i,j,rfl,hs⟩:=Vm q (X6 _ (hp.mem_iff.2 (List.mem_cons_self)));have X4:∀ (T:aD) (H:ae) (lo gen t u:Nat) (os:List aV) (K:AS->Prop),T u=.iter 0 1 false true [AV.str w,AV.int .i64 i,AV.int .i64 j] rest->WO A0 (⟨some t,none,.ent (.tmp u)⟩ :: os) ⟨T,H,lo,gen⟩ K=jK A0 (some (.tuple [.str w,.agg [.int .i64 i,.int .i64 j]])) t os T H lo gen K:=fun T H lo gen t u os K h=>afv h rfl
  by_cases e:i=n
  ·subst e
   simp (disch:=first|omega|(simp(disch:=omega)only[dm,aa,simprocAttr];done)) only[oy,da,cj,cE,cr,gK,aS,aR,bt,aE.eval,AS.ca,↓reduceIte,Nat.reduceEqDiff,Option.isSome,Option.isNone,cond_true,cond_false,Nat.reduceBEq,Nat.reduceAdd,Nat.reduceMul,aa,cz,eq_self,reduceCtorEq,gF,de,cn,bL,bound,dj,AS.bG,aP,bN,bz,Nat.reduceLeDiff,cA,putAt,Int.reduceEq,Int.reduceLT,Int.reduceLE,Int.reduceBEq,Int.reduceBNe,Int.reduceAdd,Int.reduceNeg,Int.reduceSub,Int.reduceMul,dX,dW,dV,dU,dS,dR,dZ,dY,ax,bA,avH,avG,q0,X4,qY,List.headD_cons,AV.drop,ab]
   rw[<- hR,hs];exact uj
  ·simp (disch:=first|omega|(simp(disch:=omega)only[dm,aa,simprocAttr];done)) only[oy,da,cj,cE,cr,gK,aS,aR,bt,aE.eval,AS.ca,↓reduceIte,Nat.reduceEqDiff,Option.isSome,Option.isNone,cond_true,cond_false,Nat.reduceBEq,Nat.reduceAdd,Nat.reduceMul,aa,cz,eq_self,reduceCtorEq,gF,de,cn,bL,bound,dj,AS.bG,aP,bN,bz,Nat.reduceLeDiff,cA,putAt,Int.reduceEq,Int.reduceLT,Int.reduceLE,Int.reduceBEq,Int.reduceBNe,Int.reduceAdd,Int.reduceNeg,Int.reduceSub,Int.reduceMul,dX,dW,dV,dU,dS,dR,dZ,dY,ax,bA,avH,avG,q0,X4,qY,List.headD_cons,AV.drop,ab]
   have hl:=hp.length_eq;rw[List.length_cons] at hl;refine⟨rest.length,ah,_,[AV.str w,.int .i64 i,.int .i64 j],rest,_,rfl,fj q0,iJ,rfl,fun q hq=>X6 q (hp.mem_iff.2 (awc _ hq)),fun q hq=>?_⟩
   rcases ft q hq with h|h
   ·rcases avs.1 (hp.mem_iff.1 h) with rfl|h
    ·refine .inr fun w' i' j' he=>?_
     simp only[awe,AV.str.injEq,AV.int.injEq,awX,av'] at he;rw[<- he.2.1];exact e
    ·exact .inl h
   ·exact .inr h
def Rj{P:Program}(hA:lV P A0)(IN:P.funcs[144]?=some fn){dI locals muts:List Nat}(hc:bp P dI locals muts fn=some C4):gQ P Bg 144 vI:=by
 refine agv (g:=vI) hA IN hc rfl ?_ ?_
 ·intro args H r c h
  unfold vI at h;split at h
  ·injection h with h;injection h with h1 h2;subst h2;exact⟨Nat.le_refl _,fun c h=>by cases h⟩
  ·cases h
 ·intro args H x h
  unfold vI at h;split at h
  ·injection h with h;subst h;exact⟨rfl,Rk _ _⟩
  ·cases h
def fo{i v:aB}(h:Tryz.prog.funcs[f]?=some fn)(e:some i=some v)(k:HV fn i=some i:=by kernel_rfl):∃ fn dI locals muts,Tryz.prog.funcs[f]?=some fn/\bp Tryz.prog dI locals muts fn=some v:=⟨fn,_,_,_,h,e ▸ k⟩
def HC(f:FuncId)(qw:aB)(h:fns f=some qw):∃ fn dI locals muts,Tryz.prog.funcs[f]?=some fn/\bp Tryz.prog dI locals muts fn=some qw:=by
 unfold fns at h;split at h
 ·exact fo Tryz.func9 h
 ·exact fo Tryz.func10 h
 ·exact fo Tryz.func8 h
 ·exact fo Tryz.func24 h
 ·exact fo Tryz.func11 h
 ·exact fo Tryz.func12 h
 ·exact fo Tryz.func30 h
 ·exact fo Tryz.func31 h
 ·exact fo Tryz.func32 h
 ·exact fo Tryz.func33 h
 ·exact fo Tryz.func34 h
 ·exact fo Tryz.func35 h
 ·exact fo Tryz.func15 h
 ·exact fo Tryz.func36 h
 ·exact fo Tryz.func37 h
 ·exact fo Tryz.func29 h
 ·exact fo Tryz.func22 h
 ·exact fo Tryz.func14 h
 ·exact fo Tryz.func13 h
 ·exact fo Tryz.func38 h
 ·exact fo Tryz.func39 h
 ·exact fo Tryz.func40 h
 ·exact fo Tryz.func41 h
 ·exact fo Tryz.func42 h
 ·exact fo Tryz.func19 h
 ·exact fo Tryz.func20 h
 ·exact fo Tryz.func43 h
 ·exact fo Tryz.func71 h
 ·exact fo Tryz.func75 h
 ·exact fo Tryz.func76 h
 ·exact fo Tryz.func77 h
 ·exact fo Tryz.func78 h
 ·exact fo Tryz.func79 h
 ·exact fo Tryz.func80 h
 ·exact fo Tryz.func81 h
 ·exact fo Tryz.func16 h
 ·exact fo Tryz.func82 h
 ·exact fo Tryz.func83 h
 ·exact fo Tryz.func73 h
 ·exact fo Tryz.func74 h
 ·exact fo Tryz.func48 h
 ·exact fo Tryz.func49 h
 ·exact fo Tryz.func84 h
 ·exact fo Tryz.func85 h
 ·exact fo Tryz.func86 h
 ·exact fo Tryz.func87 h
 ·exact fo Tryz.func88 h
 ·exact fo Tryz.func89 h
 ·exact fo Tryz.func90 h
 ·exact fo Tryz.func91 h
 ·exact fo Tryz.func58 h
 ·exact fo Tryz.func59 h
 ·exact fo Tryz.func60 h
 ·exact fo Tryz.func61 h
 ·exact fo Tryz.func63 h
 ·exact fo Tryz.func64 h
 ·exact fo Tryz.func21 h
 ·exact fo Tryz.func66 h
 ·exact fo Tryz.func119 h
 ·exact fo Tryz.func121 h
 ·exact fo Tryz.func122 h
 ·exact fo Tryz.func47 h
 ·exact fo Tryz.func123 h
 ·exact fo Tryz.func124 h
 ·exact fo Tryz.func125 h
 ·exact fo Tryz.func126 h
 ·exact fo Tryz.func127 h
 ·exact fo Tryz.func128 h
 ·exact fo Tryz.func120 h
 ·exact fo Tryz.func95 h
 ·exact fo Tryz.func129 h
 ·exact fo Tryz.func130 h
 ·exact fo Tryz.func131 h
 ·exact fo Tryz.func132 h
 ·exact fo Tryz.func133 h
 ·exact fo Tryz.func134 h
 ·exact fo Tryz.func135 h
 ·exact fo Tryz.func100 h
 ·exact fo Tryz.func101 h
 ·exact fo Tryz.func103 h
 ·exact fo Tryz.func104 h
 ·exact fo Tryz.func105 h
 ·exact fo Tryz.func106 h
 ·exact fo Tryz.func107 h
 ·exact fo Tryz.func108 h
 ·exact fo Tryz.func109 h
 ·exact fo Tryz.func110 h
 ·exact fo Tryz.func111 h
 ·exact fo Tryz.func112 h
 ·exact fo Tryz.func65 h
 ·exact fo Tryz.func153 h
 ·exact fo Tryz.func94 h
 ·exact fo Tryz.func154 h
 ·exact fo Tryz.func155 h
 ·exact fo Tryz.func156 h
 ·exact fo Tryz.func138 h
 ·exact fo Tryz.func158 h
 ·exact fo Tryz.func139 h
 ·exact fo Tryz.func141 h
 ·exact fo Tryz.func142 h
 ·exact fo Tryz.func143 h
 ·exact fo Tryz.func144 h
 ·exact fo Tryz.func145 h
 ·exact fo Tryz.func146 h
 ·exact fo Tryz.func147 h
 ·exact fo Tryz.func173 h
 ·exact fo Tryz.func174 h
 ·exact fo Tryz.func175 h
 ·exact fo Tryz.func160 h
 ·exact fo Tryz.func165 h
 ·exact fo Tryz.func166 h
 ·exact fo Tryz.func191 h
 ·exact fo Tryz.func182 h
 ·exact fo Tryz.func183 h
 ·exact fo Tryz.func194 h
 ·exact fo Tryz.func220 h
 ·exact fo Tryz.func221 h
 ·exact fo Tryz.func236 h
 ·exact fo Tryz.func3 h
 ·exact fo Tryz.func44 h
 ·exact fo Tryz.func45 h
 ·exact fo Tryz.func46 h
 ·exact fo Tryz.func93 h
 ·exact fo Tryz.func137 h
 ·cases h
theorem afa(f:FuncId)(g:List AV->ae->Option (AV × Option fP))(h:ov0 f=some g):gQ Tryz.prog Bg f g:=by
 unfold ov0 at h
 grind [C9,A3,yQ,Co,zq,Cv]
def vL:lV Tryz.prog A0:=⟨by kernel_rfl,HC,afa⟩
theorem Wh:gQ Tryz.prog Bg 144 vI:=Rj vL Tryz.func144 Uw
theorem abW(f:FuncId)(g:List AV->ae->Option (AV × Option fP))(h:ov f=some g):gQ Tryz.prog Bg f g:=by
 unfold ov at h;split at h
 ·grind [Wh]
 ·grind [C9]
 ·grind [A3]
 ·grind [yQ]
 ·grind [Co]
 ·grind [zq]
 ·grind [Cv]
 ·cases h
def M7:lV Tryz.prog A:=⟨vL.mixed,HC,abW⟩
abbrev Sd(f:FuncId)(R:Rel):Prop:=gQ Tryz.prog Bg f (mg R)
def BJ{tk:List Tk}{s s':PS}{H:ae}(h:jx tk pl s H):jN H (some ⟨aJ tk pl s' H,pl⟩):=by
 refine⟨by show H.length<=(aJ tk pl s' H).length;rw[bF];exact Nat.le_refl _,fun c' e=>?_⟩
 injection e with e
 subst e;exact⟨awG h.q.lt,fun l (hl:l<pl)=>dH ah⟩
def x7{H H':ae}{tl c:Nat}{row:List AV}(hz:row.length=z)(h:uw H tl c z row=some H'):H.length<=H'.length/\∀ l,l<tl->H'[l]?=H[l]?:=by
 obtain⟨kc,m,es,Hd,cs,hA,hH⟩:=mQ hz h
 replace hH:H'=(sO Hd es row).set tl (.bZ (cs.set c (.sref H.length 0 (m+1) z))):=hH
 subst hH;refine⟨?_,fun l hl=>hA.aeN hl⟩
 rw[List.length_set,Hh,hA.hd];omega
def ahe{n:Nat}{H:ae}(h:xW n args H x):jN H x.2:=by
 cases h with
 | @mk tk pl tl s H t s' H' h hn aZ he ha =>
  obtain⟨h1,h2⟩:=x7 jk ha;rw[bF] at h1;refine⟨h1,fun c' e=>?_⟩
  injection e with e
  subst e;exact⟨awG h.q.lt,fun l (hl:l<pl)=>(h2 l ah).trans (dH ah)⟩
def ahh{n:Nat}{H:ae}(h:zL n args H x):jN H x.2:=by
 cases h with
 | no h hn hv aZ uc hw he=>exact BJ h
 | @mk tk pl pv tl s H w t s' H' h hn hv aZ uc hw hg he ha =>
  obtain⟨h1,h2⟩:=x7 jk ha;rw[bF] at h1;refine⟨h1,fun c' e=>?_⟩
  injection e with e
  subst e;exact⟨awG h.q.lt,fun l (hl:l<pl)=>(h2 l ah).trans (dH ah)⟩
def ahf{n:Nat}{H:ae}(h:Ca n args H x):jN H x.2:=by
 cases h with
 | @mk tk pl pv cv tl s H t s' H1 H' h hn hv hc aZ uc htc k1 he k2 =>
  obtain⟨h1,h2⟩:=x7 (z:=1) rfl k1;obtain⟨h3,h4⟩:=x7 jk k2;rw[bF] at h1 h3;refine⟨avz h1 h3,fun c' e=>?_⟩
  injection e with e
  subst e;exact⟨awG h.q.lt,fun l (hl:l<pl)=>by rw[h4 l ah,dH ah,h2 l ah,dH ah]⟩
def ahg{n:Nat}{H:ae}(h:Cd n args H x):jN H x.2:=by
 cases h with
 | mk h hn hv hf hc aZ hlf hr hw he =>
  refine⟨?_,fun c' e=>?_⟩
  ·show H.length<=(List.set _ _ _).length
   rw[List.length_set,bF];exact Nat.le_refl _
  ·injection e with e
   subst e;refine⟨awG h.q.lt,fun l hl=>?_⟩
   simp only at hl ⊢;rw[List.getElem?_set_ne ah];exact dH ah
def xH{A:AP}(hA:lV Tryz.prog A)(hG:A.aY=Bg)(IN:Tryz.prog.funcs[f]?=some fn){a b c:List Nat}{qw:aB}(hc:bp Tryz.prog a b c fn=some qw){R:Rel}
  (Mf:∀ {args H x},R args H x->jN H x.2) (hg:∀ {args H x},R args H x->args.length=qw.np/\D A qw.body ⟨fi args,H,H.length,0⟩ (dn qw H.length x)):Sd f R:=by
 have:=ach hA IN hc (g:=mg R) (fun args H r c h=>Mf (tD h)) (fun args H x h=>by
  obtain⟨h1,h2⟩:=hg (tD h);refine⟨h1,jR _ _ h2 fun e s h=>?_⟩
  cases e<;>exact h)
 rw[hG] at this;exact this
def XT(f:FuncId)(qw:aB)(h:ac9 f=some qw):∃ fn dI locals muts,Tryz.prog.funcs[f]?=some fn/\bp Tryz.prog dI locals muts fn=some qw:=by
 unfold ac9 at h;split at h
 ·exact fo Tryz.func91 h
 ·exact fo Tryz.func135 h
 ·exact HC f qw h
def uy{α:Type}{x y:α}(h:(bif b then some x else none)=some y):b=true/\x=y:=by
 cases b with
 | true=>exact⟨rfl,avS h⟩
 | false=>cases h
def Vj{n:Nat}(sE:Sd 91 (zK n))(sB:Sd 135 (zJ n))(sK:1<=k->Sd 173 (xW n))(sX:2<=k->Sd 134 (zL n))(sN:2<=k->Sd 191 (Ca n))(sS:3<=k->Sd 88 (Cd n))(sF:4<=k->Sd 41 (Fc n)):lV Tryz.prog (PA k n):=by
 refine⟨vL.mixed,XT,fun f g h=>?_⟩
 replace h:ovP k n f=some g:=h
 show gQ Tryz.prog Bg f g
 unfold ovP at h;split at h
 ·injection h with h;subst h;exact sE
 ·injection h with h;subst h;exact sB
 ·obtain⟨h1,rfl⟩:=uy h;exact sK (av6 h1)
 ·obtain⟨h1,rfl⟩:=uy h;exact sX (av6 h1)
 ·obtain⟨h1,rfl⟩:=uy h;exact sN (av6 h1)
 ·cases h
 ·cases h
 ·cases h
 ·cases h
 ·obtain⟨h1,rfl⟩:=uy h;exact sS (av6 h1)
 ·obtain⟨h1,rfl⟩:=uy h;exact sF (av6 h1)
 ·cases h
 ·cases h
 ·injection h with h;subst h;exact oa M7
def sKn{n:Nat}(sE:Sd 91 (zK n))(sB:Sd 135 (zJ n)):Sd 173 (xW n) :=
 xH (Vj (k:=0) sE sB ah ah ah ah ah) rfl Tryz.func173 UB ahe YF
def sXn{n:Nat}(sE:Sd 91 (zK n))(sB:Sd 135 (zJ n)):Sd 134 (zL n) :=
 xH (Vj (k:=1) sE sB (fun _=>sKn sE sB) ah ah ah ah) rfl Tryz.func134 Ut ahh PY
def sNn{n:Nat}(sE:Sd 91 (zK n))(sB:Sd 135 (zJ n)):Sd 191 (Ca n) :=
 xH (Vj (k:=1) sE sB (fun _=>sKn sE sB) ah ah ah ah) rfl Tryz.func191 UD ahf MO
def Vk{n:Nat}(sE:Sd 91 (zK n))(sB:Sd 135 (zJ n)):lV Tryz.prog (PA 2 n):=Vj sE sB (fun _=>sKn sE sB) (fun _=>sXn sE sB) (fun _=>sNn sE sB) ah ah
def ahc{n:Nat}{H:ae}(h:zK n args H x):jN H x.2:=by cases h with|mk h hn he=>exact BJ h
def ahb{n:Nat}{H:ae}(h:zJ n args H x):jN H x.2:=by cases h with|mk h hn h1 h7 he=>exact BJ h
def ahd{n:Nat}{H:ae}(h:Fc n args H x):jN H x.2:=by cases h with|mk h hn he=>exact BJ h
def Xo{n:Nat}{H:ae}(hR:zJ (n+1) args H x):args.length=jG.np/\D (PA 2 n) jG.body ⟨fi args,H,H.length,0⟩ (dn jG H.length x):=by
 cases hR with
 | @mk tk pl s H t s' lv h hn h1 h7 he =>
  refine⟨rfl,?_⟩
  by_cases h6:lv<=6
  ·exact Xn h ah h1 h6 he
  ·obtain rfl:lv=7:=ah
   exact Xp h ah he
def V4:∀ n,Sd 91 (zK n)/\Sd 135 (zJ n)
 | 0=>by
  refine⟨?_,?_⟩
  ·intro args H r c h
   have h:=tD h;cases h with
   | mk h hn he=>exact absurd he (by simp[pE])
  ·intro args H r c h
   have h:=tD h;cases h with
   | mk h hn h1 h7 he=>exact absurd he (by simp[pE])
 | n+1=>by
  obtain⟨sE,sB⟩:=V4 n;exact⟨xH (Vk sE sB) rfl Tryz.func91 Yy ahc S6,xH (Vk sE sB) rfl Tryz.func135 Uu ahb Xo⟩
def sSn(n:Nat):Sd 88 (Cd n):=xH (Vk (V4 n).1 (V4 n).2) rfl Tryz.func88 Yx ahg Wj
def ajB(n:Nat):lV Tryz.prog (PA 3 n):=Vj (V4 n).1 (V4 n).2 (fun _=>sKn (V4 n).1 (V4 n).2) (fun _=>sXn (V4 n).1 (V4 n).2) (fun _=>sNn (V4 n).1 (V4 n).2) (fun _=>sSn n) ah
theorem sFn(n:Nat):Sd 41 (Fc n):=xH (ajB n) rfl Tryz.func41 Yv ahd Tn
def xJ:∀ (r:ay) (j:Nat),(dp 10 j r<0/\dp 10 j r=-1/\bI true r=r.length)\/(∃ k:Nat,dp 10 j r=((j+k:Nat):Int)/\k<r.length/\bI true r=k+bI false (r.drop k))
 | [],j=>.inl ⟨by simp[dp],by simp[dp],rfl⟩
 | b :: r,j=>by
  by_cases hb:b.toNat=10
  ·refine .inr ⟨0,?_,ag,?_⟩
   ·simp[dp,hb]
   ·simp[bI,hb]
  ·have h1:bI true (b :: r)=1+bI true r:=by
    simp only[bI,if_neg hb];split
    ·rfl
    ·simp
   have h2:dp 10 j (b :: r)=dp 10 (j+1) r:=by
    simp only[dp];rw[av1 ah];rfl
   rw[h1,h2];rcases xJ r (j+1) with ⟨k1,k2,k3⟩|⟨k,k1,k2,k3⟩
   ·exact .inl ⟨k1,k2,by rw[k3,List.length_cons];omega⟩
   ·exact .inr ⟨k+1,by rw[k1];congr 1;omega,cY k2,by rw[k3,awK];omega⟩
def C3(s:ay)(H:ae):aj A 92 [.str s,.int .u8 10] H=some (.int .i64 (dp 10 0 s),none):=gU (g:=iG) rfl rfl
def Sm(s:ay)(H:ae)(hs:s.length<=4611686018427387904):aj A 48 [.str s] H=some (.int .i64 (bI false s),none):=by
 refine cW ai9.eq_1 ?_;refine nE0 ?_;refine oQ 0 (fun k=>Hd (fun T=>∃ n:Nat,T 0=.str s/\T 3=.int .i64 n/\n<=s.length/\k=s.length-n/\bI false s=n+bI false (s.drop n)) H H.length 0)
  (Hd (fun T=>T 3=.int .i64 (bI false s)) H H.length 0) (Hd (fun T=>T 2=.int .i64 (bI false s)) H H.length 0) ?_ ?_ ?_ s.length _ ?_
 ·rintro k st iz
  obtain⟨T,rfl,n,h0,h3,hn,hk,hc⟩:=iz.out
  by_cases h:n<s.length
  ·have hx:=au5 h
   have hd:=avr h;generalize s[n]=b at hx hd;rw[hd] at hc;have yH:b.toNat<256:=UInt8.toNat_lt b
   by_cases b32:b.toNat=32
   ·have e:bI false (b :: s.drop (n+1))=1+bI false (s.drop (n+1)):=by simp[bI,b32]
    rw[e] at hc;refine nO3 h0 h3 hx ?_;exact⟨s.length-(n+1),ah,n+1,ah,ah,rfl,ah⟩
   by_cases b10:b.toNat=10
   ·have e:bI false (b :: s.drop (n+1))=1+bI false (s.drop (n+1)):=by simp[bI,b10]
    rw[e] at hc;refine nO3 h0 h3 hx ?_;exact⟨s.length-(n+1),ah,n+1,ah,ah,rfl,ah⟩
   by_cases b35:b.toNat=35
   ·have e:bI false (b :: s.drop (n+1))=1+bI true (s.drop (n+1)):=by simp[bI,b35]
    rw[e] at hc;have hi:dp 10 0 (s.drop n)=dp 10 1 (s.drop (n+1)):=by
     rw[hd];simp only[dp];rw[av1 ah];rfl
    have hlen:(s.drop (n+1)).length=s.length-(n+1):=avF ..;rcases xJ (s.drop (n+1)) 1 with ⟨k1,k2,k3⟩|⟨j,k1,k2,k3⟩
    ·rw[k2] at hi
     rw[k3] at hc;simp(disch:=omega)only[dm,aa,simprocAttr,h0,h3,hx,avL,C3,hi];omega
    ·rw[k1] at hi
     rw[k3,av7] at hc;simp(disch:=omega)only[dm,aa,simprocAttr,h0,h3,hx,avL,C3,hi];exact⟨s.length-(n+(1+j)),ah,n+(1+j),ah,ah,rfl,by rw[hc,show n+1+j=n+(1+j) by omega];omega⟩
   ·have e:bI false (b :: s.drop (n+1))=0:=by simp[bI,b32,b10,b35]
    rw[e] at hc;refine nO3 h0 h3 hx ?_;omega
  ·have:n=s.length:=ah
   subst this;rw[awB] at hc;simp only[bI] at hc;refine nO2 h0 h3 ?_;omega
 ·intro st iz
  obtain⟨T,rfl,h3⟩:=iz.out;exact vE1 h3
 ·intro st iz
  obtain⟨T,rfl,h2⟩:=iz.out;exact vE1 h2
 ·refine nE0 ?_
  exact⟨0,ah,ah,ah,ag⟩
structure Tok where
 text:ay
 before:ay
 deriving DecidableEq
def zV(t:Tok):List AV:=[.str t.text,.str t.before]
def fN(l:List Tok):List (List AV):=l.map zV
def qU{l:List Tok} : (fN l).length=l.length:=by simp[fN]
def B6{l:List Tok}{t:Tok}(h:l[i]?=some t):(fN l)[i]?=some (zV t):=by simp[fN,h]
def fq(r:ay)(off:Nat):List Tok × ay × Int :=
 if bI false r=r.length then ([],r, -1)
 else if h2:gI (r.drop (bI false r))=0 then ([],[],((off+bI false r:Nat):Int))
 else
  let x:=fq (r.drop (bI false r+gI (r.drop (bI false r)))) (off+(bI false r+gI (r.drop (bI false r))))
  if x.2.2=-1 then (⟨(r.drop (bI false r)).take (gI (r.drop (bI false r))),r.take (bI false r)⟩ :: x.1,x.2.1, -1) else ([],[],x.2.2)
termination_by r.length
decreasing_by
 have:=nw false r
 have:=zt (r.drop (bI false r))
 simp only[avF] at this ⊢;omega
def bB(s:ay):List Tok × ay × Int:=if 8192<s.length then ([],[],8192) else fq s 0
def ahead(acc:List Tok)(x:List Tok × ay × Int):List Tok × ay × Int:=if x.2.2=-1 then (acc++x.1,x.2.1, -1) else ([],[],x.2.2)
def KS{r:ay}(h:bI false r=r.length)(acc:List Tok):ahead acc (fq r off)=(acc,r, -1):=by
 rw[fq,if_pos h];simp[ahead]
def KR{r:ay}(h:bI false r≠r.length)(h2:gI (r.drop (bI false r))=0)(acc:List Tok):ahead acc (fq r off)=([],[],((off+bI false r:Nat):Int)):=by
 rw[fq,if_neg h,dif_pos h2];simp only[ahead];rw[if_neg ah]
def Wa{r:ay}(h:bI false r≠r.length)(h2:gI (r.drop (bI false r))≠0)(acc:List Tok) :
  ahead acc (fq r off)=ahead (acc++[⟨(r.drop (bI false r)).take (gI (r.drop (bI false r))),r.take (bI false r)⟩]) (fq (r.drop (bI false r+gI (r.drop (bI false r)))) (off+(bI false r+gI (r.drop (bI false r))))):=by
 conv=>lhs;rw[fq,if_neg h,dif_neg h2]
 simp only[ahead];split
 ·simp
 ·rename_i hx;simp[]
def GZ{s:ay}{n:Nat}(hk:bI false (s.drop off)=k)(hn:gI (s.drop (off+k))=n)(h:k≠s.length-off)(h2:n≠0)(acc:List Tok) :
  ahead acc (fq (s.drop off) off)=ahead (acc++[⟨(s.take (off+k+n)).drop (off+k),(s.take (off+k)).drop off⟩]) (fq (s.drop (off+k+n)) (off+k+n)):=by
 subst hk;rw[<- av7] at hn;rw[Wa (by rw[avF];exact h) (by rw[hn];exact h2),hn]
 rw[av7,av7,List.take_drop,List.take_drop,axt]
def FK(s:ay)(h:¬ 8192<s.length):ahead [] (fq s 0)=bB s:=by
 unfold bB;rw[if_neg h];have key:∀ (r:ay) (off:Nat),(fq r off).2.2≠-1->fq r off=([],[],(fq r off).2.2):=by
  intro r off hx;rw[fq] at hx ⊢;split at hx
  ·exact absurd rfl hx
  ·rename_i h1
   rw[if_neg h1];split at hx
   ·rename_i h2;rw[dif_pos h2]
   ·rename_i h2
    rw[dif_neg h2];simp only at hx ⊢;split at hx
    ·exact absurd rfl hx
    ·rename_i h3;rw[if_neg h3]
 unfold ahead;split
 ·rename_i hx
  simp[<- hx]
 ·rename_i hx
  exact (key s 0 hx).symm
def G5{l:List Tok} : wm 2 (fN l) :=
 ⟨fun r hr=>by simp only[fN,List.mem_map] at hr;obtain⟨n,_,rfl⟩:=hr;rfl,Al fun r hr=>by simp only[fN,List.mem_map] at hr;obtain⟨n,_,rfl⟩:=hr;rfl⟩
def R9{l m:List Tok}(h:l.length+m.length<=1099511627776):aG false 2 32 (.slice (fN l) true) (.slice (fN m) o)=some (.slice (fN (l++m)) true):=by
 rw[wV G5 G5 (by rw[qU,qU];omega) (by rw[qU,qU];omega)];simp[fN]
def NJ{l:List Tok}{a b:ay}{o:Bool}(h:l.length<=1000000):aG false 2 32 (.slice (fN l) true) (.slice [[.str a,.str b]] o)=some (.slice (fN (l++[⟨a,b⟩])) true):=R9 (m:=[⟨a,b⟩]) dq
def Is(s:ay)(H:ae)(hs:s.length<=4611686018427387904) :
  aj A 13 [.str s] H=some (.tuple [.slice (fN (bB s).1) false,.str (bB s).2.1,.int .i64 (bB s).2.2],none):=by
 refine cW ai2.eq_1 ?_
 by_cases Tx:8192<s.length
 ·have e:bB s=([],[],8192):=by unfold bB;rw[if_pos Tx]
  rw[e];refine nO0 ?_;rfl
 have e:=FK s Tx;generalize bB s=R at e;refine nO0 ?_;refine oQ 0 (fun k=>Hd (fun T=>∃ (off:Nat) (acc:List Tok),T 0=.str s/\T 5=.slice (fN acc) true/\T 6=.int .i64 off/\off<=s.length/\k=s.length-off/\acc.length<=off/\ahead acc (fq (s.drop off) off)=R) H H.length 0)
  (fun _=>False) (Hd (fun T=>∃ o,T 2=.slice (fN R.1) o/\T 3=.str R.2.1/\T 4=.int .i64 R.2.2) H H.length 0) ?_ (fun _ h=>h.elim) ?_ s.length _ ?_
 ·rintro k st iz
  obtain⟨T,rfl,off,acc,h0,h5,h6,og,hk,yD,hc⟩:=iz.out;have Fy:=Sm (s.drop off) H (by rw[avF];omega)
  have hle:=nw false (s.drop off);rw[avF] at hle
  by_cases xj:bI false (s.drop off)=(s.drop off).length
  ·rw[KS xj] at hc
   subst hc;rw[avF] at xj;rw[xj] at Fy;have e1:(off:Int)+((s.length-off:Nat):Int)=(s.length:Int):=ah;generalize s.length-off=q at Fy e1;simp(disch:=omega)only[dm,aa,simprocAttr,h0,h5,h6,Fy,avL,e1];exact⟨false,rfl⟩
  ·have aZ:bI false (s.drop off)<s.length-off:=by rw[avF] at xj;omega
   have IL:=IA (s.drop (off+bI false (s.drop off))) H (fun e=>by have:=awt List.length e;rw[avF,List.length_nil] at this;omega) (by rw[avF];omega)
   have ql:=zt (s.drop (off+bI false (s.drop off)));rw[avF] at ql
   by_cases iS:gI (s.drop (off+bI false (s.drop off)))=0
   ·rw[KR xj (by rw[av7];exact iS)] at hc
    subst hc;rw[iS] at IL;generalize bI false (s.drop off)=k at Fy IL aZ;have e1:(off:Int)+(k:Int)=((off+k:Nat):Int):=ah;generalize hm:off+k=m at Fy IL e1;have BV:off<=m:=ah;have Li:m<s.length:=ah;clear hm;simp(disch:=omega)only[dm,aa,simprocAttr,h0,h6,Fy,IL,avL,e1];exact⟨true,rfl,rfl⟩
   ·generalize tV:bI false (s.drop off)=k at Fy IL aZ iS ql
    generalize IS:gI (s.drop (off+k))=n at IL iS ql;rw[GZ tV IS ah iS] at hc;have Ml:off+k+n<=s.length:=ah;have hn0:0<n:=ah;have e1:(off:Int)+(k:Int)=((off+k:Nat):Int):=ah;generalize hm:off+k=m at Fy IL hc Ml e1;have BV:off<=m:=ah;have Li:m<s.length:=ah;clear hm tV IS ql aZ xj hle;have e2:(m:Int)+(n:Int)=((m+n:Nat):Int):=ah;generalize hp:m+n=p at hc Ml e2;have D6:m<p:=ah;clear hp;simp(disch:=omega)only[dm,aa,simprocAttr,h0,h5,h6,Fy,IL,NJ,avL,e1,e2];exact⟨s.length-p,ah,p,_,rfl,rfl,ah,rfl,dq,hc⟩
 ·intro st iz
  obtain⟨T,rfl,o,h2,h3,h4⟩:=iz.out;exact vE3 h2 h3 h4
 ·refine nE0 ?_
  exact⟨0,[],rfl,rfl,ah,ah,ag,cY e⟩
def fM(s:ay):ay × ay:=if 0<=dp 10 0 s then (s.take ((dp 10 0 s).toNat+1),s.drop ((dp 10 0 s).toNat+1)) else (s,[])
def Qz:∀ (s:ay) (j:Nat),dp 10 j s=-1\/∃ k:Nat,k<s.length/\dp 10 j s=((j+k:Nat):Int):=by
 intro s j
 rcases xJ s j with ⟨h1,h2,_⟩|⟨k,h1,h2,_⟩
 ·exact .inl h2
 ·exact .inr ⟨k,h2,h1⟩
def Z4(s:ay)(H:ae)(hs:s.length<=4611686018427387904):aj A 43 [.str s] H=some (.tuple [.str (fM s).1,.str (fM s).2],none):=by
 have hi:=C3 s H;unfold fM;refine cJ (fn:=aeq) rfl rfl rfl ?_;unfold aeq
 rcases Qz s 0 with h|⟨k,hk,h⟩
 ·rw[h] at hi ⊢
  rw[if_neg ah];exact fj hi
 ·rw[avA] at h
  rw[h] at hi ⊢;rw[if_pos ah];simp(disch:=omega)only[dm,aa,simprocAttr,hi,avL,avH]
def iF:List Tk->Nat
 | []=>0
 | t :: l=>t.2.length+t.1.length+iF l
def nj(tk:List Tk)(i en:Nat):Nat:=match tk[i]? with
 | some t=>iF (tk.take i)+t.2.length
 | none=>en
def rU:∀ a b:List Tk,iF (a++b)=iF a+iF b
 | [],b=>by simp[iF]
 | t :: a,b=>by simp only[avK,iF,rU a b];omega
theorem OT(tk:List Tk)(i en:Nat)(H:ae)(hb:BF tk)(hl:iF tk<=4611686018427387904)(hn:tk.length<=4611686018427387904)(hi:i<=4611686018427387904)(he:en<=4611686018427387904) :
  aj A 42 [.slice (tk.map gN) false,.int .i64 i,.int .i64 en] H=some (.int .i64 (nj tk i en),none):=by
 refine cJ (fn:=aep) rfl rfl rfl ?_;unfold aep;have bX:∀ j (t:Tk),tk[j]?=some t->(tk.map gN)[j]?=some ([.str t.1,.str t.2]:List AV):=fun j t h=>by rw[List.getElem?_map,h];rfl
 have hlen:(tk.map gN).length=tk.length:=ag
 by_cases JY:tk.length<=i
 ·have:nj tk i en=en:=by unfold nj;rw[List.getElem?_eq_none JY]
  rw[this];have hd:decide ((tk.length:Int)<=(i:Int))=true:=decide_eq_true ah;exact WB hlen hd
 ·have aZ:i<tk.length:=ah
  have hd:decide ((tk.length:Int)<=(i:Int))=false:=av1 ah;refine nO2 hlen hd ?_;refine vl i (fun k=>HdG (fun T=>T 0=.slice (tk.map gN) false/\T 1=.int .i64 i/\T 7=.int .i64 (iF (tk.take k))/\(∃ b,T 17=.slice ((tk.map gN).take i) b)/\T 18=.int .i64 i/\T 19=.int .i64 k) H H.length) ?_ 0 _ (avB _) ?_
  ·rintro k s hk hs
   obtain⟨T,g,rfl,h0,h1,h7,⟨b,h17⟩,h18,h19⟩:=hs.out;refine nO2 h18 h19 ?_;refine jC ?_ ?_<;>intro h
   ·have tV:k<i:=ah
    have hx:=au5 (show k<tk.length by omega)
    generalize tk[k]=x at hx;have hr:((tk.map gN).take i)[k]?=some ([.str x.1,.str x.2]:List AV):=by rw[axz tV];exact bX k x hx
    have hte:iF (tk.take (k+1))=iF (tk.take k)+(x.2.length+x.1.length):=by
     rw[awv,rU,hx];simp[iF]
    have hle:iF (tk.take (k+1))<=iF tk:=by
     have:=rU (tk.take (k+1)) (tk.drop (k+1))
     simp_all
    generalize iF (tk.take (k+1))=m' at hte hle;generalize iF (tk.take k)=m at h7 hte;refine nK6 h0 h1 h7 h17 h18 (j2 h19 hr) ?_
    grind
   ·have:k=i:=ah
    subst this;have hx:=au5 aZ;have hp:nj tk k en=iF (tk.take k)+tk[k].2.length:=by unfold nj;rw[hx]
    have hle:iF (tk.take k)+tk[k].2.length<=iF tk:=by
     have:=rU (tk.take (k+1)) (tk.drop (k+1))
     rw[awa,awv,rU,hx] at this;simp[iF] at this;omega
    rw[hp];generalize tk[k]=x at hx hle;generalize iF (tk.take k)=m at h7 hle;have hr:=bX k x hx;exact vK4 h0 h1 h7 hr
  ·refine nO0 ?_
   exact⟨rfl,⟨false,rfl⟩,by rw[avU,hlen,axo ah]⟩
def mc:aB:=by refine(fun(_:bp pT [3,4,5,6,7,9,10,13,15,16,17,18,19,20,21,22,45,50,56,68,78,84,109,113,120,129,147,158,181,186,193,199,30,33,95,138,700002,700008,700012,700014] [2,8,12,14,82,999999] [19,158,165,186,189,777777] Tryz.f11=some ?x)=>?x) ?_;rotate_left;conv=>lhs;cbv
section
def pF:aK->aK
 | .seq a _=>a
 | c=>c
def pS:aK->aK
 | .seq _ b=>b
 | c=>c
def u6:aK:=mc.body
def xU:aK:=pS u6
def xV:aK:=pS xU
def zg:aK:=pS xV
def zC:aK:=pS zg
def zD:aK:=pS zC
def zE:aK:=pS zD
def zF:aK:=pS zE
def wF:aK:=pS zF
def Bz:aK:=pS wF
def om:aK:=pS Bz
def qy:aK:=pS om
def rq:aK:=pS qy
def qz:aK:=pS rq
def u7:aK:=pS qz
def wi:aK:=pS u7
def zf:aK:=pS wi
def afg:aK:=pS zf
def afh:aK:=pS afg
def ajI:aK:=pS afh
def Dr(P:AS->Prop):bH->AS->Prop
 | .normal,s=>P s
 | _,_=>False
def xY{B:AP}{a b:aK}{s:AS}{Q:bH->AS->Prop}{P:AS->Prop}(h1:W B a s (Dr P))(h2:∀ s',P s'->W B b s' Q):W B (.seq a b) s Q:=by
 rw[WJ];refine uu h1 fun e s' hs=>?_
 cases e with
 | normal=>exact h2 s' hs
 | _=>exact hs.elim
def PL(n:Nat):AP:={ fns:=fun f=>match f with|11=>some mc|_=>none,ov:=fun f=>match f with|11=>none|41=>some (mg (Fc n))|f=>some (aj A f),aY:=Bg }
def cL{n:Nat}(h:(PL n).ov f=some (aj A f)){H:ae}{r:AV × Option fP}(hr:aj A f args H=some r)(hn:args.all vG=true:=by rfl):aj (PL n) f args H=some r:=gU (g:=aj A f) h hr hn
def ahy{n:Nat}{tk:List Tk}{s s':PS}{H:ae}{f:Fm}(h:jx tk pl s H)(hn:n<=1000000)(he:pL (aq tk) n (pE (aq tk) n 0) s=some (f,s')):aj (PL n) 41 [.ref pl 0] H=some (.agg (cm f),some ⟨aJ tk pl s' H,pl⟩) :=
 gU (g:=mg (Fc n)) rfl (pZ (fun _ hy=>Q6 (.mk h hn he) hy) (.mk h hn he))
def ab7:bS->Bool
 | .bZ _=>false
 | _=>true
def aT(rows:List (List AV)):ae:=match rows with|[]=>[]|_=>List.replicate (rows.length-1) .dead++[.box bD rows.flatten]
def aA(base z:Nat)(rows:List (List AV)):AV:=match rows with|[]=>.ar|_=>.sref (base+rows.length) 0 rows.length z
def acq : (aT rows).length=rows.length:=by cases rows<;>simp[aT]
def Xf : ∀ o∈aT rows,ab7 o=true:=by
 intro o ho;cases rows with
 | nil=>simp[aT] at ho
 | cons r rows =>
  rcases au'.1 ho with h|h
  ·rw[(List.mem_replicate.1 h).2];rfl
  ·rw[avi.1 h];rfl
def Xc(h:rows≠[]):(aT rows)[rows.length-1]?=some (.box bD rows.flatten):=by
 cases rows with
 | nil=>exact absurd rfl h
 | cons r rows=>simp[aT]
def acr{GR:List (List AV)}(h:rows≠[])(hl:GR.length=rows.length):(aT rows).set (rows.length-1) (.box bD GR.flatten)=aT GR:=by
 cases rows with
 | nil=>exact absurd rfl h
 | cons r rows =>
  cases GR with
  | nil=>simp at hl
  | cons r' GR =>
   have:GR.length=rows.length:=cY hl
   simp[aT,this]
def Xe{r:List AV}(h:rows≠[]):(aT rows).set (rows.length-1) .dead++[.box bD (rows.flatten++r)]=aT (rows++[r]):=by
 cases rows with
 | nil=>exact absurd rfl h
 | cons q rows =>
  have:(aT (q :: rows)).set ((q :: rows).length-1) .dead=List.replicate (rows.length+1) .dead:=by
   simp[aT,List.replicate_succ']
  rw[this];simp[aT]
def BG{base:Nat}(h:rows≠[]):aA base z rows=.sref (base+rows.length) 0 rows.length z:=by
 cases rows with
 | nil=>exact absurd rfl h
 | cons r rows=>rfl
def pP(tk:List Tk)(H:ae)(s:PS)(D:List (List AV)):ae:=H++nK tk s :: aT D
section
variable {tk:List Tk}{H:ae}{s s' : PS}{D D' : List (List AV)}
def M1:(pP tk H s D).length=H.length+1+D.length:=by simp[pP,acq];omega
def GL:(pP tk H s D)[H.length]?=some (nK tk s):=by simp[pP]
def OP(hD:D≠[]):(pP tk H s D)[H.length+D.length]?=some (.box bD D.flatten):=by
 have:0<D.length:=awq.2 hD
 rw[pP,List.getElem?_append_right ah,show H.length+D.length-H.length=(D.length-1)+1 by omega,avI]
 exact Xc hD
def nZ:aJ tk H.length s' (pP tk H s D)=pP tk H s' D:=by
 unfold aJ;rw[pP,List.set_append_right _ _ ah,awR,axr];rfl
def Y5(hD:D≠[])(h:D'.length=D.length):(pP tk H s D).set (H.length+D.length) (.box bD D'.flatten)=pP tk H s D':=by
 have:0<D.length:=awq.2 hD
 rw[pP,List.set_append_right _ _ ah,show H.length+D.length-H.length=(D.length-1)+1 by omega,axc,acr hD h,pP]
def GK:PQ H.length (pP tk H s D):=by
 refine⟨by rw[M1];omega,fun j cs hj hc=>?_⟩
 exfalso;rw[pP,List.getElem?_append_right hj] at hc
 match wz:j-H.length with
 | 0=>rw[wz] at hc;cases hc
 | m+1 =>
  rw[wz,avI] at hc;have:=Xf _ (avb hc)
  simp[ab7] at this
def afe(hb:BF tk)(hs:s.i<=tk.length):jx tk H.length s (pP tk H s D):=⟨GK,GL,hb,hs⟩
theorem aff{B:AP}{r:List AV}{t:Nat}(hw:∀ q∈D,q.length=14)(hr:r.length=14)(hp:r.all AV.plain=true)(hD:D.length<=100000) :
  WT B 14 248 (aA H.length 14 D) (.slice [r] o) t os T (pP tk H s D) H.length gen K=WO B os ⟨T.put t (.sref (H.length+(D++[r]).length) 0 (D++[r]).length 14),pP tk H s (D++[r]),H.length,gen⟩ K:=by
 have dQ:dM [r]=true:=by unfold dM;simp only[List.all_cons,List.all_nil,hp,Bool.and_self]
 have hlen:=M1 (tk:=tk) (H:=H) (s:=s) (D:=D);have hb:∀ x,Nat.blt (H.length+x) H.length=false:=fun x=>by
  cases h:Nat.blt (H.length+x) H.length with
  | true=>have:=av6 h;omega
  | false=>rfl
 cases D with
 | nil =>
  show WT B 14 248 .ar _ t os T _ _ gen K=_
  rw[acu (by unfold cK;simp[gC,hr]) dQ,hlen]
  simp only[List.length_nil,avG];rw[hb];simp only[cond_false,pP,aT,List.append_nil,avj,avK,avO,List.length_nil,avA,avy,awl,List.length_cons,awR,axT]
 | cons q D =>
  show WT B 14 248 (.sref (H.length+(q :: D).length) 0 (q :: D).length 14) _ t os T _ _ gen K=_
  have yK:(q :: D).flatten.length=(q :: D).length*14:=od hw;rw[NG (OP ag) yK (by simp only[List.length_cons,List.length_nil] at hD ⊢;omega) (by simp only[List.length_cons,List.length_nil] at hD ⊢;omega) (by unfold gC;simp[hr]) dQ,hlen]
  have qu:(pP tk H s (q :: D)).set (H.length+(q :: D).length) .dead++[.box bD ((q :: D).flatten++[r].flatten)]=pP tk H s ((q :: D)++[r]):=by
   have h1:=Xe (rows:=q :: D) (r:=r) ag;rw[pP,List.set_append_right _ _ ah,show H.length+(q :: D).length-H.length=((q :: D).length-1)+1 by simp,axc,pP,<- h1]
   grind
  have kO:=hb (q :: D).length
  grind
end
def iP(l:List Tok):List Tk:=l.map fun t=>(t.text,t.before)
def SU{l:List Tok} : fN l=(iP l).map gN:=by
 unfold fN iP;rw[awh];rfl
def W8:PS:=⟨0,false⟩
def psN(tk:List Tk):PS:=(aF (aq tk) (aQ (aq tk) gH W8)).2
def nmN(tk:List Tk):ay:=(aF (aq tk) (aQ (aq tk) gH W8)).1
def z5:List AV:=[.str [],.ar,.ar,.ar,.str []]
section
variable {n:Nat}{H:ae}{s fin:ay}{sc:List Tok}{tk:List Tk}{Q:bH->AS->Prop}
def ajJ(hs:s.length<=4611686018427387904)(T4:bB s=(sc,fin, -1))(nA:tk=iP sc)(hb:BF tk)
  (hQ:∀ T,T 0=.str s->T 2=.lbox 0 z5->T 3=.int .i64 0->T 4=.slice (tk.map gN) false->T 5=.str fin->T 7=.ref H.length 0->T 8=.lbox 1 [.str (nmN tk),.ar,.ar,.ar,.str []]->T 9=.slice [] true->W (PL n) wF ⟨T,pP tk H (psN tk) [],H.length,2⟩ Q) :
  W (PL n) u6 ⟨fi [.str s],H,H.length,0⟩ Q:=by
 have Mr:u6=.seq (pF u6) (.seq (pF xU) (.seq (pF xV) (.seq (pF zg) (.seq (pF zC) (.seq (pF zD) (.seq (pF zE) (.seq (pF zF) wF))))))):=rfl;rw[Mr];have T5:∀ K,aj (PL n) 13 [.str s] K=some (.tuple [.slice (tk.map gN) false,.str fin,.int .i64 (-1)],none):=fun K=>by
  refine cL rfl ?_;rw[Is s K hs,T4,nA,<- SU]
 have aZ:∀ K:ae,(bif decide (K.length<K.length) then K.length else K.length)=K.length:=fun K=>ag
 have Lj:H++[.box 99 [.slice (tk.map gN) false,.int .i64 0,.bool false]]=pP tk H W8 []:=rfl;have hw:aj (PL n) 38 [.ref H.length 0,.str [109,111,100,117,108,101]] (pP tk H W8 [])=some (.tuple [],some ⟨pP tk H (aQ (aq tk) gH W8) [],H.length⟩):=by
  refine cL rfl ?_;have:=DY (K:=pP tk H W8 []) GK hb (s:=W8) (w:=[109,111,100,117,108,101]) ag (avB _)
  rw[nZ,nZ] at this;exact this
 have tw:aj (PL n) 39 [.ref H.length 0] (pP tk H (aQ (aq tk) gH W8) [])=some (.str (nmN tk),some ⟨pP tk H (psN tk) [],H.length⟩):=by
  refine cL rfl ?_;have:=vF (K:=pP tk H W8 []) GK hb (s:=aQ (aq tk) gH W8) (gy aI (avB _))
  rw[nZ,nZ] at this;exact this
 have ru:(bif decide (H.length<H.length) then H.length else H.length)=H.length:=ag
 simp(disch:=omega)only[j7,aa,simprocAttr,u6,xU,xV,zg,zC,zD,zE,zF,pF,pS,mc,T5,Lj,hw,tw];refine hQ _ ?_ ?_ ?_ ?_ ?_ ?_ ?_ ?_<;>simp(disch:=omega)only[j7,aa,simprocAttr]
 all_goals rfl
end
end
section
def pB:aK->aK
 | .block _ a=>a
 | .loop a=>a
 | c=>c
structure PT (s fin:ay) (tk:List Tk) (H:ae) (T:aD):Prop where
 t0:T 0=.str s
 t2:T 2=.lbox 0 z5
 t3:T 3=.int .i64 0
 t4:T 4=.slice (tk.map gN) false
 t5:T 5=.str fin
 t7:T 7=.ref H.length 0
def uC(l:List ay):AV:=match l with|[]=>.ar|_=>.slice (strs l) true
def nU{l:List ay}{a:ay} : strs l++[[.str a]]=strs (l++[a]):=by simp[strs]
def vj{l:List ay} : (strs l).length=l.length:=by simp[strs]
section
variable {n:Nat}{H:ae}{s fin nm:ay}{tk:List Tk}{Q:bH->AS->Prop}
def Us(s fin nm:ay)(tk:List Tk)(H:ae)(us:List ay)(s1:PS)(st:AS):Prop:=∃ T,st=⟨T,pP tk H s1 [],H.length,2⟩/\PT s fin tk H T/\T 8=.lbox 1 [.str nm,uC us,.ar,.ar,.str []]/\T 9=.slice [] true
def agu(hb:BF tk){r:List ay × PS}{us:List ay}(hk:us.length+k<=1000000)(qK:s1.i<=tk.length)(hr:nC (aq tk) k us s1=some r)(iz:Us s fin nm tk H us s1 st) :
  W (PL n) (pF wF) st (Dr fun wK=>Us s fin nm tk H r.1 r.2 wK/\r.2.i<=tk.length/\r.1.length<=1000000):=by
 have hp:pF wF=.block 0 (.loop (pB (pB (pF wF)))):=rfl;rw[hp];rw[IG];refine oQ 0 (fun k st=>∃ us s1,Us s fin nm tk H us s1 st/\us.length+k<=1000000/\s1.i<=tk.length/\nC (aq tk) k us s1=some r) (fun wK=>Us s fin nm tk H r.1 r.2 wK/\r.2.i<=tk.length/\r.1.length<=1000000) (fun _=>False) ?_ ?_ (fun _ h=>h.elim) k st ⟨us,s1,iz,hk,qK,hr⟩
 ·rintro k st ⟨us,s1,⟨T,rfl,hT,e8,e9⟩,hk,qK,hr⟩
  have a0:=hT.t0;have a2:=hT.t2;have a3:=hT.t3;have a4:=hT.t4;have a5:=hT.t5;have a7:=hT.t7;have gn:=GL (tk:=tk) (H:=H) (s:=s1) (D:=[]);unfold nK at gn
  match k with
  | 0=>cases hr
  | k+1 =>
   unfold nC at hr;cases iS:s1.bad with
   | true =>
    rw[iS] at hr;simp only[av8,avt,cond_false,au4] at hr;subst hr;rw[iS] at gn;simp(disch:=omega)only[j7,aa,simprocAttr,mc,wF,zF,zE,zD,zC,zg,xV,xU,u6,pF,pS,pB,a7,gn,bU,ab];exact⟨⟨_,rfl,⟨cy a0,cy a2,cy a3,cy a4,cy a5,cy a7⟩,cy e8,cy e9⟩,qK,ah⟩
   | false =>
    rw[iS] at hr gn;simp only[awd,avE] at hr;cases hw:(pk (aq tk) s1==rC) with
    | false =>
     rw[hw,cond_false,au4] at hr;subst hr;have Oj:aj (PL n) 40 [.ref H.length 0,.str [117,115,101]] (pP tk H s1 [])=some (.bool false,none):=by
      have:=J8 (K:=pP tk H s1 []) GK hb (w:=rC) qK hw
      rw[nZ] at this;exact cL rfl this
     simp(disch:=omega)only[j7,aa,simprocAttr,mc,wF,zF,zE,zD,zC,zg,xV,xU,u6,pF,pS,pB,a7,gn,bU,ab,Oj];exact⟨⟨_,rfl,⟨cy a0,cy a2,cy a3,cy a4,cy a5,cy a7⟩,cy e8,cy e9⟩,qK,ah⟩
    | true =>
     rw[hw,cond_true] at hr;have Oj:aj (PL n) 40 [.ref H.length 0,.str [117,115,101]] (pP tk H s1 [])=some (.bool true,some ⟨pP tk H s1.up [],H.length⟩):=by
      have:=J9 (K:=pP tk H s1 []) GK hb (w:=rC) aI hw
      rw[nZ,nZ] at this;exact cL rfl this
     have Ov:=lG (w:=rC) aI hw;have tw:aj (PL n) 39 [.ref H.length 0] (pP tk H s1.up [])=some (.str (aF (aq tk) s1.up).1,some ⟨pP tk H (aF (aq tk) s1.up).2 [],H.length⟩):=by
      have:=vF (K:=pP tk H s1.up []) GK hb (s:=s1.up) Ov
      rw[nZ,nZ] at this;exact cL rfl this
     have ru:(bif decide (H.length<H.length) then H.length else H.length)=H.length:=ag
     have uQ:=jY (s:=s1.up) Ov;have xq:=nU (l:=us) (a:=(aF (aq tk) s1.up).1);have qv:=vj (l:=us);have HQ:uC (us++[(aF (aq tk) s1.up).1])=.slice (strs (us++[(aF (aq tk) s1.up).1])) true:=by
      unfold uC;split
      ·rename_i h;simp at h
      ·rfl
     cases us with
     | nil =>
      have hu:uC []=.ar:=rfl;rw[hu] at e8;simp(disch:=omega)only[j7,aa,simprocAttr,mc,wF,zF,zE,zD,zC,zg,xV,xU,u6,pF,pS,pB,a7,e8,gn,bU,ab,cS,cM,avD,avq,Oj,tw];refine⟨k,ah,[(aF (aq tk) s1.up).1],_,⟨_,rfl,⟨cy a0,cy a2,cy a3,cy a4,cy a5,cy a7⟩,by simp(disch:=omega)only[j7,aa,simprocAttr];rfl,cy e9⟩,by simp at hk ⊢;omega,uQ,hr⟩
     | cons u0 ur =>
      have hu:uC (u0 :: ur)=.slice (strs (u0 :: ur)) true:=rfl;rw[hu] at e8;simp(disch:=omega)only[j7,aa,simprocAttr,mc,wF,zF,zE,zD,zC,zg,xV,xU,u6,pF,pS,pB,a7,e8,gn,bU,ab,cS,cM,avD,avq,Oj,tw];refine⟨k,ah,(u0 :: ur)++[(aF (aq tk) s1.up).1],_,⟨_,rfl,⟨cy a0,cy a2,cy a3,cy a4,cy a5,cy a7⟩,by simp(disch:=omega)only[j7,aa,simprocAttr];rfl,cy e9⟩,by simp at hk ⊢;omega,uQ,hr⟩
 ·intro wK h
  exact h
end
end
section
theorem y5{tk:List Tk}{n:Nat}{E:EP}(hE:gZ tk E){s:PS}{r:Fm × PS}(h:pL (aq tk) n E s=some r):Lq tk s r.2:=by
 unfold pL at h;simp only at h;cases hk:decide (kM (pk (aq tk) s) dJ 0<0) with
 | true =>
  grind [B1]
 | false =>
  rw[hk,cond_false] at h;have BW:pk (aq tk) s≠[]:=by
   intro e;rw[e] at hk;revert hk;decide
  have Ov:Lq tk s s.up:=⟨fun _=>by have:=tY BW;unfold PS.up;simp only;omega,id,Nat.le_succ _⟩
  simp only[au3] at h;obtain⟨sl,h1,h⟩:=h;have l1:Lq tk s sl.2:=Ov.tr (dP.tr ((bP ag).tr (mX ag (fun a s r he=>qP he) h1)))
  cases h2:(decide (kM (pk (aq tk) s) dJ 0=0) || decide (kM (pk (aq tk) s) dJ 0=1)) with
  | true =>
   grind
  | false =>
   rw[h2,cond_false,au3] at h;obtain⟨w,h3,h⟩:=h;rw[au2] at h;obtain⟨b,h4,rfl⟩:=h;exact l1.tr ((ji _ _ _ h3).tr ((bP ag).tr (hE _ _ h4)))
def eI(es:List Nat):List Int:=es.map (fun e:Nat=>(e:Int))
def Xy : ints (eI es)++[[.int .i64 (i:Int)]]=ints (eI (es++[i])):=by simp[ints,eI]
def LX : (ints (eI es)).length=es.length:=by simp[ints,eI]
theorem BQ{f:Fm} : (cm f).length=14:=by simp[cm]
theorem yA : ∀ q∈fs.map cm,q.length=14:=by
 grind [BQ]
def Gc{f:Fm} : (cm f).all AV.plain=true:=rfl
section
variable {n:Nat}{H:ae}{s fin nm:ay}{us:List ay}{tk:List Tk}{Q:bH->AS->Prop}
def Fs(s fin nm:ay)(us:List ay)(tk:List Tk)(H:ae)(fs:List Fm)(es:List Nat)(s1:PS)(st:AS):Prop:=∃ T,st=⟨T,pP tk H s1 (fs.map cm),H.length,2⟩/\PT s fin tk H T/\T 8=.lbox 1 [.str nm,uC us,aA H.length 14 (fs.map cm),.ar,.str []]/\T 9=.slice (ints (eI es)) true
def acT(qK:s1.i<=tk.length)(nA:tk.length<=100000)(iz:Us s fin nm tk H us s1 st):W (PL n) (pF Bz) st (Dr (Fs s fin nm us tk H [] [s1.i] s1)):=by
 obtain⟨T,rfl,hT,e8,e9⟩:=iz;have a0:=hT.t0;have a2:=hT.t2;have a3:=hT.t3;have a4:=hT.t4;have a5:=hT.t5;have a7:=hT.t7;have gn:=GL (tk:=tk) (H:=H) (s:=s1) (D:=[]);unfold nK at gn;simp(disch:=omega)only[j7,aa,simprocAttr,mc,Bz,wF,zF,zE,zD,zC,zg,xV,xU,u6,pF,pS,a7,e9,gn,bU,ab];exact⟨_,rfl,⟨cy a0,cy a2,cy a3,cy a4,cy a5,cy a7⟩,by simp(disch:=omega)only[j7,aa,simprocAttr,e8];rfl,by simp(disch:=omega)only[j7,aa,simprocAttr];rfl⟩
def XV(hb:BF tk)(nA:tk.length<=100000)(hn:n<=1000000){r:(List Fm × List Nat) × PS}(hk:fs.length+k<=100000)(IM:es.length=fs.length+1)(qK:s1.i<=tk.length)(hr:lS (aq tk) n k (fs,es) s1=some r)(iz:Fs s fin nm us tk H fs es s1 st) :
  W (PL n) (pF om) st (Dr fun wK=>Fs s fin nm us tk H r.1.1 r.1.2 r.2 wK/\r.2.i<=tk.length/\r.1.1.length<=100000/\r.1.2.length=r.1.1.length+1):=by
 have hp:pF om=.block 2 (.loop (pB (pB (pF om)))):=rfl;rw[hp];rw[IG];refine oQ 2 (fun k st=>∃ fs es s1,Fs s fin nm us tk H fs es s1 st/\fs.length+k<=100000/\es.length=fs.length+1/\s1.i<=tk.length/\lS (aq tk) n k (fs,es) s1=some r) (fun wK=>Fs s fin nm us tk H r.1.1 r.1.2 r.2 wK/\r.2.i<=tk.length/\r.1.1.length<=100000/\r.1.2.length=r.1.1.length+1) (fun _=>False) ?_ ?_ (fun _ h=>h.elim) k st ⟨fs,es,s1,iz,hk,IM,qK,hr⟩
 ·rintro k st ⟨fs,es,s1,⟨T,rfl,hT,e8,e9⟩,hk,IM,qK,hr⟩
  have a0:=hT.t0;have a2:=hT.t2;have a3:=hT.t3;have a4:=hT.t4;have a5:=hT.t5;have a7:=hT.t7;have gn:=GL (tk:=tk) (H:=H) (s:=s1) (D:=fs.map cm);unfold nK at gn;have ql:(tk.map gN).length=tk.length:=ag;have kL:(aq tk).length=tk.length:=by simp[aq]
  match k with
  | 0=>cases hr
  | k+1 =>
   unfold lS at hr;rw[kL] at hr;have stop:∀ (h:some ((fs,es),s1)=some r),r=((fs,es),s1):=fun h=>(avS h).symm
   cases iS:s1.bad with
   | true =>
    rw[iS] at hr;simp only[av8,avt,cond_false] at hr;obtain rfl:=stop hr;rw[iS] at gn;simp(disch:=omega)only[j7,aa,simprocAttr,mc,om,Bz,wF,zF,zE,zD,zC,zg,xV,xU,u6,pF,pS,pB,a7,gn,bU,ab];exact⟨⟨_,rfl,⟨cy a0,cy a2,cy a3,cy a4,cy a5,cy a7⟩,cy e8,cy e9⟩,qK,ah,IM⟩
   | false =>
    rw[iS] at hr gn;simp only[awd,avE] at hr;cases hw:Nat.blt s1.i tk.length with
    | false =>
     rw[hw,cond_false] at hr;obtain rfl:=stop hr;have aZ:¬ s1.i<tk.length:=by intro h;rw[show Nat.blt s1.i tk.length=true by rw[avn];exact h] at hw;cases hw
     have hle:s1.i=tk.length:=ah;simp(disch:=omega)only[j7,aa,simprocAttr,mc,om,Bz,wF,zF,zE,zD,zC,zg,xV,xU,u6,pF,pS,pB,a4,a7,gn,bU,ab,ql];exact⟨⟨_,rfl,⟨cy a0,cy a2,cy a3,cy a4,cy a5,cy a7⟩,cy e8,cy e9⟩,qK,ah,IM⟩
    | true =>
     rw[hw,cond_true,au3] at hr;obtain⟨⟨f,s2⟩,hf,hr⟩:=hr;have aZ:s1.i<tk.length:=by rw[avn] at hw;exact hw
     have AW:=ahy (n:=n) (afe (D:=fs.map cm) (H:=H) hb qK) hn hf;rw[nZ] at AW;have xp:s2.i<=tk.length:=(y5 (iO _ _) hf).le qK;have Qg:=GL (tk:=tk) (H:=H) (s:=s2) (D:=(fs++[f]).map cm);unfold nK at Qg;have ru:(bif decide (H.length<H.length) then H.length else H.length)=H.length:=ag
     have vY:=fun (B:AP) (T:aD) gen t K os o=>aff (B:=B) (T:=T) (tk:=tk) (H:=H) (s:=s2) (D:=fs.map cm) (r:=cm f) (gen:=gen) (t:=t) (K:=K) (os:=os) (o:=o) yA BQ Gc (by rw[List.length_map];omega)
     have hma:fs.map cm++[cm f]=(fs++[f]).map cm:=ag;have hA' : aA H.length 14 ((fs++[f]).map cm)=.sref (H.length+((fs++[f]).map cm).length) 0 ((fs++[f]).map cm).length 14:=BG ag;have hei:∀ o,aG false 1 8 (.slice (ints (eI es)) true) (.slice [[.int .i64 (s2.i:Int)]] o)=some (.slice (ints (eI (es++[s2.i]))) true):=fun o=>by
      rw[<- Xy];exact I5 (l:=eI es) (m:=[(s2.i:Int)]) (o:=o) (by simp[eI];omega) |>.trans (by simp[ints])
     have Gg:=LX (es:=es);rw[hma,<- hA'] at vY;have hpe:=Gc (f:=f);rw[cm] at AW vY hpe;have hD:aA H.length 14 (fs.map cm)=.ar\/aA H.length 14 (fs.map cm)=.sref (H.length+(fs.map cm).length) 0 (fs.map cm).length 14:=by
      cases fs with
      | nil=>exact .inl rfl
      | cons d ds=>exact .inr rfl
     rcases hD with hD|hD
     all_goals
      rw[hD] at e8;simp only[hD,List.length_map] at vY;simp(disch:=omega)only[j7,aa,simprocAttr,mc,om,Bz,wF,zF,zE,zD,zC,zg,xV,xU,u6,pF,pS,pB,a4,a7,e8,e9,gn,bU,ab,cS,cM,avD,avq,ql,AW,vY,Qg,hei,hA'];refine⟨k,ah,fs++[f],es++[s2.i],_,⟨_,rfl,⟨cy a0,cy a2,cy a3,cy a4,cy a5,cy a7⟩,cy hA',wO⟩,by simp at hk ⊢;omega,by simp[IM],xp,hr⟩
 ·intro wK h
  exact h
end
end
def dv{mm:Nat}{K:ae}(h:PW mm K)(xs l:List ay)(b:Bool)(hx:xs.length<=1000)(hl:l.length+xs.length<=10000000):aj A 58 [.ref mm 0,.slice (strs xs) false] (cI mm l b K)=some (.undef,some ⟨cI mm (l++xs) b K,mm⟩):=by
 refine cW Yw.eq_1 ?_;have h0:=fO (l:=l) (b:=b) h;unfold nx at h0;have a1:aG false 1 16 (.slice (strs l) true) (.slice (strs xs) false)=some (.slice (strs (l++xs)) true):=cw ah;have aZ:=h.lt;have ho:=h.open (l++xs) b;have h1:∀ x:bS,((cI mm l b K).set mm x)[mm]?=some x:=fun x=>List.getElem?_set_self (by rw[bu];exact aZ)
 simp(disch:=omega)only[aO,aa,simprocAttr,h0,h1,a1,bu,zl,List.set_set,fY,ho,cS,cM,avq,ab]
def Wg(n:Int):0<=(cQ n).2/\(cQ n).2<=7:=by
 by_cases h:0<=n/\n<=11
 ·have:n=0\/n=1\/n=2\/n=3\/n=4\/n=5\/n=6\/n=7\/n=8\/n=9\/n=10\/n=11:=ah
  rcases this with rfl|rfl|rfl|rfl|rfl|rfl|rfl|rfl|rfl|rfl|rfl|rfl<;>decide
 ·rw[KW h];decide
theorem w5:∀ (k f n:Nat) (acc:ay),n<10 ^ (k+1)->(fS f n acc).length<=acc.length+k+1
 | _,0,n,acc,_=>by rw[fS];omega
 | 0,f+1,n,acc,h=>by
  have:Nat.blt n 10=true:=by simp[avn];omega
  rw[fS,this,cond_true];simp
 | k+1,f+1,n,acc,h=>by
  rw[fS];cases hb:Nat.blt n 10 with
  | true=>simp only[cond_true,List.length_cons];omega
  | false =>
   simp only[cond_false];have h2:n / 10<10 ^ (k+1):=by rw[Nat.pow_succ] at h;omega
   have:=w5 k f (n / 10) (UInt8.ofNat (48+n % 10) :: acc) h2
   grind
theorem yp{n:Nat}(h:n<=2199023255552):(jT n).length<=14:=by
 have:=w5 12 (n+1) n [] ah
 unfold jT
 grind
theorem iE{t:Tm}(h:az t=true):cu t=true:=by
 have hO:=vJ h;obtain⟨k0,k12⟩:=zd hO;have b1:=hO.b1;have b2:=hO.b2;have b3:=hO.b3;have b4:=hO.b4;have b6:=hO.b6;unfold rG n9 at b1;unfold sP jL at b2;unfold sQ at b3;unfold rH at b4;unfold sR at b6;unfold cu
 rcases uT t.kind with e|e|e|e|e|e|e|e|e|e|e|e|e|e
 ·rw[e,show fD 0=[110] from rfl]
  simp[e,bR] at b1 b2 b3 b4 b6;simp only[po,show cC [110] 110=false from rfl,show cC [110] 97=true from rfl,show cC [110] 102=true from rfl,show cC [110] 116=true from rfl,show cC [110] 107=true from rfl,show cC [110] 115=true from rfl]
  simp_all
 ·rw[e,show fD 1=[110] from rfl]
  simp[e,bR] at b1 b2 b3 b4 b6;simp only[po,show cC [110] 110=false from rfl,show cC [110] 97=true from rfl,show cC [110] 102=true from rfl,show cC [110] 116=true from rfl,show cC [110] 107=true from rfl,show cC [110] 115=true from rfl]
  simp_all
 ·rw[e,show fD 2=[97] from rfl]
  simp[e,bR] at b1 b2 b3 b4 b6;simp only[po,show cC [97] 110=true from rfl,show cC [97] 97=false from rfl,show cC [97] 102=true from rfl,show cC [97] 116=true from rfl,show cC [97] 107=true from rfl,show cC [97] 115=true from rfl]
  simp_all
 ·rw[e,show fD 3=[97,107] from rfl]
  simp[e,bR] at b1 b2 b3 b4 b6;simp only[po,show cC [97,107] 110=true from rfl,show cC [97,107] 97=false from rfl,show cC [97,107] 102=true from rfl,show cC [97,107] 116=true from rfl,show cC [97,107] 107=false from rfl,show cC [97,107] 115=true from rfl]
  simp_all
 ·rw[e,show fD 4=[110,107] from rfl]
  simp[e,bR] at b1 b2 b3 b4 b6;simp only[po,show cC [110,107] 110=false from rfl,show cC [110,107] 97=true from rfl,show cC [110,107] 102=true from rfl,show cC [110,107] 116=true from rfl,show cC [110,107] 107=false from rfl,show cC [110,107] 115=true from rfl]
  grind
 ·rw[e,show fD 5=[107] from rfl]
  simp[e,bR] at b1 b2 b3 b4 b6;simp only[po,show cC [107] 110=true from rfl,show cC [107] 97=true from rfl,show cC [107] 102=true from rfl,show cC [107] 116=true from rfl,show cC [107] 107=false from rfl,show cC [107] 115=true from rfl]
  simp_all
 ·rw[e,show fD 6=[107,115] from rfl]
  simp[e,bR] at b1 b2 b3 b4 b6;simp only[po,show cC [107,115] 110=true from rfl,show cC [107,115] 97=true from rfl,show cC [107,115] 102=true from rfl,show cC [107,115] 116=true from rfl,show cC [107,115] 107=false from rfl,show cC [107,115] 115=false from rfl]
  simp_all
 ·rw[e,show fD 7=[97,107,115] from rfl]
  simp[e,bR] at b1 b2 b3 b4 b6;simp only[po,show cC [97,107,115] 110=true from rfl,show cC [97,107,115] 97=false from rfl,show cC [97,107,115] 102=true from rfl,show cC [97,107,115] 116=true from rfl,show cC [97,107,115] 107=false from rfl,show cC [97,107,115] 115=false from rfl]
  simp_all
 ·rw[e,show fD 8=[97,102,107] from rfl]
  simp[e,bR] at b1 b2 b3 b4 b6;simp only[po,show cC [97,102,107] 110=true from rfl,show cC [97,102,107] 97=false from rfl,show cC [97,102,107] 102=false from rfl,show cC [97,102,107] 116=true from rfl,show cC [97,102,107] 107=false from rfl,show cC [97,102,107] 115=true from rfl]
  simp_all
 ·rw[e,show fD 9=[97,102,107] from rfl]
  simp[e,bR] at b1 b2 b3 b4 b6;simp only[po,show cC [97,102,107] 110=true from rfl,show cC [97,102,107] 97=false from rfl,show cC [97,102,107] 102=false from rfl,show cC [97,102,107] 116=true from rfl,show cC [97,102,107] 107=false from rfl,show cC [97,102,107] 115=true from rfl]
  simp_all
 ·rw[e,show fD 10=[97,107,115] from rfl]
  simp[e,bR] at b1 b2 b3 b4 b6;simp only[po,show cC [97,107,115] 110=true from rfl,show cC [97,107,115] 97=false from rfl,show cC [97,107,115] 102=true from rfl,show cC [97,107,115] 116=true from rfl,show cC [97,107,115] 107=false from rfl,show cC [97,107,115] 115=false from rfl]
  simp_all
 ·rw[e,show fD 11=[116,107] from rfl]
  simp[e,bR] at b1 b2 b3 b4 b6;simp only[po,show cC [116,107] 110=true from rfl,show cC [116,107] 97=true from rfl,show cC [116,107] 102=true from rfl,show cC [116,107] 116=false from rfl,show cC [116,107] 107=false from rfl,show cC [116,107] 115=true from rfl]
  simp_all
 ·rw[e,show fD 12=[107,115] from rfl]
  simp[e,bR] at b1 b2 b3 b4 b6;simp only[po,show cC [107,115] 110=true from rfl,show cC [107,115] 97=true from rfl,show cC [107,115] 102=true from rfl,show cC [107,115] 116=true from rfl,show cC [107,115] 107=false from rfl,show cC [107,115] 115=false from rfl]
  simp_all
 ·omega
def Ay{H:ae}{o:bS}{l:List ay} : (cI (H.length+1) l b (H++[a,o])).take H.length=H:=by
 unfold cI;rw[s2b];exact h2t
def ID{H:ae}{o:bS}{l:List ay} : (cI (H.length+1) l b (H++[a,o]))[H.length]?=some a:=by
 unfold cI;rw[s2b];exact h2a
def xO{H:ae}{o x:bS}{l:List ay} : ((cI (H.length+1) l b (H++[a,o])).set (H.length+1) x).take H.length=H:=by
 unfold cI;rw[s2b,s2b];exact h2t
end Go.Proofs.YtbadnagdfefbnaaGreatDoor
end
