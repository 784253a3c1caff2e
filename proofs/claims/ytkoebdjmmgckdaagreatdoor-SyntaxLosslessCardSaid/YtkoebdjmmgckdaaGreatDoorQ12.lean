/-
  A part of the proof of SyntaxLossless: UQ24, UQ25, UQ26, AbsLaidU, AbsLibU, AbsLib2U, AbsLib3U, AbsLib4U, AbsLib5U, AbsSgnU2, AbsOKU, UQ27, UQ28, UQ29, AbsIrP, UQ30, UQ31, UQ32, U54, U55, U56, U53, U57, U58, U59, U60.
-/
import Derived.Shelf.Strconv.AtoiAll
import Derived.Shelf.Strconv.Itoa3
import Derived.Shelf.Small.Strs
import Derived.Shelf.Strings.Search1
import Derived.Ground.NamesProg
import Derived.Test.YtkoebdjmmgckdaaGreatDoorChecked
import Derived.Shelf.Lay
import Derived.Shelf.Strings.Builder1
import Derived.Test.YtkoebdjmmgckdaaGreatDoorProg
import Derived.KernelRfl
import Derived.Test.YtkoebdjmmgckdaaGreatDoorQ11
set_option linter.unusedSimpArgs false
set_option linter.unusedVariables false
set_option linter.defProp false
set_option maxHeartbeats 4000000
set_option maxRecDepth 100000
noncomputable section
namespace Go.Proofs.YtkoebdjmmgckdaaGreatDoor
open Go Go.Abs Go.Proofs
variable {x:AV × Option fw}{kd:Int}{args:List AV}{a:List Fd}{r:List Fd × PS}
def TD{rows:List (List AV)}{x:List AV}{o:Bool}(h:wO 4 rows)(hr:rows.length<=1000000)(h4:x.length=4)(hn:nb [x]=true):aC false 4 64 (.slice rows true) (.slice [x] o)=some (.slice (rows++[x]) true) :=
 xw h ⟨fun r hr=>by rw[axi.1 hr];exact h4,hn⟩ df df
theorem XF{n:Nat}{H:aa}(hR:CW n args H x):args.length=DO.np/\D (PA 2 n) DO.body ⟨dO args,H,H.length,0⟩ (dn DO H.length x):=by
 cases hR with
 | @mk tk pl pv fl s H fd s' kd cs rows h hn hv hf hc aP hlf hr hw he =>
 refine⟨rfl,?_⟩;have gI:=h.q.lt;have II:=Wv (k:=2) (n:=n) h;have l1:=jS (tk:=tk) h.le;unfold mV at he;generalize aE (aq tk) s=q at *;obtain⟨nm,s1⟩:=q;simp only at he II l1;simp only[aw0] at he;obtain⟨⟨w,s2⟩,hwd,he⟩:=he;have CB:=ad7 (k:=2) (n:=n) (h.to l1) hwd;rw[fh,fI] at CB;have l2:=(iY _ _ _ hwd).le l1;simp only at l2 he;obtain⟨a,rest,rfl⟩:∃ a r,cs=a :: OI rows :: r:=by
  match cs,hc with
  | a :: v :: r,hc=>simp only[axK,axl,aw2] at hc;subst hc;exact⟨a,r,rfl⟩
 have xN:=(aw5.1 hf).1;have Ns:∀ s',(aH tk pl s' H)[fl]?=some (.box 85 (.int .i64 kd :: a :: OI rows :: rest)):=fun s'=>by rw[dA af];exact hf
 have S9:∀ s',(aH tk pl s' H)[pv]?=some (.box 72 [.ref pl 0]):=fun s'=>by rw[dA af];exact hv
 have hq:∀ (s' : PS) (o:bG),(aH tk pl s' H).set fl o=aH tk pl s' (H.set fl o):=fun s' o=>qk af
 have hg:∀ (s' : PS) (o:bG),((aH tk pl s' H).set fl o)[fl]?=some o:=fun s' o=>List.getElem?_set_self (by rw[bA];exact xN)
 have akR:∀ (s' : PS) (o:bG),(∀ cs,o≠.bR cs)->mc H.length pl ((aH tk pl s' H).set fl o)=true:=fun s' o ho=>by
  rw[hq];have hp:PQ pl (H.set fl o):=⟨by rw[List.length_set];exact gI,fun j cs hj hc=>by
   rw[List.length_set]
   by_cases e:fl=j
   ·subst e;rw[List.getElem?_set_self xN] at hc;injection hc with hc;exact absurd hc (ho cs)
   ·rw[List.getElem?_set_ne e] at hc;exact h.q.ob j cs hj hc⟩
  have:=hp.open (tk:=tk) (s:=s')
  grind
 have dH:∀ (s' : PS) (cs:List AV),mc H.length pl ((aH tk pl s' H).set fl (.box 85 cs))=true:=fun s' cs=>akR s' _ (fun _ h=>by cases h)
 have JM:decide (fl<pl)=false:=df;have qN:∀ (s' : PS) (o:bG),((aH tk pl s' H).set fl o).take H.length=(aH tk pl s' H).set fl o:=fun s' o=>axy (by rw[List.length_set,bA];exact Nat.le_refl _)
 have hlen:∀ (s' : PS) (o:bG),((aH tk pl s' H).set fl o).length=H.length:=fun s' o=>by rw[List.length_set,bA]
 have DA:∀ (x:List AV) (o:Bool),x.length=4->nb [x]=true->aC false 4 64 (.slice rows true) (.slice [x] o)=some (.slice (rows++[x]) true):=fun x o h4 hn=>TD hw hr h4 hn
 have B8:DO.results=[]:=rfl;refine jM _ _ ?_ (Ue (fn:=DO) rfl);refine (show D (PA 2 n) (.seq (DO.body.sub [false]) (.seq (.seq (.region _) (.cond _ (.region _) .skip)) (.region _))) _ _ from ?_)
 rw[dM];refine am3 (n:=n) (w:=w) (T0:=dO [.ref pv 0,.ref fl 0]) aP gI hv II CB rfl fun T q0 q1 q2=>?_
 have q0:T 0=.ref pv 0:=q0.trans rfl;have q1:T 1=.ref fl 0:=q1.trans rfl;rw[kH];refine Q8 ?_;have h4:(kd==4)=decide (kd=4):=rfl;have dL:=ag7 (k:=2) (n:=n) (h.to l2) (least:=0) af af;rw[fh] at dL;cases hk:decide (kd=4) with
 | true =>
  rw[hk,cond_true] at he;rw[hk] at h4;generalize iE (aq tk) 0 s2=q at *;obtain⟨v,s3⟩:=q;simp only[aw6,axM,ayc,ax'] at he dL;obtain⟨rfl,rfl⟩:=he;have ha:=DA [.str nm,.str w.name,.slice (aM w.kids) false,.int .i64 v] true rfl rfl;cases rows with
  | nil =>
   simp only[OI] at Ns;simp(disch:=omega)only[dJ,ab,simprocAttr,B8,q0,q1,q2,S9,Ns,h4,dL,hg,ha,JM,aW,bN,cH,cA,axA,axr,ah,List.set_set,qN,dH,dc]
  | cons r0 rs =>
   simp only[OI] at Ns;simp(disch:=omega)only[dJ,ab,simprocAttr,B8,q0,q1,q2,S9,Ns,h4,dL,hg,ha,JM,aW,bN,cH,cA,axA,axr,ah,List.set_set,qN,dH,dc]
 | false =>
  rw[hk,cond_false] at he;rw[hk] at h4;simp only[aw6,axM,ayc,ax'] at he;obtain⟨rfl,rfl⟩:=he;have ha:=DA [.str nm,.str w.name,.slice (aM w.kids) false,.int .i64 0] true rfl rfl;cases rows with
  | nil =>
   simp only[OI] at Ns;simp(disch:=omega)only[dJ,ab,simprocAttr,B8,q1,q2,Ns,h4,hg,ha,JM,aW,bN,cH,cA,axA,axr,ah,List.set_set,qN,dH,dc]
  | cons r0 rs =>
   simp only[OI] at Ns;simp(disch:=omega)only[dJ,ab,simprocAttr,B8,q1,q2,Ns,h4,hg,ha,JM,aW,bN,cH,cA,axA,axr,ah,List.set_set,qN,dH,dc]
section
section
variable {n:Nat}{tk:List Tk}{pl:Nat}{H:aa}{w:av}{k:Int}
def ajU(hle:pl<H.length)(CA:∀ M,(M=[]\/∃ cs,M=[.box 85 cs])->ai (PA 3 n) 56 [.ref pl 0] (H++[.box 72 [.ref pl 0]]++M)=some (.str w,none))(hix:∀ H,ai (PA 3 n) 58 [.slice (strs cG) false,.str w] H=some (.int .i64 k,none))
  {T0:az} (Dz:T0 1=.ref H.length 0) {Q:bB->AS->Prop}
  (hQ:∀ T,T 1=T0 1->T 2=T0 2->T 3=.ref (H.length+1) 0->Q .normal ⟨T,H++[.box 72 [.ref pl 0]]++[.box 85 [.int .i64 k,.str [],.al,.str [],.al,.int .i64 0,.int .i64 0,.str [],.str [],.str [],.al,.al,.al,.al]],H.length,1⟩) :
  D (PA 3 n) (wG.body.sub [true,false]) ⟨T0,H++[.box 72 [.ref pl 0]],H.length,1⟩ Q:=by
 have hgl:(PA 3 n).aX 0=[.slice (strs cG) false]:=rfl;have akT:=CA [] (.inl rfl);have akU:=CA [.box 85 [.int .i64 0,.str [],.al,.str [],.al,.int .i64 0,.int .i64 0,.str [],.str [],.str [],.al,.al,.al,.al]] (.inr ⟨_,rfl⟩);rw[List.append_nil] at akT;rw[uc] at akU;have Vs:(H++[bG.box 72 [.ref pl 0]])[H.length]?=some (.box 72 [.ref pl 0]):=Pt;have NC:∀ o,(H++[bG.box 72 [.ref pl 0]]++[o])[H.length]?=some (.box 72 [.ref pl 0]):=fun o=>by rw[axd ae];exact Pt
 have PD:(H++[bG.box 72 [.ref pl 0]]).length=H.length+1:=P6;have yp:decide (H.length+1<H.length)=false:=ae;have apK:decide (H.length<H.length)=false:=ae;have hg1:∀ o,(H++[bG.box 72 [.ref pl 0]]++[o])[H.length+1]?=some o:=fun o=>by rw[uc,acK]
 have pH:∀ o o',(H++[bG.box 72 [.ref pl 0]]++[o]).set (H.length+1) o'=H++[bG.box 72 [.ref pl 0]]++[o']:=fun o o'=>by rw[uc,adX,uc]
 unfold wG;simp only[aG.sub];refine Ub (by conv=>lhs;cbv) ?_
 simp(disch:=omega)only[Y2,ni,jN,nD,kM,AU,bS,br,fO,aI.eval,AS.cR,↓reduceIte,Nat.reduceEqDiff,Option.isSome,Option.isNone,cond_true,cond_false,Nat.reduceBEq,Nat.reduceAdd,Nat.reduceMul,ab,mr,eq_self,reduceCtorEq,yj,ny,j8,gX,bound,nO,AS.cN,cK,iK,dN,Nat.reduceLeDiff,mI,putAt,Int.reduceEq,Int.reduceLT,Int.reduceLE,Int.reduceBEq,Int.reduceBNe,Int.reduceAdd,Int.reduceNeg,Int.reduceSub,Int.reduceMul,zd,zc,zb,za,y9,y8,zg,zf,aW,gf,Int.toNat_natCast,axZ,F1,Dz,hgl,Vs,NC,akT,akU,hix,PD,yp,apK,hg1,pH,aW];simp only[uc] at hQ
 and_intros<;>exact hQ _ rfl rfl rfl
end
end
section
def am2{k n:Nat}(hk:3<=k){H:aa}(h:CW n args H x):ai (PA k n) 60 args H=some x:=by
 have ho:(PA k n).ov 60=some (mb (CW n)):=by
  have:Nat.ble 3 k=true:=by rw[axv];exact hk
  show (bif Nat.ble 3 k then _ else _)=_
  rw[this];rfl
 refine fC ho (qf (fun _ hy=>SE h hy) h) ?_
 cases h;rfl
def fH(pl:Nat)(H:aa)(cs:List AV):aa:=H++[.box 72 [.ref pl 0],.box 85 cs]
section
variable {n:Nat}{tk:List Tk}{pl:Nat}{s s' : PS}{H:aa}{cs:List AV}
def Pk(h:jk tk pl s H):jk tk pl s (fH pl H cs):=by
 have gI:=h.q.lt;unfold fH;refine⟨?_,by rw[axd gI];exact h.at',h.b,h.le⟩
 rw[<- uc];exact h.q.box.box
theorem UE:(aH tk pl s' (fH pl H cs)).length=H.length+2:=by rw[bA];unfold fH;rw[We]
def acI(h:jk tk pl s H):(aH tk pl s' (fH pl H cs))[H.length]?=some (.box 72 [.ref pl 0]):=by
 rw[jX h.q.lt];unfold fH;rw[List.getElem?_append_right (Nat.le_refl _)];simp
def acH(h:jk tk pl s H):(aH tk pl s' (fH pl H cs))[H.length+1]?=some (.box 85 cs):=by
 have:=h.q.lt
 rw[jX af];unfold fH;rw[List.getElem?_append_right af];simp
def UF(h:jk tk pl s H){cs':List AV} : (aH tk pl s' (fH pl H cs)).set (H.length+1) (.box 85 cs')=aH tk pl s' (fH pl H cs'):=by
 have:=h.q.lt
 rw[qk af];unfold fH;rw[List.set_append_right _ _ af];simp
theorem HO{L:List av}(h:mV L n kd a s=some r):∃ fd,r.1=a++[fd]/\mV L n kd [] s=some ([fd],r.2):=by
 unfold mV at h ⊢;simp only[aw0] at h
 grind
def pd(h:mV (aq tk) n kd a s=some r):Lq tk s r.2:=by
 unfold mV at h;simp only[aw0] at h;obtain⟨w,hw,rfl⟩:=h;have h1:=(dv (tk:=tk) (s:=s)).tr (iY _ _ _ hw);cases decide (kd=4) with
 | true=>exact h1.tr (AO af)
 | false=>exact h1
theorem abC(hn:n<=1000000)(h0:jk tk pl s H){nm:av}{rest:List AV} :
  HX 3 n tk pl (H.length+2) 60 [] [.ref H.length 0,.ref (H.length+1) 0] (mV (aq tk) n kd) (fun b sl s1 K=>K=aH tk pl s1 (fH pl H (.int .i64 kd :: .str nm :: OI (sl.map dc) :: rest))/\s1.i<=tk.length) List.length where
 at':=fun b a s1 K hJ=>by rw[hJ.1];exact (Pk h0).to hJ.2
 set:=fun b a s1 s2 K hJ hl=>by rw[hJ.1];exact⟨fh,hl⟩
 el:=fun b a s1 K r hJ hz he=>by
  obtain⟨rfl,hl⟩:=hJ;obtain⟨fd,e1,e2⟩:=HO he;have hp:=(Pk (cs:=.int .i64 kd :: .str nm :: OI (a.map dc) :: rest) h0).to hl;have gI:=h0.q.lt;refine⟨_,am2 (k:=3) af (CW.mk (fl:=H.length+1) (rows:=a.map dc) hp hn (acI h0) (acH h0) rfl gI af (by rw[List.length_map];exact hz) Iw e2),?_,(pd he).le hl⟩
  rw[fh,UF h0,e1]
  congr 2
  simp only[ay9,azo,List.map_append,axe,axB];cases a<;>rfl
 sz:=fun a s1 r he=>by
  grind [HO]
 fin:=fun a s1 K T gen hJ=>by
  obtain⟨rfl,hl⟩:=hJ;have hp:=(Pk (cs:=.int .i64 kd :: .str nm :: OI (a.map dc) :: rest) h0).to hl;have:=hp.ajR (s':=s1) (T:=T) (gen:=gen)
  grind [fh,UE]
 fc:=rfl
theorem aeA{fn:aD}{base:Nat}(hm:fn.muts.elem 777777=true):∀ e s,Bu base fn.results (fun y=>(nC y.1,y.2)=x) e s->dn fn base x e s:=by
 intro e s h;have key:bX (fin base fn.results s) (fun y=>(nC y.1,y.2)=x)->finish base fn s=some x:=fun h=>by
  obtain⟨y,h1,h2⟩:=h;have:=pU (fn:=fn) h1
  grind [D5]
 cases e with
 | exit i=>exact h.elim
 | normal=>exact key h
 | ret=>exact key h
def af1{w:av}(h:¬ kR w cG 0<0):w≠[]:=fun e=>by subst e;exact h aB
theorem ZZ(w:av):-1<=kR w cG 0/\kR w cG 0<=5:=by
 unfold cG;simp only[kR]
 grind
def UQ{H:aa}(hR:F3 n args H x):args.length=wG.np/\D (PA 3 n) wG.body ⟨dO args,H,H.length,0⟩ (dn wG H.length x):=by
 cases hR with
 | @mk tk pl s H f s' h hn he =>
 refine⟨rfl,?_⟩;have gI:=h.q.lt;have hG:=fun cs=>Pk (cs:=cs) h
 have CA:∀ M,(M=[]\/∃ cs,M=[.box 85 cs])->ai (PA 3 n) 56 [.ref pl 0] (H++[.box 72 [.ref pl 0]]++M)=some (.str (pk (aq tk) s),none):=fun M hM=>by
  rcases hM with rfl|⟨cs,rfl⟩
  ·rw[List.append_nil]
   exact Qi (k:=3) (n:=n) ⟨h.q.box,by rw[axd gI];exact h.at',h.b,h.le⟩
  ·rw[uc]
   exact Qi (k:=3) (n:=n) (hG cs)
 have hix:∀ H,ai (PA 3 n) 58 [.slice (strs cG) false,.str (pk (aq tk) s)] H=some (.int .i64 (kR (pk (aq tk) s) cG 0),none):=fun H=>cP rfl (PU cG (pk (aq tk) s) H aB)
 unfold lW at he;simp only at he;generalize Nv:kR (pk (aq tk) s) cG 0=kd at *;have B8:wG.results=[.cell 2 true 14]:=rfl;refine jM _ _ ?_ (aeA (fn:=wG) rfl);refine (show D (PA 3 n) (.seq (.region _) (.seq (wG.body.sub [true,false]) (wG.body.sub [true,true]))) _ _ from ?_)
 generalize hX:wG.body.sub [true,true]=X;rw[dM,bY rfl];refine P9 @xx ?_;rw[dM];refine ajU (n:=n) (w:=pk (aq tk) s) (k:=kd) gI CA hix (Ce tv) fun T q1 q2 q3=>?_
 simp(disch:=omega)only[dJ,ab,simprocAttr] at q1 q2;rw[kH];refine Q8 ?_;rw[<- hX];rw[uc];have e0:=(hG [.int .i64 kd,.str [],.al,.str [],.al,.int .i64 0,.int .i64 0,.str [],.str [],.str [],.al,.al,.al,.al]).eq;rw[show H++[bG.box 72 [.ref pl 0],.box 85 [.int .i64 kd,.str [],.al,.str [],.al,.int .i64 0,.int .i64 0,.str [],.str [],.str [],.al,.al,.al,.al]]=aH tk pl s (fH pl H [.int .i64 kd,.str [],.al,.str [],.al,.int .i64 0,.int .i64 0,.str [],.str [],.str [],.al,.al,.al,.al]) from e0]
 have ue:=fun s' cs=>acI (s':=s') (cs:=cs) h
 have gfl:=fun s' cs=>acH (s':=s') (cs:=cs) h
 have wC:=fun s' cs cs'=>UF (s':=s') (cs:=cs) (cs':=cs') h
 have gat:=fun s' cs=>YE (s:=s') (hG cs)
 have gsp:∀ i (b:Bool) s' cs,(aH tk pl s' (fH pl H cs)).set pl (.box 74 [.slice (tk.map gp) false,.int .i64 (i:Nat),.bool b])=aH tk pl ⟨i,b⟩ (fH pl H cs):=fun i b s' cs=>vu
 have ae0:∀ i (b:Bool) s' cs,(aH tk pl s' (fH pl H cs)).set pl (.box 74 [.slice (tk.map gp) false,.int .i64 ((i:Nat)+1),.bool b])=aH tk pl ⟨i+1,b⟩ (fH pl H cs):=fun i b s' cs=>su
 have KL:∀ s' cs,(aH tk pl s' (fH pl H cs)).take H.length=aH tk pl s' H:=fun s' cs=>A' gI
 have gop:∀ s' cs,mc H.length pl (aH tk pl s' (fH pl H cs))=true:=fun s' cs=>by
  have:=h.q.open (tk:=tk) (s:=s')
  unfold mc at this ⊢;rw[KL]
  rwa [dq] at this
 have CC:decide (H.length<pl)=false:=df;have od:decide (H.length+1<pl)=false:=df;have hxx:decide (pl<pl)=false:=ae;have hpe:Nat.beq pl H.length=false:=ag6 af;cases zZ:decide (kd<0) with
 | true =>
  rw[zZ,cond_true] at he;injection he with he
  injection he with lJ iX
  subst lJ iX;unfold wG;simp only[aG.sub];obtain⟨i,b⟩:=s;unfold PS.xI;exact vV q1 (j3 q2 q3 ue) (j5 gfl gat gsp KL gop) (j5 zZ @iU @cr @dp @cq) (j5 @cI @bN.eq_1 @bJ.eq_1 @ah.eq_1 @tm0.eq_1) tv
  done
 | false =>
  rw[zZ,cond_false] at he;simp only[aw1] at he;obtain⟨⟨sl,s2⟩,hl,he⟩:=he;have da:pk (aq tk) s≠[]:=af1 (by rw[Nv];simpa using zZ)
  have aP:=um da;have lu:s.up.i<=tk.length:=aP;have tD:=fun cs=>Hm (k:=3) (n:=n) (s:=s.up) (hG cs) lu
  have ln:=jS (tk:=tk) lu;generalize aE (aq tk) s.up=q at *;obtain⟨nm,s1⟩:=q;simp only at tD ln hl he;have RX:=fun cs=>BU (k:=3) (n:=n) (s:=s1) (hG cs) ln (w:=[40]) ae
  have lw:=fT (tk:=tk) (w:=[40]) ae ln;obtain⟨K',hc,b,rfl,l2⟩:=I4 (abC hn h (rest:=[.str [],.al,.int .i64 0,.int .i64 0,.str [],.str [],.str [],.al,.al,.al,.al])) (H:=aH tk pl (aN (aq tk) [40] s1) (fH pl H (.int .i64 kd :: .str nm :: .al :: [.str [],.al,.int .i64 0,.int .i64 0,.str [],.str [],.str [],.al,.al,.al,.al]))) UE (fin:=[41]) ae ⟨rfl,lw⟩ df hl;simp only at hc l2 he;have II:∀ r∈sl.map dc,r.map n1=r:=fun r hr=>by
   obtain⟨fd,_,rfl⟩:=List.mem_map.1 hr;rfl
  have hsd:∃ sd,(OI (sl.map dc)).drop=sd/\sd.drop=sd/\aO sd=true/\n2 sd=.slice (sl.map dc) false/\∀ b,AV.bp b sd=true:=by
   cases sl with
   | nil=>exact⟨.al,rfl,rfl,rfl,rfl,fun _=>rfl⟩
   | cons a r =>
    refine⟨.slice ((a :: r).map dc) false,rfl,rfl,rfl,?_,fun _=>rfl⟩
    rw[dR]
    congr 1
    conv=>rhs;rw[<- azU ((a :: r).map dc)]
    exact List.map_congr_left II
  obtain⟨sd,d1,d2,d3,d4,d5⟩:=hsd;generalize OI (sl.map dc)=sc at *;have hrg:=ZZ (pk (aq tk) s);rw[Nv] at hrg;cases Aa:(decide (kd=0) || decide (kd=1)) with
  | true =>
   rw[Aa,cond_true] at he;injection he with he
   injection he with lJ iX
   subst lJ iX;unfold wG;simp only[aG.sub];unfold PS.up at tD;obtain⟨i,b⟩:=s;have yZ:=h.b.len;simp only at tD aP;have h01:kd=0\/kd=1:=cJ Aa
   rcases h01 with rfl|rfl
   ·simp(disch:=omega)only[dJ,ab,simprocAttr,q1,q2,q3,ue,gfl,gat,wC,ae0,tD,RX,hc,KL,gop,od,hxx,aW,bN,ah,d1,d2,d3,d4,d5,cr,dp,cq,cI,bJ,tm0,Tm.kind,Tm.n,Tm.name,Tm.field,Tm.wn,Tm.wk,Tm.kids,Tm.names,aM,aF,strs]
   ·simp(disch:=omega)only[dJ,ab,simprocAttr,q1,q2,q3,ue,gfl,gat,wC,ae0,tD,RX,hc,KL,gop,od,hxx,aW,bN,ah,d1,d2,d3,d4,d5,cr,dp,cq,cI,bJ,tm0,Tm.kind,Tm.n,Tm.name,Tm.field,Tm.wn,Tm.wk,Tm.kids,Tm.names,aM,aF,strs]
  | false =>
   rw[Aa,cond_false] at he;simp only[aw1,aw0] at he;obtain⟨⟨w,s3⟩,hw,⟨t1,s4⟩,hx,he⟩:=he;injection he with lJ iX
   simp only at lJ iX hx;subst lJ iX;have hwd:=fun cs=>(show ai (PA 3 n) 61 [.ref pl 0] (aH tk pl s2 (fH pl H cs))=some (.agg (fN w),some ⟨aH tk pl s3 (fH pl H cs),pl⟩) from by
    have:=ad7 (k:=3) (n:=n) ((hG cs).to l2) hw
    rwa [fh] at this)
   have l3:=(iY _ _ _ hw).le l2;simp only at l3;have aqz:=fun cs=>BU (k:=3) (n:=n) (s:=s3) (hG cs) l3 (w:=[61]) ae
   have l4:=fT (tk:=tk) (w:=[61]) ae l3;have hex:=fun cs=>Pg (k:=3) (hG cs) hn l4 hx
   have ew:=fI w;have et:=aj t1;rw[ew] at hwd;rw[et] at hex;generalize aN (aq tk) [61] s3=s5 at *;unfold PS.up at tD;obtain⟨i,b⟩:=s;have yZ:=h.b.len;simp only at tD aP;simp only[axG,axo] at Aa;have hk2:(kd != 0)=true:=by simp;exact Aa.1
   have hk3:(kd != 1)=true:=by simp;exact Aa.2
   unfold wG;simp only[aG.sub];simp(disch:=omega)only[dJ,ab,simprocAttr,q1,q2,q3,ue,gfl,gat,wC,ae0,tD,RX,hc,hwd,aqz,hex,hk2,hk3,KL,gop,zZ,od,hxx,aW,bN,ah,d1,d2,d3,d4,d5,cr,dp,cq,cI,dR,LC,D6,aaG,bJ,Tm.kind,Tm.n,Tm.name,Tm.field,Tm.wn,Tm.wk,Tm.kids,Tm.names];rfl
end
end
end Go.Proofs.YtkoebdjmmgckdaaGreatDoor
namespace Go.Proofs
open Go.Shelf Go.Abs
def YtkoebdjmmgckdaaGreatDoor.Lj:Go.Shelf.Ren:=⟨fun|172=>125|244=>137|245=>138|247=>149|279=>150|280=>151|281=>152|282=>153|287=>163|316=>164|171=>68|205=>165|321=>169|322=>170|243=>103|246=>128|283=>143|284=>144|285=>145|286=>146|129=>156|317=>155|318=>157|319=>158|320=>159|337=>166|338=>167|n=>n,fun|9=>9|3=>3|75=>103|76=>104|4=>4|5=>5|167=>196|37=>99|0=>0|85=>197|2=>2|168=>199|53=>190|175=>209|46=>207|210=>213|127=>134|145=>221|143=>219|21=>21|171=>189|173=>193|212=>203|51=>204|20=>20|213=>205|232=>222|233=>223|80=>61|n=>n,fun|15=>7|16=>8|17=>6|18=>9|19=>10|n=>n⟩
def YtkoebdjmmgckdaaGreatDoor.IZ:Go.Proofs.LaysC.n172 Tryz.prog YtkoebdjmmgckdaaGreatDoor.Lj:={
 mixed:=cB
 f129:=tk Tryz.func156 cB
 f171:=tk Tryz.func68 cB
 f172:=tk Tryz.func125 cB
 f205:=tk Tryz.func165 cB
 f243:=tk Tryz.func103 cB
 f244:=tk Tryz.func137 cB
 f245:=tk Tryz.func138 cB
 f246:=tk Tryz.func128 cB
 f247:=tk Tryz.func149 cB
 f279:=tk Tryz.func150 cB
 f280:=tk Tryz.func151 cB
 f281:=tk Tryz.func152 cB
 f282:=tk Tryz.func153 cB
 f283:=tk Tryz.func143 cB
 f284:=tk Tryz.func144 cB
 f285:=tk Tryz.func145 cB
 f286:=tk Tryz.func146 cB
 f287:=tk Tryz.func163 cB
 f316:=tk Tryz.func164 cB
 f317:=tk Tryz.func155 cB
 f318:=tk Tryz.func157 cB
 f319:=tk Tryz.func158 cB
 f320:=tk Tryz.func159 cB
 f321:=tk Tryz.func169 cB
 f322:=tk Tryz.func170 cB
 f337:=tk Tryz.func166 cB
 f338:=tk Tryz.func167 cB
 t0:=Tryz.underlying0
 a0:=Tryz.isAgg0
 z0:=Tryz.sizeOf0
 v0:=Tryz.zeroValue0
 t2:=Tryz.underlying2
 a2:=Tryz.isAgg2
 z2:=Tryz.sizeOf2
 v2:=Tryz.zeroValue2
 t3:=Tryz.underlying3
 a3:=Tryz.isAgg3
 z3:=Tryz.sizeOf3
 v3:=Tryz.zeroValue3
 t4:=Tryz.underlying4
 a4:=Tryz.isAgg4
 z4:=Tryz.sizeOf4
 v4:=Tryz.zeroValue4
 t5:=Tryz.underlying5
 a5:=Tryz.isAgg5
 z5:=Tryz.sizeOf5
 v5:=Tryz.zeroValue5
 t9:=Tryz.underlying9
 a9:=Tryz.isAgg9
 z9:=Tryz.sizeOf9
 v9:=Tryz.zeroValue9
 t20:=Tryz.underlying20
 a20:=Tryz.isAgg20
 z20:=Tryz.sizeOf20
 v20:=Tryz.zeroValue20
 t21:=Tryz.underlying21
 a21:=Tryz.isAgg21
 z21:=Tryz.sizeOf21
 v21:=Tryz.zeroValue21
 t37:=Tryz.underlying99
 a37:=Tryz.isAgg99
 z37:=Tryz.sizeOf99
 v37:=Tryz.zeroValue99
 t46:=Tryz.underlying207
 a46:=Tryz.isAgg207
 z46:=Tryz.sizeOf207
 v46:=Tryz.zeroValue207
 t51:=Tryz.underlying204
 a51:=Tryz.isAgg204
 z51:=Tryz.sizeOf204
 v51:=Tryz.zeroValue204
 t53:=Tryz.underlying190
 a53:=Tryz.isAgg190
 z53:=Tryz.sizeOf190
 v53:=Tryz.zeroValue190
 t75:=Tryz.underlying103
 a75:=Tryz.isAgg103
 z75:=Tryz.sizeOf103
 v75:=Tryz.zeroValue103
 t76:=Tryz.underlying104
 a76:=Tryz.isAgg104
 z76:=Tryz.sizeOf104
 v76:=Tryz.zeroValue104
 t85:=Tryz.underlying197
 a85:=Tryz.isAgg197
 z85:=Tryz.sizeOf197
 v85:=Tryz.zeroValue197
 t127:=Tryz.underlying134
 a127:=Tryz.isAgg134
 z127:=Tryz.sizeOf134
 v127:=Tryz.zeroValue134
 t143:=Tryz.underlying219
 a143:=Tryz.isAgg219
 z143:=Tryz.sizeOf219
 v143:=Tryz.zeroValue219
 t145:=Tryz.underlying221
 a145:=Tryz.isAgg221
 z145:=Tryz.sizeOf221
 v145:=Tryz.zeroValue221
 t167:=Tryz.underlying196
 a167:=Tryz.isAgg196
 z167:=Tryz.sizeOf196
 v167:=Tryz.zeroValue196
 t168:=Tryz.underlying199
 a168:=Tryz.isAgg199
 z168:=Tryz.sizeOf199
 v168:=Tryz.zeroValue199
 t171:=Tryz.underlying189
 a171:=Tryz.isAgg189
 z171:=Tryz.sizeOf189
 v171:=Tryz.zeroValue189
 t173:=Tryz.underlying193
 a173:=Tryz.isAgg193
 z173:=Tryz.sizeOf193
 v173:=Tryz.zeroValue193
 t175:=Tryz.underlying209
 a175:=Tryz.isAgg209
 z175:=Tryz.sizeOf209
 v175:=Tryz.zeroValue209
 t210:=Tryz.underlying213
 a210:=Tryz.isAgg213
 z210:=Tryz.sizeOf213
 v210:=Tryz.zeroValue213
 t212:=Tryz.underlying203
 a212:=Tryz.isAgg203
 z212:=Tryz.sizeOf203
 v212:=Tryz.zeroValue203
 t213:=Tryz.underlying205
 a213:=Tryz.isAgg205
 z213:=Tryz.sizeOf205
 t232:=Tryz.underlying222
 a232:=Tryz.isAgg222
 z232:=Tryz.sizeOf222
 v232:=Tryz.zeroValue222
 t233:=Tryz.underlying223
 a233:=Tryz.isAgg223
 z233:=Tryz.sizeOf223
 v233:=Tryz.zeroValue223
 g15:=cB
 g16:=cB
 g17:=cB
 g18:=cB
 g19:=cB
 t80:=Tryz.underlying61
 a80:=Tryz.isAgg61
 z80:=Tryz.sizeOf61
 v80:=Tryz.zeroValue61
 i0:=cB
 i2:=cB
 i3:=cB
 i4:=cB
 i5:=cB
 i9:=cB
 i20:=cB
 i21:=cB
 i37:=cB
 i46:=cB
 i51:=cB
 i53:=cB
 i75:=cB
 i76:=cB
 i80:=cB
 i85:=cB
 i127:=cB
 i143:=cB
 i145:=cB
 i167:=cB
 i168:=cB
 i171:=cB
 i173:=cB
 i175:=cB
 i210:=cB
 i212:=cB
 i232:=cB
 i233:=cB
 m15:=cB
 m16:=cB
 m17:=cB
 m18:=cB
 m19:=cB
 c0:=cB
 c2:=cB
 c3:=cB
 c4:=cB
 c5:=cB
 c9:=cB
 c20:=cB
 c21:=cB
 c37:=cB
 c46:=cB
 c51:=cB
 c53:=cB
 c75:=cB
 c76:=cB
 c80:=cB
 c85:=cB
 c127:=cB
 c143:=cB
 c145:=cB
 c167:=cB
 c168:=cB
 c171:=cB
 c173:=cB
 c175:=cB
 c210:=cB
 c212:=cB
 c213:=cB
 c232:=cB
 c233:=cB }
def YtkoebdjmmgckdaaGreatDoor.Lk:Go.Shelf.Ren:=⟨fun|171=>68|243=>103|246=>128|283=>143|284=>144|285=>145|286=>146|129=>156|317=>155|318=>157|319=>158|320=>159|337=>166|338=>167|n=>n,fun|3=>3|9=>9|2=>2|4=>4|171=>189|0=>0|53=>190|37=>99|5=>5|173=>193|212=>203|51=>204|20=>20|213=>205|46=>207|232=>222|233=>223|n=>n,fun|17=>6|18=>9|19=>10|n=>n⟩
def YtkoebdjmmgckdaaGreatDoor.aal:Go.Proofs.LaysM.n171 Tryz.prog YtkoebdjmmgckdaaGreatDoor.Lk:={
 mixed:=cB
 f129:=tk Tryz.func156 cB
 f171:=tk Tryz.func68 cB
 f243:=tk Tryz.func103 cB
 f246:=tk Tryz.func128 cB
 f283:=tk Tryz.func143 cB
 f284:=tk Tryz.func144 cB
 f285:=tk Tryz.func145 cB
 f286:=tk Tryz.func146 cB
 f317:=tk Tryz.func155 cB
 f318:=tk Tryz.func157 cB
 f319:=tk Tryz.func158 cB
 f320:=tk Tryz.func159 cB
 f337:=tk Tryz.func166 cB
 f338:=tk Tryz.func167 cB
 t0:=Tryz.underlying0
 a0:=Tryz.isAgg0
 z0:=Tryz.sizeOf0
 v0:=Tryz.zeroValue0
 t2:=Tryz.underlying2
 a2:=Tryz.isAgg2
 z2:=Tryz.sizeOf2
 v2:=Tryz.zeroValue2
 t3:=Tryz.underlying3
 a3:=Tryz.isAgg3
 z3:=Tryz.sizeOf3
 v3:=Tryz.zeroValue3
 t4:=Tryz.underlying4
 a4:=Tryz.isAgg4
 z4:=Tryz.sizeOf4
 v4:=Tryz.zeroValue4
 t5:=Tryz.underlying5
 a5:=Tryz.isAgg5
 z5:=Tryz.sizeOf5
 v5:=Tryz.zeroValue5
 t9:=Tryz.underlying9
 a9:=Tryz.isAgg9
 z9:=Tryz.sizeOf9
 v9:=Tryz.zeroValue9
 t20:=Tryz.underlying20
 a20:=Tryz.isAgg20
 z20:=Tryz.sizeOf20
 v20:=Tryz.zeroValue20
 t37:=Tryz.underlying99
 a37:=Tryz.isAgg99
 z37:=Tryz.sizeOf99
 v37:=Tryz.zeroValue99
 t46:=Tryz.underlying207
 a46:=Tryz.isAgg207
 z46:=Tryz.sizeOf207
 v46:=Tryz.zeroValue207
 t51:=Tryz.underlying204
 a51:=Tryz.isAgg204
 z51:=Tryz.sizeOf204
 v51:=Tryz.zeroValue204
 t53:=Tryz.underlying190
 a53:=Tryz.isAgg190
 z53:=Tryz.sizeOf190
 v53:=Tryz.zeroValue190
 t171:=Tryz.underlying189
 a171:=Tryz.isAgg189
 z171:=Tryz.sizeOf189
 v171:=Tryz.zeroValue189
 t173:=Tryz.underlying193
 a173:=Tryz.isAgg193
 z173:=Tryz.sizeOf193
 v173:=Tryz.zeroValue193
 t212:=Tryz.underlying203
 a212:=Tryz.isAgg203
 z212:=Tryz.sizeOf203
 v212:=Tryz.zeroValue203
 t213:=Tryz.underlying205
 a213:=Tryz.isAgg205
 z213:=Tryz.sizeOf205
 t232:=Tryz.underlying222
 a232:=Tryz.isAgg222
 z232:=Tryz.sizeOf222
 v232:=Tryz.zeroValue222
 t233:=Tryz.underlying223
 a233:=Tryz.isAgg223
 z233:=Tryz.sizeOf223
 v233:=Tryz.zeroValue223
 g17:=cB
 g18:=cB
 g19:=cB
 i0:=cB
 i2:=cB
 i3:=cB
 i4:=cB
 i5:=cB
 i9:=cB
 i20:=cB
 i37:=cB
 i46:=cB
 i51:=cB
 i53:=cB
 i171:=cB
 i173:=cB
 i212:=cB
 i232:=cB
 i233:=cB
 m17:=cB
 m18:=cB
 m19:=cB }
def YtkoebdjmmgckdaaGreatDoor.I0:Go.Shelf.Ren:=⟨fun|137=>71|217=>114|266=>136|n=>n,fun|9=>9|5=>5|3=>3|n=>n,fun|n=>n⟩
def YtkoebdjmmgckdaaGreatDoor.Wa:Go.Proofs.Lays.n137 Tryz.prog YtkoebdjmmgckdaaGreatDoor.I0:={
 mixed:=cB
 f137:=tk Tryz.func71 cB
 f217:=tk Tryz.func114 cB
 f266:=tk Tryz.func136 cB
 t3:=Tryz.underlying3
 a3:=Tryz.isAgg3
 z3:=Tryz.sizeOf3
 v3:=Tryz.zeroValue3
 t5:=Tryz.underlying5
 a5:=Tryz.isAgg5
 z5:=Tryz.sizeOf5
 v5:=Tryz.zeroValue5
 t9:=Tryz.underlying9
 a9:=Tryz.isAgg9
 z9:=Tryz.sizeOf9
 v9:=Tryz.zeroValue9 }
def YtkoebdjmmgckdaaGreatDoor.Gr:Go.Shelf.Ren:=⟨fun|217=>114|266=>136|n=>n,fun|9=>9|5=>5|3=>3|n=>n,fun|n=>n⟩
def YtkoebdjmmgckdaaGreatDoor.Sb:Go.Proofs.Lays.n217 Tryz.prog YtkoebdjmmgckdaaGreatDoor.Gr:={
 mixed:=cB
 f217:=tk Tryz.func114 cB
 f266:=tk Tryz.func136 cB
 t3:=Tryz.underlying3
 a3:=Tryz.isAgg3
 z3:=Tryz.sizeOf3
 v3:=Tryz.zeroValue3
 t5:=Tryz.underlying5
 a5:=Tryz.isAgg5
 z5:=Tryz.sizeOf5
 v5:=Tryz.zeroValue5
 t9:=Tryz.underlying9
 a9:=Tryz.isAgg9
 z9:=Tryz.sizeOf9
 v9:=Tryz.zeroValue9 }
end Go.Proofs
namespace Go.Proofs.YtkoebdjmmgckdaaGreatDoor
open Go Go.Abs Go.Proofs Go.Shelf RowKit
variable {r x y:AV}{vs:Array Value}{g:Nat}{P:Program}{v:Value}
section
def VC(s:ByteArray)(c:Int)(w:World):Calls Tryz.prog 71 #[.string s,.int .u8 c] w fun e w'=>e=.returned (.int .i64 (Lib.indexByte s.data.toList c.toNat.toUInt8))/\w'=w:=Any.strings_IndexByte Wa s c w
def R4(s:ByteArray)(c:Int)(w:World):Calls Tryz.prog 114 #[.string s,.int .u8 c] w fun e w'=>e=.returned (.int .i64 (Lib.indexByte s.data.toList c.toNat.toUInt8))/\w'=w:=Any.stringslite_IndexByte Sb s c w
def Z8(n:Int)(h0:-9223372036854775808<=n)(h1:n<=9223372036854775807)(w:World)(aqp:Lib.TabIs Tryz.prog w "internal/strconv.uint64pow10" .u64 Lib.pow10Tab) :
  Calls Tryz.prog 68 #[.int .i64 n] w fun e w'=>e=.returned (.string ⟨(Lib.itoa n).toArray⟩)/\∃ k os,w'=Sort.grow (w.drewN k) os:=Any.strconv_Itoa aal n h0 h1 w aqp
def YF(s:ByteArray)(Vh:s.size<=9223372036854775806)(v:Int)(h:Lib.atoiAll s.data.toList=.ok v)(w:World) :
  Calls Tryz.prog 125 #[.string s] w fun e w'=>e=.returned (.tuple #[.int .i64 v,.nilIface])/\(w'=w\/∃ t,w'=Lib.bytesWorld w 5 t):=Any.strconv_Atoi_ok IZ s Vh v h w
def TM(s:ByteArray)(afz:s.size<=281474976710656)(h1:∀ v,Lib.atoiAll s.data.toList≠.ok v)(h2:Lib.atoiAll s.data.toList≠.range)(ev:Value)(w:World)(hv:w.cell? ⟨7,0,none⟩=some ev)(cE:ev=.nilIface\/∃ te pe,ev=.iface te pe) :
  Calls Tryz.prog 125 #[.string s] w fun e w'=>∃ N,e=.returned (.tuple #[.int .i64 (0),.iface 199 (.pointer (some ⟨N,0,none⟩))])/\Below w.heap.size w w' :=
 (Any.strconv_Atoi_syntax IZ s afz (by
  generalize Lib.atoiAll s.data.toList=x at h1 h2
  cases x<;>first|rfl|exact absurd rfl (h1 _)|exact absurd rfl h2) ev w hv cE).mono fun e w' ⟨N,h1,_,_,h4⟩=>⟨N,h1,h4⟩
def MN(s:ByteArray)(afz:s.size<=281474976710656)(h:Lib.atoiAll s.data.toList=.range)(ev:Value)(w:World)(hv:w.cell? ⟨8,0,none⟩=some ev)(cE:ev=.nilIface\/∃ te pe,ev=.iface te pe) :
  Calls Tryz.prog 125 #[.string s] w fun e w'=>∃ N,e=.returned (.tuple #[.int .i64 (Lib.atoiSat s.data.toList),.iface 199 (.pointer (some ⟨N,0,none⟩))])/\Below w.heap.size w w' :=
 (Any.strconv_Atoi_range IZ s afz h ev w hv cE).mono fun e w' ⟨N,h1,_,_,h4⟩=>⟨N,h1,h4⟩
section
variable {G:Nat->List AV}{base:Nat}{gh:Gh}{w w' : World}{H:aa}
def FH(hW:aY G base H gh w)(hb:Below w.heap.size w w')(n:Nat):Step (fun _=>False) n gh w gh w':=by
 refine⟨fun _ _ h=>h,fun b o h=>cell_of_heap (hb.block b (hW.qj b o h)),hb.size,hb.os,hb.tape,hb.output,fun b aP _=>⟨.inl (hb.block b aP),rfl,fun _ h=>h⟩,fun b iG=>hW.cg b iG,fun _ _=>rfl,fun b ty m hm=>?_,fun b E ck hs h0=>(hb.block b (hW.qj b 0 hs)).trans h0⟩
 obtain⟨C,fr,h1,h2⟩:=hm;exact⟨C,fr,by rw[hb.block b (axb.1 h1).1];exact h1,h2⟩
def nU(hW:aY G base H gh w)(hb:Below w.heap.size w w')(hv:VR gh H.length w' v r):pM G base H gh w r none v gh w' :=
 ⟨Nat.le_refl _,hW.step (FH hW hb H.length) (fun l=>⟨id,fun _=>id⟩) (fun b o h=>ayh (hW.qj b o h) hb.size) (fun b h=>⟨(hW.ru b h).1,ayh (hW.ru b h).2 hb.size⟩) (fun _ _ _ h=>.inl h),
  (FH hW hb H.length).mono (fun _ h=>h.elim),fun _ h=>h,.inl hv⟩
def rM:jH H none:=⟨Nat.le_refl _,fun c h=>by cases h⟩
def J5(hs:vs.size=[x].length)(h:∀ (j:Nat) (v:Value) (y:AV),vs[j]?=some v->[x][j]?=some y->VR gh H.length w v y):∃ v,vs=#[v]/\VR gh H.length w v x:=by
 obtain⟨l⟩:=vs
 match l,hs with
 | [v],_=>exact⟨v,rfl,h 0 v x rfl rfl⟩
def acp(hs:vs.size=[x,y].length)(h:∀ (j:Nat) (v:Value) (z:AV),vs[j]?=some v->[x,y][j]?=some z->VR gh H.length w v z):∃ u v,vs=#[u,v]/\VR gh H.length w u x/\VR gh H.length w v y:=by
 obtain⟨l⟩:=vs
 match l,hs with
 | [u,v],_=>exact⟨u,v,rfl,h 0 u x rfl rfl,h 1 v y rfl rfl⟩
end
theorem xC:∀ (f n:Nat) (acc:List UInt8),n<f->gy f n acc=Lib.decDigits n++acc
 | 0,n,acc,h=>absurd h (Nat.not_lt_zero _)
 | f+1,n,acc,h=>by
  unfold gy;rw[Lib.decDigits]
  by_cases hn:n<10
  ·rw[show Nat.blt n 10=true by simpa [axp] using hn,dif_pos hn]
   rfl
  ·rw[show Nat.blt n 10=false by simpa [<- aze,axp] using hn,dif_neg hn,cond_false,xC f (n / 10) _ af]
   simp
theorem V0(n:Int):rU n=Lib.itoa n:=by
 unfold rU Lib.itoa;cases n with
 | ofNat k =>
  grind [xC]
 | negSucc k =>
  grind [xC]
theorem AI(c:Int)(h0:0<=c)(h1:c<256):∀ (l:List UInt8) (k:Nat),cw c k l=if Lib.indexByte l c.toNat.toUInt8=-1 then -1 else Lib.indexByte l c.toNat.toUInt8+k
 | [],k=>by simp[cw,Lib.indexByte]
 | b :: r,k=>by
  have hc:(c.toNat.toUInt8).toNat=c.toNat:=df;have hb:(b==c.toNat.toUInt8)=decide ((b.toNat:Int)=c):=by
   by_cases h:(b.toNat:Int)=c
   ·have:b=c.toNat.toUInt8:=UInt8.toNat_inj.1 (by rw[hc];omega)
    grind
   ·grind
  have RI:∀ l:List UInt8, -1<=Lib.indexByte l c.toNat.toUInt8:=by
   intro l
   induction l with
   | nil=>simp[Lib.indexByte]
   | cons x l ih =>
    simp only[Lib.indexByte]
    grind
  unfold cw Lib.indexByte;rw[hb]
  by_cases h:(b.toNat:Int)=c
  ·simp[h]
  ·have:=RI r
   simp only[h,decide_false,cond_false,azL,ayg];rw[AI c h0 h1 r (k+1)]
   grind
def Rw(f:FuncId)(fn:Func)(h:Tryz.prog.funcs[f]?=some fn)(hb:fn.body.isSome=true)(hn:fn.name≠ "runtime.NumGoroutine"):∃ fn,Tryz.prog.funcs[f]?=some fn/\fn.body.isSome=true/\fn.name≠ "runtime.NumGoroutine":=⟨fn,h,hb,hn⟩
theorem BF{G:Nat->List AV} : gx Tryz.prog G 71 ik:=by
 intro args H r c he;refine⟨Rw 71 _ Tryz.func71 cB aB,?_⟩;unfold ik at he;split at he
 ·rename_i l c'
  obtain⟨h0,he⟩:=ay he;simp only[aw4,aw'] at h0;simp only[aw2,aw6] at he;obtain⟨rfl,rfl⟩:=he;refine⟨rM,fun base gh w vs hW _ hs dh=>?_⟩
  obtain⟨u,v,rfl,hu,hv⟩:=acp hs dh;obtain⟨s,rfl,hl⟩:=hu.ku;rw[hv.ko];refine (VC s c' w).mono ?_
  rintro e w' ⟨rfl,rfl⟩
  refine⟨_,gh,rfl,nU hW (Below.refl _ _) ?_⟩;rw[AI c' h0.1 h0.2 l 0,hl];have:(if Lib.indexByte l c'.toNat.toUInt8=-1 then (-1:Int) else Lib.indexByte l c'.toNat.toUInt8+(0:Nat))=Lib.indexByte l c'.toNat.toUInt8:=by split<;>simp_all
  rw[this];exact .plain _ _ (.int _ _)
 ·cases he
theorem ze{G:Nat->List AV} : gx Tryz.prog G 114 ik:=by
 intro args H r c he;refine⟨Rw 114 _ Tryz.func114 cB aB,?_⟩;unfold ik at he;split at he
 ·rename_i l c'
  obtain⟨h0,he⟩:=ay he;simp only[aw4,aw'] at h0;simp only[aw2,aw6] at he;obtain⟨rfl,rfl⟩:=he;refine⟨rM,fun base gh w vs hW _ hs dh=>?_⟩
  obtain⟨u,v,rfl,hu,hv⟩:=acp hs dh;obtain⟨s,rfl,hl⟩:=hu.ku;rw[hv.ko];refine (R4 s c' w).mono ?_
  rintro e w' ⟨rfl,rfl⟩
  refine⟨_,gh,rfl,nU hW (Below.refl _ _) ?_⟩;rw[AI c' h0.1 h0.2 l 0,hl];have:(if Lib.indexByte l c'.toNat.toUInt8=-1 then (-1:Int) else Lib.indexByte l c'.toNat.toUInt8+(0:Nat))=Lib.indexByte l c'.toNat.toUInt8:=by split<;>simp_all
  rw[this];exact .plain _ _ (.int _ _)
 ·cases he
theorem MP(w:World)(k:Nat)(os:Array Obj):Below w.heap.size w (Sort.grow (w.drewN k) os):=by
 refine⟨rfl,rfl,rfl,by simp[Sort.grow,World.drewN],fun i hi=>?_⟩
 show (w.heap++os)[i]?=_
 grind
theorem ah8{G:Nat->List AV}{base:Nat}{gh:Gh}{w:World}{H:aa}(hW:aY G base H gh w){name:String}(hg:Tryz.prog.globalNamed name=some g){k:IntKind}{zs:List Int}(hG:G g=zs.map (.int k))(da:zs≠[]) :
  Lib.TabIs Tryz.prog w name k zs:=by
 obtain⟨ty,C,fr,h1,h2⟩:=hW.Cg g (by rw[hG];simpa using da)
 have hC:C=(zs.map fun z=>Value.int k z).toArray:=by
  apply Array.ext_getElem?;intro j;rw[hG,List.length_map] at h2
  by_cases hj:j<zs.length
  ·have hx:(G g)[j]?=some (.int k zs[j]):=by rw[hG];simp[hj]
   obtain⟨v,hv,hp,_⟩:=hW.aX g j _ hx;rw[cell_of_row w g j C ty fr h1] at hv;cases hp;rw[hv];simp[hj]
  ·grind
 unfold Lib.TabIs World.var?
 grind
theorem DR:gx Tryz.prog BS 68 Fb:=by
 intro args H r c he;refine⟨Rw 68 _ Tryz.func68 cB aB,?_⟩;unfold Fb at he;split at he
 ·rename_i n
  obtain⟨h0,he⟩:=ay he;simp only[aw4,aw'] at h0;simp only[aw2,aw6] at he;obtain⟨rfl,rfl⟩:=he;refine⟨rM,fun base gh w vs hW _ hs dh=>?_⟩
  obtain⟨u,rfl,hu⟩:=J5 hs dh;rw[hu.ko];refine (Z8 n h0.1 h0.2 w (ah8 hW cB (g:=6) rfl (by simp[Lib.pow10Tab]))).mono ?_
  rintro e w' ⟨rfl,k,os,rfl⟩
  exact⟨_,gh,rfl,nU hW (MP w k os) (.plain _ _ (.str _ _ (by rw[V0])))⟩
 ·cases he
def Kr{base:Nat}{gh:Gh}{w:World}{H:aa}(hW:aY BS base H gh w)(hG:BS g=[.iface HS .any]):∃ ev,w.cell? ⟨g,0,none⟩=some ev/\(ev=.nilIface\/∃ te pe,ev=.iface te pe):=by
 obtain⟨v,hv,hp,_⟩:=hW.aX g 0 (.iface HS .any) (by rw[hG];rfl)
 cases hp with
 | iface _ u _ _=>exact⟨_,hv,.inr ⟨_,_,rfl⟩⟩
theorem OO{gh:Gh}{n:Nat}{w:World}{u:Value}(h1:VR gh n w u x)(h2:VR gh n w v y):VR gh n w (.tuple #[u,v]) (.tuple [x,y]):=by
 refine .tuple _ _ rfl (fun j a b ha hb=>?_)
 grind
theorem C4:gx Tryz.prog BS 125 Fa:=by
 intro args H r c he;refine⟨Rw 125 _ Tryz.func125 cB aB,?_⟩;unfold Fa at he;split at he
 ·rename_i l
  obtain⟨h0,he⟩:=ay he;have hlen:l.length<=281474976710656:=by simpa [axv] using h0
  have hc:c=none:=by split at he<;>(simp only[aw2,aw6] at he;exact he.2.symm)
  subst hc;refine⟨rM,fun base gh w vs hW _ hs dh=>?_⟩
  obtain⟨u,rfl,hu⟩:=J5 hs dh;obtain⟨s,rfl,hl⟩:=hu.ku;have pZ:s.size<=281474976710656:=by
   have:s.size=s.data.toList.length:=ae
   rw[this,hl];exact hlen
  split at he
  ·rename_i v ft
   simp only[aw2,aw6,ax'] at he;subst he;refine (YF s af v (by rw[hl];exact ft) w).mono ?_
   rintro e w' ⟨rfl,hw⟩
   refine⟨_,gh,rfl,nU hW ?_ (OO (.plain _ _ (.int _ _)) (.plain _ _ .cM))⟩
   rcases hw with rfl|⟨t,rfl⟩
   ·exact Below.refl _ _
   ·exact Lib.bytesWorld_below _ _ _
  ·rename_i ft
   simp only[aw2,aw6,ax'] at he;subst he;obtain⟨ev,h1,h2⟩:=Kr hW (g:=8) rfl;refine (MN s pZ (by rw[hl];exact ft) ev w h1 h2).mono ?_
   rintro e w' ⟨N,rfl,hb⟩
   rw[hl];exact⟨_,gh,rfl,nU hW hb (OO (.plain _ _ (.int _ _)) (.iface _ _ _ (.plain _ _ (.any _ rfl))))⟩
  ·rename_i mS hnr
   simp only[aw2,aw6,ax'] at he;subst he;obtain⟨ev,h1,h2⟩:=Kr hW (g:=7) rfl;refine (TM s pZ (by rw[hl];exact fun v e=>mS v e) (by rw[hl];exact fun e=>hnr e) ev w h1 h2).mono ?_
   rintro e w' ⟨N,rfl,hb⟩
   exact⟨_,gh,rfl,nU hW hb (OO (.plain _ _ (.int _ _)) (.iface _ _ _ (.plain _ _ (.any _ rfl))))⟩
 ·cases he
end
def adZ:(Tryz.prog.info? 101).map (·.size)=some 2:=cB
def al5:liesAt Tryz.prog Tryz.prog.depth 101 (2 / Tryz.prog.cellsOf 101) 0 101 1=true:=cB
def Q7(b:Nat)(w:World)(h0:w.cell? ⟨b,0,none⟩=some (.pointer (some ⟨b,0,none⟩))) :
  Calls Tryz.prog 75 #[.pointer (some ⟨b,0,none⟩)] w fun e w'=>e=.returned (.tuple #[])/\w'=w:=by
 obtain⟨j,hj,_⟩:=aw0.1 adZ
 go_enter Tryz.func75,Tryz.ntmps75
 go_wp2
 rw[Lib.run_neq_ptr_same w _ Tryz.underlying98 hj]
 go_wp2
 go_end0
 exact⟨rfl,rfl⟩
def M0(b:Nat)(w:World)(h0:w.cell? ⟨b,0,none⟩=some (.pointer none))(hsh:w.shape? b=some (101,2))(hfz:w.frozen? ⟨b,0,none⟩=false) :
  Calls Tryz.prog 75 #[.pointer (some ⟨b,0,none⟩)] w fun e w'=>e=.returned (.tuple #[])/\w'=w.setCell ⟨b,0,none⟩ (.pointer (some ⟨b,0,none⟩)):=by
 obtain⟨j,hj,hjs⟩:=aw0.1 adZ
 go_enter Tryz.func75,Tryz.ntmps75
 go_wp2
 rw[Lib.run_to_unsafe w ⟨b,0,none⟩ Tryz.underlying98 Tryz.underlying168 hj (by rw[hjs];decide) hsh (Nat.zero_lt_succ 1)]
 simp only[Result.andThen];rw[Oper.upon_value]
 go_wp2
 rw[run_callFunc_extern Tryz.func116 cB cB cB (e:=Extern.AbiNoEscape.same) cB];rw[Lib.run_noEscape];simp only[Result.andThen];rw[Oper.upon_value]
 go_wp2
 rw[Lib.run_from_unsafe w ⟨b,0,none⟩ Tryz.underlying168 Tryz.underlying98 hj hsh al5];simp only[Result.andThen];rw[Oper.upon_value]
 go_wp2
 go_end0
 exact⟨rfl,rfl⟩
theorem Dd{G:Nat->List AV} : gx Tryz.prog G 75 jK:=by
 intro args H r c he;refine⟨Rw 75 _ Tryz.func75 cB aB,?_⟩;unfold jK at he;split at he
 ·rename_i l
  split at he
  ·
   rename_i x hH;simp only[aw2,aw6] at he;obtain⟨rfl,rfl⟩:=he;have aP:l<H.length:=(aw5.1 hH).1;refine⟨⟨by simp[qC],fun c' Cx=>?_⟩,fun base gh w vs hW _ hs dh=>?_⟩
   ·grind
   ·obtain⟨u,rfl,hu⟩:=J5 hs dh
    obtain⟨_,rfl⟩:=hu.kq;obtain⟨hκ,hS,C,ty,hb,hC,iz⟩:=hW.boxes l _ _ hH;obtain⟨C2,fr2,kG,hC2⟩:=hW.types l _ _ hH aB;rw[hb] at kG;injection kG with kG
    injection kG with e1 e2 e3
    subst e1 e2;have hC2:C.size=2:=hC2;have h0:C[0]?=some C[0]:=axj af;have U2:C[0]=.pointer none:=by
     have:=(iz 0 _ .kX h0 rfl).2.dropped
     generalize C[0]=V at this;cases this with
     | plain _ _ h=>cases h;rfl
    have cZ:w.cell? ⟨gh.ρ l,0,none⟩=some (.pointer none):=by rw[cell_of_row w _ 0 C _ _ hb,h0,U2]
    have mS:∀ o,gh.S (gh.ρ l) o->(C.setIfInBounds 0 (.pointer (some ⟨gh.ρ l,0,none⟩)))[o]?=C[o]?:=fun o ho=>(hS o ho).elim
    have st:=nV hW hb ae mS H.length;rw[hκ] at st;refine (M0 (gh.ρ l) w cZ (by simp[World.shape?,hb,hC2]) (by simp[World.frozen?,hb])).mono ?_
    rintro e w' ⟨rfl,rfl⟩
    rw[setCell_eq_setRow w (gh.ρ l) 0 C _ (0,0) _ hb];have n9:aY G base (H.set l (.box 101 [.ref l 0,x])) gh (w.setRow (gh.ρ l) (C.setIfInBounds 0 (.pointer (some ⟨gh.ρ l,0,none⟩)))):=by
     refine hW.OE st hH (by intro k hk;simp[hk]) (fun b o ho=>by simpa using hW.qj b o ho) (fun b hb=>by simpa using hW.ru b hb) ⟨hκ,hS,_,_,setRow_heap w _ C _ _ _ hb,cJ hC,fun j v y hv hy=>?_⟩ ?_ ?_ ?_
     ·match j with
      | 0 =>
       simp at hy;subst hy;rw[Array.getElem?_setIfInBounds_self_of_lt af] at hv;injection hv with hv
       subst hv;exact⟨rfl,.inl (.ref l 0 aP)⟩
      | j+1 =>
       rw[azh af] at hv;obtain⟨k1,k2⟩:=iz (j+1) v y hv (cJ hy);exact⟨k1,k2.mono st (Nat.le_refl _) ae⟩
     ·have:=hW.refs l _ _ hH
      simp only[List.all_cons,List.all_nil,axX,aw4] at this ⊢;exact⟨by simp[aV],this.2⟩
     ·exact fun _ _ h=>h
     ·rfl
    refine⟨_,gh,rfl,by simp[qC],n9,st.mono (fun p hp=>.inl ⟨l,hp⟩),fun _ h=>h,.inl .undef⟩
  ·
   rename_i l' y hH;obtain⟨h0,lJ⟩:=ay he;clear he;have oc:l=l':=by simpa [im] using h0
   simp only[aw2,aw6] at lJ;obtain⟨rfl,rfl⟩:=lJ;subst oc;refine⟨rM,fun base gh w vs hW _ hs dh=>?_⟩
   obtain⟨u,rfl,hu⟩:=J5 hs dh;obtain⟨_,rfl⟩:=hu.kq;obtain⟨hκ,hS,C,ty,hb,hC,iz⟩:=hW.boxes l _ _ hH;have hC2:2<=C.size:=hC;have h0' : C[0]?=some C[0]:=axj af;have U2:C[0]=.pointer (some ⟨gh.ρ l,0,none⟩):=(VR.kq (iz 0 _ (.ref l 0) h0' rfl).2.dropped).2;refine (Q7 (gh.ρ l) w (by rw[cell_of_row w _ 0 C _ _ hb,h0',U2])).mono ?_
   rintro e w' ⟨rfl,rfl⟩
   exact⟨_,gh,rfl,nU hW (Below.refl _ _) .undef⟩
  ·cases he
 ·cases he
def OL(b:Nat)(a q:Option Addr)(n cap:Nat)(s:ByteArray)(w W1 W:World)(c1:w.drew.cell? ⟨b,1,none⟩=some (.slice a n cap))(c2:W1.cell? ⟨b,1,none⟩=some (.slice a n cap))
  (hSD:(Builtin.unsafeSliceData_ #[99] 134 #[.slice a n cap]).run Tryz.prog w.drew=.ok (.pointer q) W1)
  (hUS:(Builtin.unsafeString_ #[134,3] 9 #[.pointer q,.int .i64 n]).run Tryz.prog W1=.ok (.string s) W) :
  Calls Tryz.prog 38 #[.pointer (some ⟨b,0,none⟩)] w fun e w'=>e=.returned (.string s)/\w'=W:=by
 have mixed:Tryz.prog.follows .mixedOrders=true:=by kernel_rfl
 go_enter Tryz.func38,Tryz.ntmps38
 go_wp2
 go_region_o
 all_goals (go_wp2;go_ret;exact⟨rfl,rfl⟩)
def N1{e:TypeId}(hc:P.cellsOf e=1)(count n off:Nat)(hn:off+n<=count):liesAt P P.depth e count off e n=true:=by
 have hd:P.depth=(2*(P.types.size+Made.depth)+1)+1:=rfl;rw[hd];simp only[liesAt,ayt];left;rw[hd];simp[rowAt,hc,hn,sameLayout];exact .inl (Nat.mod_one off)
def vq(w:World)(pt it ty e:TypeId)(hp:P.underlying pt=some (.pointer e))(hc:P.cellsOf e=1)(g off cells:Nat)(hsh:w.shape? g=some (e,cells))(l:List UInt8)(h0:l≠[])(hn:off+l.length<=cells)(h63:l.length<=9223372036854775807)
  (cZ:∀ j x,l[j]?=some x->w.cell? ((⟨g,off,none⟩:Addr).add j)=some (.int .u8 x.toNat)) :
  (Builtin.unsafeString_ #[pt,it] ty #[.pointer (some ⟨g,off,none⟩),.int .i64 l.length]).run P w=.ok (.string ⟨l.toArray⟩) (w.freeze ⟨g,off,none⟩ l.length):=by
 have hl:l.length≠0:=by simpa using h0
 have Yg:=Lib.run_loadBytes (P:=P) w l ⟨g,off,none⟩ .empty cZ;have akK:=N1 (P:=P) hc (cells / P.cellsOf e) l.length off (by rw[hc];simpa using hn)
 have aoM:¬ (9223372036854775807:Int)<(l.length:Int):=by omega
 have KT:Builtin.unsafeString_ #[pt,it] ty #[.pointer (some ⟨g,off,none⟩),.int .i64 l.length] =
   (do
    let n <- asInt (.int .i64 l.length)
    if n<0 then runtimePanic (.error "unsafe.String: len out of range")
    if n>IntKind.i64.max then unsupported (.unsafePointer "String: a length above the largest int")
    if n=0 then pure (.string .empty)
    else if <- variablesAt ⟨g,off,none⟩ (<- elemOf pt) n.toNat then do
     let s <- loadBytes ⟨g,off,none⟩ .empty n.toNat
     freeze ⟨g,off,none⟩ n.toNat
     pure (.string s)
    else unsupported (.unsafePointer "String: not so many bytes at ptr")):=rfl
 rw[KT];have Vh:IntKind.i64.max=9223372036854775807:=rfl;have RP:¬ (l.length:Int)<0:=by omega
 simp[asInt,asIntOf,Vh,aoM,RP,hl,variablesAt,hsh,elemOf,run_underlying hp,akK,Yg]
section
section
variable {G:Nat->List AV}{base:Nat}{gh:Gh}{w w' : World}{H:aa}
def Xe(hW:aY G base H gh w)(st:Step (fun _=>False) H.length gh w gh w')(hv:VR gh H.length w' v r):pM G base H gh w r none v gh w' :=
 ⟨Nat.le_refl _,hW.step st (fun l=>⟨id,fun _=>id⟩) (fun b o h=>ayh (hW.qj b o h) st.size) (fun b h=>⟨(hW.ru b h).1,ayh (hW.ru b h).2 st.size⟩) (fun _ _ _ h=>.inl h),
  st.mono (fun _ h=>h.elim),fun _ h=>h,.inl hv⟩
theorem Mf(hW:aY G base H gh w){b o n:Nat}{C:Array Value}{ty:TypeId}{fr:Nat × Nat}(hb:w.heap[b]?=some (.cells C ty fr))(hn:n≠0)(hS:∀ j,j<n->gh.S b (o+j))(h8:∃ m,C[o]?=some (.int .u8 m))(m:Nat) :
  Step (fun _=>False) m gh w gh (w.drew.freeze ⟨b,o,none⟩ n):=by
 have aP:b<w.heap.size:=(axb.1 hb).1;have uX:∀ k,(w.drew.freeze ⟨b,o,none⟩ n).heap[k]?=if k=b then some (.cells C ty (if fr.1==fr.2 then (o,o+n) else (min fr.1 o,max fr.2 (o+n)))) else w.heap[k]?:=by
  intro k;unfold World.freeze;rw[if_neg hn]
  show (w.heap.modify b _)[k]?=_
  grind
 have cZ:∀ k j,(w.drew.freeze ⟨b,o,none⟩ n).cell? ⟨k,j,none⟩=w.cell? ⟨k,j,none⟩:=by
  intro k j;simp only[World.cell?,uX]
  grind
 have pZ:(w.drew.freeze ⟨b,o,none⟩ n).heap.size=w.heap.size:=by
  unfold World.freeze
  simp_all
 have hos:(w.drew.freeze ⟨b,o,none⟩ n).os=w.os/\(w.drew.freeze ⟨b,o,none⟩ n).tape=w.tape/\(w.drew.freeze ⟨b,o,none⟩ n).output=w.output:=by
  unfold World.freeze;rw[if_neg hn];exact⟨rfl,rfl,rfl⟩
 refine⟨fun _ _ h=>h,fun k j _=>cZ k j,by rw[pZ];exact Nat.le_refl _,hos.1,hos.2.1,hos.2.2,fun k hk _=>⟨?_,rfl,fun _ h=>h⟩,fun k hk=>hW.cg k (by rw[<- pZ];rw[pZ];exact hk),fun _ _=>rfl,fun k oI m' hm=>?_,fun k E ck _ h0=>?_⟩
 rotate_left 2
 ·grind
 ·rw[uX]
  by_cases JL:k=b
  ·subst JL
   rw[if_pos rfl,hb];obtain⟨lo,hi⟩:=fr;obtain⟨m8,h8⟩:=h8;have y5:∀ q,(∀ o,q<=o->¬ gh.S k o)->o+n<=q:=fun q mS=>by
    rcases azj (o+(n-1)) q with h|h
    ·omega
    ·grind
   by_cases hlh:(lo==hi)=true
   ·exact .inr ⟨C,ty,lo,hi,o,o+n,rfl,by rw[if_pos hlh],⟨o,m8,by simpa using hS 0 af,h8⟩,fun q hq mS=>y5 q mS⟩
   ·exact .inr ⟨C,ty,lo,hi,min lo o,max hi (o+n),rfl,by rw[if_neg hlh],⟨o,m8,by simpa using hS 0 af,h8⟩,fun q hq mS=>by have:=y5 q mS;omega⟩
  ·rw[if_neg JL];exact .inl rfl
 ·obtain⟨C',fr',h1,h2⟩:=hm
  by_cases JL:k=b
  ·subst JL
   rw[hb] at h1;injection h1 with h1
   injection h1 with e1 e2 e3
   subst e1 e2;exact⟨C,_,by rw[uX,if_pos rfl],h2⟩
  ·exact⟨C',fr',by rw[uX,if_neg JL];exact h1,h2⟩
end
theorem GG:∀ {e:List (List AV)} {l:List UInt8},bytesOf e=some l->e.length=l.length/\∀ (i:Nat) (b:UInt8),l[i]?=some b->∃ m:Int,e[i]?=some [.int .u8 m]/\b=UInt8.ofNat m.toNat
 | [],l,h=>by
  simp only[bytesOf,aw2] at h
  grind
 | r :: e,l,h=>by
  unfold bytesOf at h;split at h
  ·cases ‹_ :: _=[]›
  ·rename_i n e' heq
   injection heq with h1 h2
   subst h1 h2;obtain⟨l',h3,rfl⟩:=aw0.1 h;obtain⟨k1,k2⟩:=GG h3
   grind
  ·cases h
theorem zR{G:Nat->List AV} : gx Tryz.prog G 38 si:=by
 intro args H r c he;refine⟨Rw 38 _ Tryz.func38 cB aB,?_⟩;unfold si at he;split at he
 ·rename_i l
  split at he
  ·rename_i x e hH
   obtain⟨h0,he⟩:=ay he;simp only[aw4] at h0;have hlen:e.length<=4611686018427387904:=by simpa [axv] using h0.1.1
   have afN:=h0.1.2;obtain⟨bs,hbs,he⟩:=aw0.1 he;simp only[aw6] at he;obtain⟨rfl,rfl⟩:=he;obtain⟨yZ,hbr⟩:=GG hbs;have aP:l<H.length:=(aw5.1 hH).1;refine⟨rM,fun base gh w vs hW _ hs dh=>?_⟩
   obtain⟨u,rfl,hu⟩:=J5 hs dh;obtain⟨_,rfl⟩:=hu.kq;obtain⟨hκ,hS,C,ty,hb,hC,iz⟩:=hW.boxes l _ _ hH;have hC2:2<=C.size:=hC;have h1:C[1]?=some C[1]:=axj af;have hv:=(iz 1 _ (.slice e true) h1 rfl).2;have cZ:w.cell? ⟨gh.ρ l,1,none⟩=some C[1]:=by rw[cell_of_row w _ 1 C _ _ hb,h1]
   generalize C[1]=v at hv cZ
   by_cases da:e=[]
   ·grind
   ·have cu:PR gh.S w v (.slice e false):=by
     rcases hv with hv|⟨e',heq,h,_⟩
     ·cases hv with
      | plain _ _ h=>cases h
      | full a k _ h hz=>exact h
     ·grind
    cases cu with
    | dr=>exact absurd rfl da
    | slice b o n cap sz _ f hn kQ bQ afg akY =>
     subst hn;have DF:0<e.length:=ayn.2 da;have KS:0<bs.length:=af;obtain⟨m0,hm0,_⟩:=hbr 0 bs[0] (aw3 KS);have j7:sz=1:=(bQ 0 _ hm0).symm;subst j7;have each:∀ (i:Nat) (x:UInt8),bs[i]?=some x->gh.S b (o+i)/\w.cell? ⟨b,o+i,none⟩=some (.int .u8 x.toNat):=by
      intro i x hx;obtain⟨m,hm,rfl⟩:=hbr i x hx;obtain⟨k1,k2,_⟩:=afg i 0 _ _ hm rfl;have hr:=akY i 0 _ _ hm rfl;have hf:f i 0=.int .u8 m:=by
       generalize f i 0=V at hr;cases hr;rfl
      simp only[azn,axZ] at k1 k2;refine⟨k1,?_⟩;rw[k2,hf];have hm8:=aw8.1 afN _ (axc hm);simp only[aw4,aw'] at hm8;have e1:((UInt8.ofNat m.toNat).toNat:Int)=m:=by
       rw[UInt8.toNat_ofNat'];omega
      rw[e1]
     obtain⟨Cb,fr,vK⟩:∃ Cb fr,w.heap[b]?=some (.cells Cb je fr):=by
      have:=each 0 bs[0] (aw3 KS)
      exact hW.bytes b (o+0) _ this.1 this.2
     have hsh:w.drew.shape? b=some (5,Cb.size):=by
      have:w.drew.heap[b]?=some (.cells Cb je fr):=vK
      simp[World.shape?,this]
     have ZE:o+bs.length<=Cb.size:=by
      have:=(each (bs.length-1) bs[bs.length-1] (aw3 af)).2
      rw[cell_of_row w b _ Cb _ _ vK] at this;have:=(axb.1 this).1
      omega
     have c1:w.drew.cell? ⟨gh.ρ l,1,none⟩=some (.slice (some ⟨b,o,none⟩) e.length cap):=cZ;have hSD:(Builtin.unsafeSliceData_ #[99] 134 #[.slice (some ⟨b,o,none⟩) e.length cap]).run Tryz.prog w.drew=.ok (.pointer (some ⟨b,o,none⟩)) w.drew:=Lib.run_unsafeSliceData_row _ _ _ _ _ _ af;have hUS:=vq (P:=Tryz.prog) w.drew 134 3 9 5 Tryz.underlying134 cB b o Cb.size hsh bs (by intro e;rw[e] at KS;simp at KS) ZE af (fun j x hx=>by
      have UX:(Addr.mk b o none).add j=⟨b,o+j,none⟩:=by
       unfold Addr.add;split
       ·rename_i h0;subst h0;simp
       ·simp
      rw[UX];exact (each j x hx).2)
     rw[<- yZ] at hUS;refine (OL (gh.ρ l) _ _ e.length cap _ w _ _ c1 c1 hSD hUS).mono ?_
     rintro e' w' ⟨rfl,rfl⟩
     refine⟨_,gh,rfl,Xe hW (Mf hW vK af (fun j hj=>(each j bs[j] (aw3 af)).1) ⟨bs[0].toNat,?_⟩ _) (.plain _ _ (.str _ _ rfl))⟩
     have:=(each 0 bs[0] (aw3 KS)).2
     rw[cell_of_row w b _ Cb _ _ vK] at this
     simpa using this
  ·cases he
 ·cases he
end
end Go.Proofs.YtkoebdjmmgckdaaGreatDoor
namespace Go.Proofs.YtkoebdjmmgckdaaGreatDoor
open Go Go.Abs Go.Proofs
variable {st:AS}{K:AS->Prop}{x:AV × Option fw}{b ka o va:Bool}{fn:Func}{f:FuncId}{rows todo:List (List AV)}{args cur:List AV}{fs:List Fm}{es:List Nat}{os:List aQ}{g gen i k lo off pl z:Nat}{s1:PS}{T:az}{a:bG}
def WJ:∀ q∈mZ,∃ w i j,q=[.str w,.int .i64 i,.int .i64 j]/\oE i=(w,j):=by
 intro q hq;simp only[mZ,axs,axR,ays] at hq
 rcases hq with rfl|rfl|rfl|rfl|rfl|rfl|rfl|rfl|rfl|rfl<;>exact⟨_,_,_,rfl,aB⟩
def OH{n:Int}(h:∀ q∈mZ,∀ w i j,q=[.str w,.int .i64 i,.int .i64 j]->i≠n):(n=9/\oE n=([110,111,116],7))\/(n=11/\oE n=([108,101,110],7))\/(n≠9/\n≠11/\oE n=([],7)):=by
 have hh:∀ w i j,[AV.str w,.int .i64 i,.int .i64 j]∈mZ->i≠n:=fun w i j hm=>h _ hm _ _ _ rfl
 have h0:=hh [43] 0 5 (by simp[mZ])
 have h1:=hh [45] 1 5 (by simp[mZ])
 have h2:=hh [42] 2 6 (by simp[mZ])
 have h3:=hh [47] 3 6 (by simp[mZ])
 have h4:=hh [37] 4 6 (by simp[mZ])
 have h5:=hh [60] 5 3 (by simp[mZ])
 have h6:=hh [61,61] 6 3 (by simp[mZ])
 have h7:=hh [97,110,100] 7 2 (by simp[mZ])
 have h8:=hh [111,114] 8 1 (by simp[mZ])
 have h10:=hh [106,111,105,110] 10 4 (by simp[mZ])
 by_cases e9:n=9
 ·subst e9;exact .inl ⟨rfl,rfl⟩
 ·by_cases e11:n=11
  ·subst e11;exact .inr (.inl ⟨rfl,rfl⟩)
  ·refine .inr (.inr ⟨e9,e11,?_⟩)
   rw[oE,if_pos af]
def ab7{kz:Nat}{H:aa}{t d:Nat}{r:List aQ}{c:aG}{Q:bB->AS->Prop}(h:T t=.iter g kz ka va cur todo)
  (h1:todo=[]->W A0 (.region r) ⟨T.put d (.tuple [.bool false]),H,lo,gen⟩ (andThen (fun s=>W A0 c s Q) Q))
  (h2:∀ q rest,todo.Perm (q :: rest)->W A0 (.region r) ⟨(T.put t (.iter g kz ka va q rest)).put d (.tuple [.bool true,qY ka (q.take kz),qY va (q.drop kz)]),H,lo,gen⟩ (andThen (fun s=>W A0 c s Q) Q)) :
  WN A0.aX (ai A0) (.seq (.region (⟨some d,none,.next (.tmp t)⟩ :: r)) c) ⟨T,H,lo,gen⟩ Q:=by
 have key:∀ s,W A0 (.region r) s (andThen (fun s=>W A0 c s Q) Q)->qq A0.aX (ai A0) r s (fun s'=>WN A0.aX (ai A0) c s' Q):=fun s h=>by
  rw[<- Gw] at h;exact CP (c:=.seq (.region r) c) h
 exact⟨g,kz,ka,va,cur,todo,h,fun e=>key _ (h1 e),fun q rest hp=>key _ (h2 q rest hp)⟩
def IP:aG:=.seq (.region [⟨some 20,none,.Lv 1 false false⟩,⟨none,none,.N5 1 false false 1 [CK.i] (.tmp 20) (.yn (.int .i64 9)) (.yn (.str [110,111,116]))⟩,⟨none,none,.N5 1 false false 1 [CK.i] (.tmp 20) (.yn (.int .i64 11)) (.yn (.str [108,101,110]))⟩,⟨some 21,none,.mov false false (.tmp 20)⟩,⟨some 22,none,.mov false false (.tmp 0)⟩,⟨some 23,none,.look false 1 false false [CK.i] [.str []] (.tmp 21) (.tmp 22)⟩,⟨some 2,none,.mov true false (.tmp 23)⟩,⟨some 3,none,.mov true false (.yn (.int .i64 7))⟩]) .ret
def ahz{kz:Nat}{H:aa}{t u:Nat}(h:T u=.iter g kz ka va cur todo)(hk:(Nat.ble kz cur.length&&!cur.isEmpty)=true) :
  WO A0 (⟨some t,none,.ent (.tmp u)⟩ :: os) ⟨T,H,lo,gen⟩ K=jC A0 (some (.tuple [qY ka (cur.take kz),qY va (cur.drop kz)])) t os T H lo gen K:=gJ (by simp only[br,h,hk,cond_true,axa])
def x8{H:aa}{n:Int}{x:List UInt8}(q0:T 0=.int .i64 n)
  (hx:(dC [.i] [.int .i64 n] [[.int .i64 9,.str [110,111,116]],[.int .i64 11,.str [108,101,110]]]).map (qc false false [.str []] 1 [[.int .i64 9,.str [110,111,116]],[.int .i64 11,.str [108,101,110]]])=some (.str x)) :
  W A0 IP ⟨T,H,H.length,gen⟩ (done H.length [.tmp 2,.tmp 3] (.tuple [.str x,.int .i64 7],none)):=by
 have FY:∀ x:bG,(H++[x])[H.length]?=some x:=fun x=>ae
 have pH:∀ x y:bG,(H++[x]).set H.length y=H++[y]:=fun x y=>ae
 have fe9:dC [.i] [.int .i64 9] []=some none:=rfl;have UK:dC [.i] [.int .i64 11] [[.int .i64 9,.str [110,111,116]]]=some none:=rfl;have Ts:∀ (k:IntKind) (n:Int),(AV.int k n).isAgg=false:=fun _ _=>rfl
 have Tt:∀ (s:List UInt8),(AV.str s).isAgg=false:=fun _=>rfl
 have ajQ:(false==false)=true:=rfl;have sv:∀ (es:List (List AV)) (r:List AV),wN es none r=es++[r]:=fun _ _=>rfl
 have wF:decide (H.length<H.length)=false:=ae;have hlx:zy (H++[.map 1 false false [[.int .i64 9,.str [110,111,116]],[.int .i64 11,.str [108,101,110]]]]) false 1 false false [.i] [.str []] (.mref H.length) (.int .i64 n)=some (.str x):=by
  simp only[zy,V3,AV.drop,AV.cells,aw7,FY];exact hx
 unfold IP;exact nM (j3 (j5 FY pH @fe9 @UK @Ts) (j5 @Tt @sv wF hlx q0) @tu.eq_1) tv
 done
def SN(n:Int)(H:aa):WN A0.aX (ai A0) DL.body { T:=dO [.int .i64 n],H,lo:=H.length,gen:=0 } (done H.length DL.results (.tuple [.str (oE n).1,.int .i64 (oE n).2],none)):=by
 unfold DL;simp only;refine CP (c:=.region _) ?_;refine Ce ?_;generalize hR:done H.length [gN.tmp 2,gN.tmp 3] (AV.tuple [AV.str (oE n).1,AV.int .i64 (oE n).2],none)=R;refine (show WN A0.aX (ai A0) (.seq _ (.block 0 (.loop _))) _ (andThen (fun s=>WN A0.aX (ai A0) IP s R) R) from ?_)
 refine (show WN A0.aX (ai A0) (.region _) _ (andThen (fun s=>WN A0.aX (ai A0) (.block 0 (.loop _)) s _) _) from ?_)
 refine vB _ _ ⟨((((dO [AV.int .i64 n]).put 2 (AV.str [])).put 3 (AV.int .i64 0)).put 6 (.mA 1 false true mZ)).put 7 (.iter 0 1 false true [] mZ),H,H.length,1⟩ rfl ?_;refine (show WN A0.aX (ai A0) (.loop _) _ (leave 0 (andThen (fun s=>WN A0.aX (ai A0) IP s R) R)) from ?_)
 refine⟨_,QG (fun k s=>∃ T cur todo gen,s=⟨T,H,H.length,gen⟩/\T 0=.int .i64 n/\T 7=.iter 0 1 false true cur todo/\todo.length=k/\(∀ q∈todo,q∈mZ)/\∀ q∈mZ,q∈todo\/∀ w i j,q=[.str w,.int .i64 i,.int .i64 j]->i≠n) ?_ 10 _ ⟨_,[],mZ,1,rfl,rfl,rfl,rfl,fun q h=>h,fun q h=>.inl h⟩⟩
 rintro k s ⟨T,cur,todo,gen,rfl,q0,q7,hk,ZE,dQ⟩
 refine ab7 q7 ?_ ?_
 ·intro e
  subst e;have wX:=OH (n:=n) fun q hq=>(dQ q hq).resolve_left ae
  refine Ce ?_;refine CP ?_;rw[<- hR]
  rcases wX with ⟨e,hs⟩|⟨e,hs⟩|⟨e,e',hs⟩
  ·rw[hs];exact x8 (n:=n) (n8 q0) (by rw[e];rfl)
  ·rw[hs];exact x8 (n:=n) (n8 q0) (by rw[e];rfl)
  ·rw[hs]
   have e1:(n==(9:Int))=false:=df;have e2:(n==(11:Int))=false:=df;exact x8 (n:=n) (n8 q0) (by simp only[dC,cm,azV,cond_true,axa,aw7,axX,cond_false,e1,e2,ayd];rfl)
 ·intro q rest hp
  obtain⟨w,i,j,rfl,hs⟩:=WJ q (ZE _ (hp.mem_iff.2 (List.mem_cons_self)));have ZB:∀ (T:az) (H:aa) (lo gen t u:Nat) (os:List aQ) (K:AS->Prop),T u=.iter 0 1 false true [AV.str w,AV.int .i64 i,AV.int .i64 j] rest->WO A0 (⟨some t,none,.ent (.tmp u)⟩ :: os) ⟨T,H,lo,gen⟩ K=jC A0 (some (.tuple [.str w,.agg [.int .i64 i,.int .i64 j]])) t os T H lo gen K:=fun T H lo gen t u os K h=>ahz h rfl
  by_cases e:i=n
  ·subst e
   simp (disch:=first|omega|(simp(disch:=omega)only[gO,ab,simprocAttr];done)) only[Y2,ni,jN,nD,kM,AU,bS,br,fO,aI.eval,AS.cR,↓reduceIte,Nat.reduceEqDiff,Option.isSome,Option.isNone,cond_true,cond_false,Nat.reduceBEq,Nat.reduceAdd,Nat.reduceMul,ab,mr,eq_self,reduceCtorEq,yj,ny,j8,gX,bound,nO,AS.cN,cK,iK,dN,Nat.reduceLeDiff,mI,putAt,Int.reduceEq,Int.reduceLT,Int.reduceLE,Int.reduceBEq,Int.reduceBNe,Int.reduceAdd,Int.reduceNeg,Int.reduceSub,Int.reduceMul,zd,zc,zb,za,y9,y8,zg,zf,aW,gf,Int.toNat_natCast,axZ,q0,ZB,qY,List.headD_cons,AV.drop,ah]
   rw[<- hR,hs];exact sH
  ·simp (disch:=first|omega|(simp(disch:=omega)only[gO,ab,simprocAttr];done)) only[Y2,ni,jN,nD,kM,AU,bS,br,fO,aI.eval,AS.cR,↓reduceIte,Nat.reduceEqDiff,Option.isSome,Option.isNone,cond_true,cond_false,Nat.reduceBEq,Nat.reduceAdd,Nat.reduceMul,ab,mr,eq_self,reduceCtorEq,yj,ny,j8,gX,bound,nO,AS.cN,cK,iK,dN,Nat.reduceLeDiff,mI,putAt,Int.reduceEq,Int.reduceLT,Int.reduceLE,Int.reduceBEq,Int.reduceBNe,Int.reduceAdd,Int.reduceNeg,Int.reduceSub,Int.reduceMul,zd,zc,zb,za,y9,y8,zg,zf,aW,gf,Int.toNat_natCast,axZ,q0,ZB,qY,List.headD_cons,AV.drop,ah]
   have hl:=hp.length_eq;rw[List.length_cons] at hl;refine⟨rest.length,af,_,[AV.str w,.int .i64 i,.int .i64 j],rest,_,rfl,cV q0,dS,rfl,fun q hq=>ZE q (hp.mem_iff.2 (ax8 _ hq)),fun q hq=>?_⟩
   rcases dQ q hq with h|h
   ·rcases axs.1 (hp.mem_iff.1 h) with rfl|h
    ·refine .inr fun w' i' j' he=>?_
     simp only[ayc,AV.str.injEq,AV.int.injEq,ayV,ax'] at he;rw[<- he.2.1];exact e
    ·exact .inl h
   ·exact .inr h
def SM{P:Program}(hA:lP P A0)(JJ:P.funcs[132]?=some fn){dB locals muts:List Nat}(hc:aR P dB locals muts fn=some DL):gx P BS 132 vZ:=by
 refine aiC (g:=vZ) hA JJ hc rfl ?_ ?_
 ·intro args H r c h
  unfold vZ at h;split at h
  ·injection h with h;injection h with h1 h2;subst h2;exact⟨Nat.le_refl _,fun c h=>by cases h⟩
  ·cases h
 ·intro args H x h
  unfold vZ at h;split at h
  ·injection h with h;subst h;exact⟨rfl,SN _ _⟩
  ·cases h
def fo{i v:aD}(h:Tryz.prog.funcs[f]?=some fn)(e:some i=some v)(k:IT fn i=some i:=by kernel_rfl):∃ fn dB locals muts,Tryz.prog.funcs[f]?=some fn/\aR Tryz.prog dB locals muts fn=some v:=⟨fn,_,_,_,h,e ▸ k⟩
def Ix(f:FuncId)(qA:aD)(h:fns f=some qA):∃ fn dB locals muts,Tryz.prog.funcs[f]?=some fn/\aR Tryz.prog dB locals muts fn=some qA:=by
 unfold fns at h;split at h
 ·exact fo Tryz.func5 h
 ·exact fo Tryz.func6 h
 ·exact fo Tryz.func4 h
 ·exact fo Tryz.func7 h
 ·exact fo Tryz.func8 h
 ·exact fo Tryz.func14 h
 ·exact fo Tryz.func15 h
 ·exact fo Tryz.func16 h
 ·exact fo Tryz.func17 h
 ·exact fo Tryz.func18 h
 ·exact fo Tryz.func19 h
 ·exact fo Tryz.func20 h
 ·exact fo Tryz.func21 h
 ·exact fo Tryz.func22 h
 ·exact fo Tryz.func11 h
 ·exact fo Tryz.func12 h
 ·exact fo Tryz.func13 h
 ·exact fo Tryz.func23 h
 ·exact fo Tryz.func24 h
 ·exact fo Tryz.func25 h
 ·exact fo Tryz.func26 h
 ·exact fo Tryz.func27 h
 ·exact fo Tryz.func28 h
 ·exact fo Tryz.func29 h
 ·exact fo Tryz.func30 h
 ·exact fo Tryz.func31 h
 ·exact fo Tryz.func74 h
 ·exact fo Tryz.func44 h
 ·exact fo Tryz.func45 h
 ·exact fo Tryz.func46 h
 ·exact fo Tryz.func47 h
 ·exact fo Tryz.func48 h
 ·exact fo Tryz.func49 h
 ·exact fo Tryz.func50 h
 ·exact fo Tryz.func51 h
 ·exact fo Tryz.func52 h
 ·exact fo Tryz.func53 h
 ·exact fo Tryz.func42 h
 ·exact fo Tryz.func43 h
 ·exact fo Tryz.func54 h
 ·exact fo Tryz.func55 h
 ·exact fo Tryz.func56 h
 ·exact fo Tryz.func57 h
 ·exact fo Tryz.func58 h
 ·exact fo Tryz.func59 h
 ·exact fo Tryz.func60 h
 ·exact fo Tryz.func61 h
 ·exact fo Tryz.func62 h
 ·exact fo Tryz.func63 h
 ·exact fo Tryz.func64 h
 ·exact fo Tryz.func65 h
 ·exact fo Tryz.func66 h
 ·exact fo Tryz.func67 h
 ·exact fo Tryz.func69 h
 ·exact fo Tryz.func70 h
 ·exact fo Tryz.func76 h
 ·exact fo Tryz.func36 h
 ·exact fo Tryz.func9 h
 ·exact fo Tryz.func37 h
 ·exact fo Tryz.func41 h
 ·exact fo Tryz.func40 h
 ·exact fo Tryz.func77 h
 ·exact fo Tryz.func78 h
 ·exact fo Tryz.func79 h
 ·exact fo Tryz.func80 h
 ·exact fo Tryz.func81 h
 ·exact fo Tryz.func82 h
 ·exact fo Tryz.func39 h
 ·exact fo Tryz.func118 h
 ·exact fo Tryz.func119 h
 ·exact fo Tryz.func83 h
 ·exact fo Tryz.func85 h
 ·exact fo Tryz.func86 h
 ·exact fo Tryz.func35 h
 ·exact fo Tryz.func87 h
 ·exact fo Tryz.func88 h
 ·exact fo Tryz.func89 h
 ·exact fo Tryz.func90 h
 ·exact fo Tryz.func91 h
 ·exact fo Tryz.func92 h
 ·exact fo Tryz.func84 h
 ·exact fo Tryz.func93 h
 ·exact fo Tryz.func94 h
 ·exact fo Tryz.func95 h
 ·exact fo Tryz.func96 h
 ·exact fo Tryz.func97 h
 ·exact fo Tryz.func98 h
 ·exact fo Tryz.func99 h
 ·exact fo Tryz.func100 h
 ·exact fo Tryz.func101 h
 ·exact fo Tryz.func102 h
 ·exact fo Tryz.func104 h
 ·exact fo Tryz.func105 h
 ·exact fo Tryz.func106 h
 ·exact fo Tryz.func107 h
 ·exact fo Tryz.func108 h
 ·exact fo Tryz.func109 h
 ·exact fo Tryz.func110 h
 ·exact fo Tryz.func111 h
 ·exact fo Tryz.func112 h
 ·exact fo Tryz.func113 h
 ·exact fo Tryz.func117 h
 ·exact fo Tryz.func120 h
 ·exact fo Tryz.func73 h
 ·exact fo Tryz.func121 h
 ·exact fo Tryz.func122 h
 ·exact fo Tryz.func123 h
 ·exact fo Tryz.func124 h
 ·exact fo Tryz.func126 h
 ·exact fo Tryz.func127 h
 ·exact fo Tryz.func129 h
 ·exact fo Tryz.func130 h
 ·exact fo Tryz.func131 h
 ·exact fo Tryz.func132 h
 ·exact fo Tryz.func133 h
 ·exact fo Tryz.func134 h
 ·exact fo Tryz.func135 h
 ·exact fo Tryz.func139 h
 ·exact fo Tryz.func140 h
 ·exact fo Tryz.func141 h
 ·exact fo Tryz.func142 h
 ·exact fo Tryz.func147 h
 ·exact fo Tryz.func148 h
 ·exact fo Tryz.func154 h
 ·exact fo Tryz.func161 h
 ·exact fo Tryz.func162 h
 ·exact fo Tryz.func168 h
 ·exact fo Tryz.func191 h
 ·exact fo Tryz.func192 h
 ·exact fo Tryz.func207 h
 ·exact fo Tryz.func32 h
 ·exact fo Tryz.func33 h
 ·exact fo Tryz.func34 h
 ·exact fo Tryz.func72 h
 ·exact fo Tryz.func115 h
 ·cases h
theorem ahe(f:FuncId)(g:List AV->aa->Option (AV × Option fw))(h:ov0 f=some g):gx Tryz.prog BS f g:=by
 unfold ov0 at h
 grind [DR,BF,ze,C4,zR,Dd]
def we:lP Tryz.prog A0:=⟨by kernel_rfl,Ix,ahe⟩
theorem XC:gx Tryz.prog BS 132 vZ:=SM we Tryz.func132 VM
theorem adN(f:FuncId)(g:List AV->aa->Option (AV × Option fw))(h:ov f=some g):gx Tryz.prog BS f g:=by
 unfold ov at h;split at h
 ·grind [XC]
 ·grind [DR]
 ·grind [BF]
 ·grind [ze]
 ·grind [C4]
 ·grind [zR]
 ·grind [Dd]
 ·cases h
def On:lP Tryz.prog A:=⟨we.mixed,Ix,adN⟩
abbrev Sd(f:FuncId)(R:Rel):Prop:=gx Tryz.prog BS f (mb R)
def Cn{tk:List Tk}{s s':PS}{H:aa}(h:jk tk pl s H):jH H (some ⟨aH tk pl s' H,pl⟩):=by
 refine⟨by show H.length<=(aH tk pl s' H).length;rw[bA];exact Nat.le_refl _,fun c' e=>?_⟩
 injection e with e
 subst e;exact⟨ayD h.q.lt,fun l (hl:l<pl)=>dA af⟩
def yA{H H':aa}{tl c:Nat}{row:List AV}(hz:row.length=z)(h:uI H tl c z row=some H'):H.length<=H'.length/\∀ l,l<tl->H'[l]?=H[l]?:=by
 obtain⟨kc,m,es,Hd,cs,hA,hH⟩:=ng hz h
 replace hH:H'=(sU Hd es row).set tl (.bR (cs.set c (.sref H.length 0 (m+1) z))):=hH
 subst hH;refine⟨?_,fun l hl=>hA.agK hl⟩
 rw[List.length_set,H9,hA.hd];omega
def aju{n:Nat}{H:aa}(h:yt n args H x):jH H x.2:=by
 cases h with
 | @mk tk pl tl s H t s' H' h hn aP he ha =>
  obtain⟨h1,h2⟩:=yA ja ha;rw[bA] at h1;refine⟨h1,fun c' e=>?_⟩
  injection e with e
  subst e;exact⟨ayD h.q.lt,fun l (hl:l<pl)=>(h2 l af).trans (dA af)⟩
def ajx{n:Nat}{H:aa}(h:Am n args H x):jH H x.2:=by
 cases h with
 | no h hn hv aP uu hw he=>exact Cn h
 | @mk tk pl pv tl s H w t s' H' h hn hv aP uu hw hg he ha =>
  obtain⟨h1,h2⟩:=yA ja ha;rw[bA] at h1;refine⟨h1,fun c' e=>?_⟩
  injection e with e
  subst e;exact⟨ayD h.q.lt,fun l (hl:l<pl)=>(h2 l af).trans (dA af)⟩
def ajv{n:Nat}{H:aa}(h:CV n args H x):jH H x.2:=by
 cases h with
 | @mk tk pl pv cv tl s H t s' H1 H' h hn hv hc aP uu htc k1 he k2 =>
  obtain⟨h1,h2⟩:=yA (z:=1) rfl k1;obtain⟨h3,h4⟩:=yA ja k2;rw[bA] at h1 h3;refine⟨axx h1 h3,fun c' e=>?_⟩
  injection e with e
  subst e;exact⟨ayD h.q.lt,fun l (hl:l<pl)=>by rw[h4 l af,dA af,h2 l af,dA af]⟩
def ajw{n:Nat}{H:aa}(h:CW n args H x):jH H x.2:=by
 cases h with
 | mk h hn hv hf hc aP hlf hr hw he =>
  refine⟨?_,fun c' e=>?_⟩
  ·show H.length<=(List.set _ _ _).length
   rw[List.length_set,bA];exact Nat.le_refl _
  ·injection e with e
   subst e;refine⟨ayD h.q.lt,fun l hl=>?_⟩
   simp only at hl ⊢;rw[List.getElem?_set_ne af];exact dA af
def x7{A:AP}(hA:lP Tryz.prog A)(hG:A.aX=BS)(JJ:Tryz.prog.funcs[f]?=some fn){a b c:List Nat}{qA:aD}(hc:aR Tryz.prog a b c fn=some qA){R:Rel}
  (Nq:∀ {args H x},R args H x->jH H x.2) (hg:∀ {args H x},R args H x->args.length=qA.np/\D A qA.body ⟨dO args,H,H.length,0⟩ (dn qA H.length x)):Sd f R:=by
 have:=ad6 hA JJ hc (g:=mb R) (fun args H r c h=>Nq (tK h)) (fun args H x h=>by
  obtain⟨h1,h2⟩:=hg (tK h);refine⟨h1,jM _ _ h2 fun e s h=>?_⟩
  cases e<;>exact h)
 rw[hG] at this;exact this
def Zo(f:FuncId)(qA:aD)(h:aeV f=some qA):∃ fn dB locals muts,Tryz.prog.funcs[f]?=some fn/\aR Tryz.prog dB locals muts fn=some qA:=by
 unfold aeV at h;split at h
 ·exact fo Tryz.func63 h
 ·exact fo Tryz.func100 h
 ·exact Ix f qA h
def uK{α:Type}{x y:α}(h:(bif b then some x else none)=some y):b=true/\x=y:=by
 cases b with
 | true=>exact⟨rfl,axS h⟩
 | false=>cases h
def WG{n:Nat}(sE:Sd 63 (Al n))(sB:Sd 100 (Ak n))(sK:1<=k->Sd 139 (yt n))(sX:2<=k->Sd 99 (Am n))(sN:2<=k->Sd 154 (CV n))(sS:3<=k->Sd 60 (CW n))(sF:4<=k->Sd 27 (F3 n)):lP Tryz.prog (PA k n):=by
 refine⟨we.mixed,Zo,fun f g h=>?_⟩
 replace h:ovP k n f=some g:=h
 show gx Tryz.prog BS f g
 unfold ovP at h;split at h
 ·injection h with h;subst h;exact sE
 ·injection h with h;subst h;exact sB
 ·obtain⟨h1,rfl⟩:=uK h;exact sK (ax5 h1)
 ·obtain⟨h1,rfl⟩:=uK h;exact sX (ax5 h1)
 ·obtain⟨h1,rfl⟩:=uK h;exact sN (ax5 h1)
 ·cases h
 ·cases h
 ·cases h
 ·cases h
 ·obtain⟨h1,rfl⟩:=uK h;exact sS (ax5 h1)
 ·obtain⟨h1,rfl⟩:=uK h;exact sF (ax5 h1)
 ·cases h
 ·cases h
 ·injection h with h;subst h;exact ot On
def sKn{n:Nat}(sE:Sd 63 (Al n))(sB:Sd 100 (Ak n)):Sd 139 (yt n) :=
 x7 (WG (k:=0) sE sB af af af af af) rfl Tryz.func139 VO aju aag
def sXn{n:Nat}(sE:Sd 63 (Al n))(sB:Sd 100 (Ak n)):Sd 99 (Am n) :=
 x7 (WG (k:=1) sE sB (fun _=>sKn sE sB) af af af af) rfl Tryz.func99 Z6 ajx Ro
def sNn{n:Nat}(sE:Sd 63 (Al n))(sB:Sd 100 (Ak n)):Sd 154 (CV n) :=
 x7 (WG (k:=1) sE sB (fun _=>sKn sE sB) af af af af) rfl Tryz.func154 VS ajv N7
def WH{n:Nat}(sE:Sd 63 (Al n))(sB:Sd 100 (Ak n)):lP Tryz.prog (PA 2 n):=WG sE sB (fun _=>sKn sE sB) (fun _=>sXn sE sB) (fun _=>sNn sE sB) af af
def ajs{n:Nat}{H:aa}(h:Al n args H x):jH H x.2:=by cases h with|mk h hn he=>exact Cn h
def ajr{n:Nat}{H:aa}(h:Ak n args H x):jH H x.2:=by cases h with|mk h hn h1 h7 he=>exact Cn h
def ajt{n:Nat}{H:aa}(h:F3 n args H x):jH H x.2:=by cases h with|mk h hn he=>exact Cn h
def YK{n:Nat}{H:aa}(hR:Ak (n+1) args H x):args.length=jy.np/\D (PA 2 n) jy.body ⟨dO args,H,H.length,0⟩ (dn jy H.length x):=by
 cases hR with
 | @mk tk pl s H t s' lv h hn h1 h7 he =>
  refine⟨rfl,?_⟩
  by_cases h6:lv<=6
  ·exact YJ h af h1 h6 he
  ·obtain rfl:lv=7:=af
   exact YL h af he
def Xp:∀ n,Sd 63 (Al n)/\Sd 100 (Ak n)
 | 0=>by
  refine⟨?_,?_⟩
  ·intro args H r c h
   have h:=tK h;cases h with
   | mk h hn he=>exact absurd he (by simp[pE])
  ·intro args H r c h
   have h:=tK h;cases h with
   | mk h hn h1 h7 he=>exact absurd he (by simp[pE])
 | n+1=>by
  obtain⟨sE,sB⟩:=Xp n;exact⟨x7 (WH sE sB) rfl Tryz.func63 Z4 ajs UC,x7 (WH sE sB) rfl Tryz.func100 VF ajr YK⟩
def sSn(n:Nat):Sd 60 (CW n):=x7 (WH (Xp n).1 (Xp n).2) rfl Tryz.func60 Z3 ajw XF
def amj(n:Nat):lP Tryz.prog (PA 3 n):=WG (Xp n).1 (Xp n).2 (fun _=>sKn (Xp n).1 (Xp n).2) (fun _=>sXn (Xp n).1 (Xp n).2) (fun _=>sNn (Xp n).1 (Xp n).2) (fun _=>sSn n) af
theorem sFn(n:Nat):Sd 27 (F3 n):=x7 (amj n) rfl Tryz.func27 Z2 ajt UQ
def x9:∀ (r:av) (j:Nat),(cw 10 j r<0/\cw 10 j r=-1/\bt true r=r.length)\/(∃ k:Nat,cw 10 j r=((j+k:Nat):Int)/\k<r.length/\bt true r=k+bt false (r.drop k))
 | [],j=>.inl ⟨by simp[cw],by simp[cw],rfl⟩
 | b :: r,j=>by
  by_cases hb:b.toNat=10
  ·refine .inr ⟨0,?_,ae,?_⟩
   ·simp[cw,hb]
   ·simp[bt,hb]
  ·have h1:bt true (b :: r)=1+bt true r:=by
    simp only[bt,if_neg hb];split
    ·rfl
    ·simp
   have h2:cw 10 j (b :: r)=cw 10 (j+1) r:=by
    simp only[cw];rw[ax1 af];rfl
   rw[h1,h2];rcases x9 r (j+1) with ⟨k1,k2,k3⟩|⟨k,k1,k2,k3⟩
   ·exact .inl ⟨k1,k2,by rw[k3,List.length_cons];omega⟩
   ·exact .inr ⟨k+1,by rw[k1];congr 1;omega,cJ k2,by rw[k3,ayH];omega⟩
def DK(s:av)(H:aa):ai A 71 [.str s,.int .u8 10] H=some (.int .i64 (cw 10 0 s),none):=fC (g:=ik) rfl rfl
def TR(s:av)(H:aa)(hs:s.length<=4611686018427387904):ai A 54 [.str s] H=some (.int .i64 (bt false s),none):=by
 refine cW alB.eq_1 ?_;refine N6 ?_;refine o6 0 (fun k=>Hd (fun T=>∃ n:Nat,T 0=.str s/\T 3=.int .i64 n/\n<=s.length/\k=s.length-n/\bt false s=n+bt false (s.drop n)) H H.length 0)
  (Hd (fun T=>T 3=.int .i64 (bt false s)) H H.length 0) (Hd (fun T=>T 2=.int .i64 (bt false s)) H H.length 0) ?_ ?_ ?_ s.length _ ?_
 ·rintro k st gP
  obtain⟨T,rfl,n,h0,h3,hn,hk,hc⟩:=gP.out
  by_cases h:n<s.length
  ·have hx:=aw3 h
   have hd:=axk h;generalize s[n]=b at hx hd;rw[hd] at hc;have yZ:b.toNat<256:=azH b
   by_cases b32:b.toNat=32
   ·have e:bt false (b :: s.drop (n+1))=1+bt false (s.drop (n+1)):=by simp[bt,b32]
    rw[e] at hc;refine nO3 h0 h3 hx ?_;exact⟨s.length-(n+1),af,n+1,af,af,rfl,af⟩
   by_cases b10:b.toNat=10
   ·have e:bt false (b :: s.drop (n+1))=1+bt false (s.drop (n+1)):=by simp[bt,b10]
    rw[e] at hc;refine nO3 h0 h3 hx ?_;exact⟨s.length-(n+1),af,n+1,af,af,rfl,af⟩
   by_cases b35:b.toNat=35
   ·have e:bt false (b :: s.drop (n+1))=1+bt true (s.drop (n+1)):=by simp[bt,b35]
    rw[e] at hc;have hi:cw 10 0 (s.drop n)=cw 10 1 (s.drop (n+1)):=by
     rw[hd];simp only[cw];rw[ax1 af];rfl
    have hlen:(s.drop (n+1)).length=s.length-(n+1):=axD ..;rcases x9 (s.drop (n+1)) 1 with ⟨k1,k2,k3⟩|⟨j,k1,k2,k3⟩
    ·rw[k2] at hi
     rw[k3] at hc;simp(disch:=omega)only[gO,ab,simprocAttr,h0,h3,hx,axz,DK,hi];omega
    ·rw[k1] at hi
     rw[k3,ax6] at hc;simp(disch:=omega)only[gO,ab,simprocAttr,h0,h3,hx,axz,DK,hi];exact⟨s.length-(n+(1+j)),af,n+(1+j),af,af,rfl,by rw[hc,show n+1+j=n+(1+j) by omega];omega⟩
   ·have e:bt false (b :: s.drop (n+1))=0:=by simp[bt,b32,b10,b35]
    rw[e] at hc;refine nO3 h0 h3 hx ?_;omega
  ·have:n=s.length:=af
   subst this;rw[ayy] at hc;simp only[bt] at hc;refine Wt h0 h3 ?_;omega
 ·intro st gP
  obtain⟨T,rfl,h3⟩:=gP.out;exact vE1 h3
 ·intro st gP
  obtain⟨T,rfl,h2⟩:=gP.out;exact vE1 h2
 ·refine N6 ?_
  exact⟨0,af,af,af,ae⟩
structure Tok where
 text:av
 before:av
 deriving DecidableEq
variable {l:List Tok}
def Dj(t:Tok):List AV:=[.str t.text,.str t.before]
def fA(l:List Tok):List (List AV):=l.map Dj
def zT : (fA l).length=l.length:=by simp[fA]
def Jw{t:Tok}(h:l[i]?=some t):(fA l)[i]?=some (Dj t):=by simp[fA,h]
def dK(r:av)(off:Nat):List Tok × av × Int :=
 if bt false r=r.length then ([],r, -1)
 else if h2:fW (r.drop (bt false r))=0 then ([],[],((off+bt false r:Nat):Int))
 else
  let x:=dK (r.drop (bt false r+fW (r.drop (bt false r)))) (off+(bt false r+fW (r.drop (bt false r))))
  if x.2.2=-1 then (⟨(r.drop (bt false r)).take (fW (r.drop (bt false r))),r.take (bt false r)⟩ :: x.1,x.2.1, -1) else ([],[],x.2.2)
termination_by r.length
decreasing_by
 have:=mg false r
 have:=wz (r.drop (bt false r))
 simp only[axD] at this ⊢;omega
def bO(s:av):List Tok × av × Int:=if 8192<s.length then ([],[],8192) else dK s 0
def ahead(acc:List Tok)(x:List Tok × av × Int):List Tok × av × Int:=if x.2.2=-1 then (acc++x.1,x.2.1, -1) else ([],[],x.2.2)
def L8{r:av}(h:bt false r=r.length)(acc:List Tok):ahead acc (dK r off)=(acc,r, -1):=by
 rw[dK,if_pos h];simp[ahead]
def L7{r:av}(h:bt false r≠r.length)(h2:fW (r.drop (bt false r))=0)(acc:List Tok):ahead acc (dK r off)=([],[],((off+bt false r:Nat):Int)):=by
 rw[dK,if_neg h,dif_pos h2];simp only[ahead];rw[if_neg af]
def Xy{r:av}(h:bt false r≠r.length)(h2:fW (r.drop (bt false r))≠0)(acc:List Tok) :
  ahead acc (dK r off)=ahead (acc++[⟨(r.drop (bt false r)).take (fW (r.drop (bt false r))),r.take (bt false r)⟩]) (dK (r.drop (bt false r+fW (r.drop (bt false r)))) (off+(bt false r+fW (r.drop (bt false r))))):=by
 conv=>lhs;rw[dK,if_neg h,dif_neg h2]
 simp only[ahead];split
 ·simp
 ·rename_i hx;simp[]
def HM{s:av}{n:Nat}(hk:bt false (s.drop off)=k)(hn:fW (s.drop (off+k))=n)(h:k≠s.length-off)(h2:n≠0)(acc:List Tok) :
  ahead acc (dK (s.drop off) off)=ahead (acc++[⟨(s.take (off+k+n)).drop (off+k),(s.take (off+k)).drop off⟩]) (dK (s.drop (off+k+n)) (off+k+n)):=by
 subst hk;rw[<- ax6] at hn;rw[Xy (by rw[axD];exact h) (by rw[hn];exact h2),hn]
 rw[ax6,ax6,List.take_drop,List.take_drop,azr]
def Gx(s:av)(h:¬ 8192<s.length):ahead [] (dK s 0)=bO s:=by
 unfold bO;rw[if_neg h];have key:∀ (r:av) (off:Nat),(dK r off).2.2≠-1->dK r off=([],[],(dK r off).2.2):=by
  intro r off hx;rw[dK] at hx ⊢;split at hx
  ·exact absurd rfl hx
  ·rename_i h1
   rw[if_neg h1];split at hx
   ·rename_i h2;rw[dif_pos h2]
   ·rename_i h2
    rw[dif_neg h2];simp only at hx ⊢;split at hx
    ·exact absurd rfl hx
    ·rename_i h3;rw[if_neg h3]
 unfold ahead;split
 ·rename_i hx
  simp[<- hx]
 ·rename_i hx
  exact (key s 0 hx).symm
def HT : wO 2 (fA l) :=
 ⟨fun r hr=>by simp only[fA,List.mem_map] at hr;obtain⟨n,_,rfl⟩:=hr;rfl,AR fun r hr=>by simp only[fA,List.mem_map] at hr;obtain⟨n,_,rfl⟩:=hr;rfl⟩
def TF{m:List Tok}(h:l.length+m.length<=1099511627776):aC false 2 32 (.slice (fA l) true) (.slice (fA m) o)=some (.slice (fA (l++m)) true):=by
 rw[xw HT HT (by rw[zT,zT];omega) (by rw[zT,zT];omega)];simp[fA]
def O1{l:List Tok}{a b:av}{o:Bool}(h:l.length<=1000000):aC false 2 32 (.slice (fA l) true) (.slice [[.str a,.str b]] o)=some (.slice (fA (l++[⟨a,b⟩])) true):=TF (m:=[⟨a,b⟩]) df
def Qq(s:av)(H:aa)(hs:s.length<=4611686018427387904) :
  ai A 23 [.str s] H=some (.tuple [.slice (fA (bO s).1) false,.str (bO s).2.1,.int .i64 (bO s).2.2],none):=by
 refine cW alr.eq_1 ?_
 by_cases U1:8192<s.length
 ·have e:bO s=([],[],8192):=by unfold bO;rw[if_pos U1]
  rw[e];refine Lw ?_;rfl
 have e:=Gx s U1;generalize bO s=R at e;refine Lw ?_;refine o6 0 (fun k=>Hd (fun T=>∃ (off:Nat) (acc:List Tok),T 0=.str s/\T 5=.slice (fA acc) true/\T 6=.int .i64 off/\off<=s.length/\k=s.length-off/\acc.length<=off/\ahead acc (dK (s.drop off) off)=R) H H.length 0)
  (fun _=>False) (Hd (fun T=>∃ o,T 2=.slice (fA R.1) o/\T 3=.str R.2.1/\T 4=.int .i64 R.2.2) H H.length 0) ?_ (fun _ h=>h.elim) ?_ s.length _ ?_
 ·rintro k st gP
  obtain⟨T,rfl,off,acc,h0,h5,h6,mC,hk,yV,hc⟩:=gP.out;have Gj:=TR (s.drop off) H (by rw[axD];omega)
  have hle:=mg false (s.drop off);rw[axD] at hle
  by_cases xM:bt false (s.drop off)=(s.drop off).length
  ·rw[L8 xM] at hc
   subst hc;rw[axD] at xM;rw[xM] at Gj;have e1:(off:Int)+((s.length-off:Nat):Int)=(s.length:Int):=af;generalize s.length-off=q at Gj e1;simp(disch:=omega)only[gO,ab,simprocAttr,h0,h5,h6,Gj,axz,e1];exact⟨false,rfl⟩
  ·have aP:bt false (s.drop off)<s.length-off:=by rw[axD] at xM;omega
   have JH:=Jv (s.drop (off+bt false (s.drop off))) H (fun e=>by have:=ayj List.length e;rw[axD,List.length_nil] at this;omega) (by rw[axD];omega)
   have qO:=wz (s.drop (off+bt false (s.drop off)));rw[axD] at qO
   by_cases jl:fW (s.drop (off+bt false (s.drop off)))=0
   ·rw[L7 xM (by rw[ax6];exact jl)] at hc
    subst hc;rw[jl] at JH;generalize bt false (s.drop off)=k at Gj JH aP;have e1:(off:Int)+(k:Int)=((off+k:Nat):Int):=af;generalize hm:off+k=m at Gj JH e1;have Cz:off<=m:=af;have Mv:m<s.length:=af;clear hm;simp(disch:=omega)only[gO,ab,simprocAttr,h0,h6,Gj,JH,axz,e1];exact⟨true,rfl,rfl⟩
   ·generalize ui:bt false (s.drop off)=k at Gj JH aP jl qO
    generalize JN:fW (s.drop (off+k))=n at JH jl qO;rw[HM ui JN af jl] at hc;have Nx:off+k+n<=s.length:=af;have hn0:0<n:=af;have e1:(off:Int)+(k:Int)=((off+k:Nat):Int):=af;generalize hm:off+k=m at Gj JH hc Nx e1;have Cz:off<=m:=af;have Mv:m<s.length:=af;clear hm ui JN qO aP xM hle;have e2:(m:Int)+(n:Int)=((m+n:Nat):Int):=af;generalize hp:m+n=p at hc Nx e2;have FY:m<p:=af;clear hp;simp(disch:=omega)only[gO,ab,simprocAttr,h0,h5,h6,Gj,JH,O1,axz,e1,e2];exact⟨s.length-p,af,p,_,rfl,rfl,af,rfl,df,hc⟩
 ·intro st gP
  obtain⟨T,rfl,o,h2,h3,h4⟩:=gP.out;exact vE3 h2 h3 h4
 ·refine N6 ?_
  exact⟨0,[],rfl,rfl,af,af,ae,cJ e⟩
def bW(s:av):av × av:=if 0<=cw 10 0 s then (s.take ((cw 10 0 s).toNat+1),s.drop ((cw 10 0 s).toNat+1)) else (s,[])
def R3:∀ (s:av) (j:Nat),cw 10 j s=-1\/∃ k:Nat,k<s.length/\cw 10 j s=((j+k:Nat):Int):=by
 intro s j
 rcases x9 s j with ⟨h1,h2,_⟩|⟨k,h1,h2,_⟩
 ·exact .inl h2
 ·exact .inr ⟨k,h2,h1⟩
def abI(s:av)(H:aa)(hs:s.length<=4611686018427387904):ai A 31 [.str s] H=some (.tuple [.str (bW s).1,.str (bW s).2],none):=by
 have hi:=DK s H;unfold bW;refine cy (fn:=agb) rfl rfl rfl ?_;unfold agb
 rcases R3 s 0 with h|⟨k,hk,h⟩
 ·rw[h] at hi ⊢
  rw[if_neg af];exact cV hi
 ·rw[axC] at h
  rw[h] at hi ⊢;rw[if_pos af];simp(disch:=omega)only[gO,ab,simprocAttr,hi,axz,Int.toNat_natCast]
def gu:List Tk->Nat
 | []=>0
 | t :: l=>t.2.length+t.1.length+gu l
def nE(tk:List Tk)(i en:Nat):Nat:=match tk[i]? with
 | some t=>gu (tk.take i)+t.2.length
 | none=>en
def pJ:∀ a b:List Tk,gu (a++b)=gu a+gu b
 | [],b=>by simp[gu]
 | t :: a,b=>by simp only[axN,gu,pJ a b];omega
theorem Ql(tk:List Tk)(i en:Nat)(H:aa)(hb:Cj tk)(hl:gu tk<=4611686018427387904)(hn:tk.length<=4611686018427387904)(hi:i<=4611686018427387904)(he:en<=4611686018427387904) :
  ai A 28 [.slice (tk.map gp) false,.int .i64 i,.int .i64 en] H=some (.int .i64 (nE tk i en),none):=by
 refine cy (fn:=aga) rfl rfl rfl ?_;unfold aga;have bQ:∀ j (t:Tk),tk[j]?=some t->(tk.map gp)[j]?=some ([.str t.1,.str t.2]:List AV):=fun j t h=>by rw[List.getElem?_map,h];rfl
 have hlen:(tk.map gp).length=tk.length:=ae
 by_cases RI:tk.length<=i
 ·have:nE tk i en=en:=by unfold nE;rw[List.getElem?_eq_none RI]
  rw[this];have hd:decide ((tk.length:Int)<=(i:Int))=true:=decide_eq_true af;exact XX hlen hd
 ·have aP:i<tk.length:=af
  have hd:decide ((tk.length:Int)<=(i:Int))=false:=ax1 af;refine Wt hlen hd ?_;refine vC i (fun k=>HdG (fun T=>T 0=.slice (tk.map gp) false/\T 1=.int .i64 i/\T 7=.int .i64 (gu (tk.take k))/\(∃ b,T 17=.slice ((tk.map gp).take i) b)/\T 18=.int .i64 i/\T 19=.int .i64 k) H H.length) ?_ 0 _ (axh _) ?_
  ·rintro k s hk hs
   obtain⟨T,g,rfl,h0,h1,h7,⟨b,h17⟩,h18,h19⟩:=hs.out;refine Wt h18 h19 ?_;refine ju ?_ ?_<;>intro h
   ·have ui:k<i:=af
    have hx:=aw3 (show k<tk.length by omega)
    generalize tk[k]=x at hx;have hr:((tk.map gp).take i)[k]?=some ([.str x.1,.str x.2]:List AV):=by rw[List.getElem?_take_of_lt ui];exact bQ k x hx
    have hte:gu (tk.take (k+1))=gu (tk.take k)+(x.2.length+x.1.length):=by
     rw[ayr,pJ,hx];simp[gu]
    have hle:gu (tk.take (k+1))<=gu tk:=by
     have:=pJ (tk.take (k+1)) (tk.drop (k+1))
     simp_all
    generalize gu (tk.take (k+1))=m' at hte hle;generalize gu (tk.take k)=m at h7 hte;refine l8 h0 h1 h7 h17 h18 (j2 h19 hr) ?_
    grind
   ·have:k=i:=af
    subst this;have hx:=aw3 aP;have hp:nE tk k en=gu (tk.take k)+tk[k].2.length:=by unfold nE;rw[hx]
    have hle:gu (tk.take k)+tk[k].2.length<=gu tk:=by
     have:=pJ (tk.take (k+1)) (tk.drop (k+1))
     rw[axW,ayr,pJ,hx] at this;simp[gu] at this;omega
    rw[hp];generalize tk[k]=x at hx hle;generalize gu (tk.take k)=m at h7 hle;have hr:=bQ k x hx;exact vK4 h0 h1 h7 hr
  ·refine Lw ?_
   exact⟨rfl,⟨false,rfl⟩,by rw[axO,hlen,azB af]⟩
def w5:aD:=(fun x(_:aR pT [3,4,5,6,7,9,10,13,15,16,17,18,19,20,21,22,45,50,56,68,78,84,109,113,120,129,147,158,181,186,193,199,30,33,95,138,700002,700008,700012,700014] [2,8,12,14,82,999999] [19,158,165,186,189,777777] Tryz.f7=some x)=>x) _ cb
section
def pF:aG->aG
 | .seq a _=>a
 | c=>c
def pS:aG->aG
 | .seq _ b=>b
 | c=>c
def vo:aG:=w5.body
def yq:aG:=pS vo
def yr:aG:=pS yq
def zH:aG:=pS yr
def Ad:aG:=pS zH
def Ae:aG:=pS Ad
def Af:aG:=pS Ae
def Ag:aG:=pS Af
def w9:aG:=pS Ag
def Cf:aG:=pS w9
def oC:aG:=pS Cf
def qD:aG:=pS oC
def rq:aG:=pS qD
def qE:aG:=pS rq
def vp:aG:=pS qE
def wM:aG:=pS vp
def zG:aG:=pS wM
def ahk:aG:=pS zG
def ahl:aG:=pS ahk
def amq:aG:=pS ahl
def D9(P:AS->Prop):bB->AS->Prop
 | .normal,s=>P s
 | _,_=>False
def yu{B:AP}{a b:aG}{s:AS}{Q:bB->AS->Prop}{P:AS->Prop}(h1:W B a s (D9 P))(h2:∀ s',P s'->W B b s' Q):W B (.seq a b) s Q:=by
 rw[X3];refine uH h1 fun e s' hs=>?_
 cases e with
 | normal=>exact h2 s' hs
 | _=>exact hs.elim
def PL(n:Nat):AP:={ fns:=fun f=>match f with|7=>some w5|_=>none,ov:=fun f=>match f with|7=>none|27=>some (mb (F3 n))|f=>some (ai A f),aX:=BS }
def cL{n:Nat}(h:(PL n).ov f=some (ai A f)){H:aa}{r:AV × Option fw}(hr:ai A f args H=some r)(hn:args.all vX=true:=by rfl):ai (PL n) f args H=some r:=fC (g:=ai A f) h hr hn
def ajT{n:Nat}{tk:List Tk}{s s':PS}{H:aa}{f:Fm}(h:jk tk pl s H)(hn:n<=1000000)(he:lW (aq tk) n (pE (aq tk) n 0) s=some (f,s')):ai (PL n) 27 [.ref pl 0] H=some (.agg (bJ f),some ⟨aH tk pl s' H,pl⟩) :=
 fC (g:=mb (F3 n)) rfl (qf (fun _ hy=>SB (.mk h hn he) hy) (.mk h hn he))
def adY:bG->Bool
 | .bR _=>false
 | _=>true
def aT(rows:List (List AV)):aa:=match rows with|[]=>[]|_=>List.replicate (rows.length-1) .dead++[.box bz rows.flatten]
def aA(base z:Nat)(rows:List (List AV)):AV:=match rows with|[]=>.al|_=>.sref (base+rows.length) 0 rows.length z
def aed : (aT rows).length=rows.length:=by cases rows<;>simp[aT]
def Yz : ∀ o∈aT rows,adY o=true:=by
 intro o ho;cases rows with
 | nil=>simp[aT] at ho
 | cons r rows =>
  rcases aw9.1 ho with h|h
  ·rw[(List.mem_replicate.1 h).2];rfl
  ·rw[axi.1 h];rfl
def Yx(h:rows≠[]):(aT rows)[rows.length-1]?=some (.box bz rows.flatten):=by
 cases rows with
 | nil=>exact absurd rfl h
 | cons r rows=>simp[aT]
def aee{HF:List (List AV)}(h:rows≠[])(hl:HF.length=rows.length):(aT rows).set (rows.length-1) (.box bz HF.flatten)=aT HF:=by
 cases rows with
 | nil=>exact absurd rfl h
 | cons r rows =>
  cases HF with
  | nil=>simp at hl
  | cons r' HF =>
   have:HF.length=rows.length:=cJ hl
   simp[aT,this]
def Yy{r:List AV}(h:rows≠[]):(aT rows).set (rows.length-1) .dead++[.box bz (rows.flatten++r)]=aT (rows++[r]):=by
 cases rows with
 | nil=>exact absurd rfl h
 | cons q rows =>
  have:(aT (q :: rows)).set ((q :: rows).length-1) .dead=List.replicate (rows.length+1) .dead:=by
   simp[aT,List.replicate_succ']
  rw[this];simp[aT]
def Ck{base:Nat}(h:rows≠[]):aA base z rows=.sref (base+rows.length) 0 rows.length z:=by
 cases rows with
 | nil=>exact absurd rfl h
 | cons r rows=>rfl
def pP(tk:List Tk)(H:aa)(s:PS)(D:List (List AV)):aa:=H++nS tk s :: aT D
section
variable {tk:List Tk}{H:aa}{s s' : PS}{D D' : List (List AV)}
def Oi:(pP tk H s D).length=H.length+1+D.length:=by simp[pP,aed];omega
def Hy:(pP tk H s D)[H.length]?=some (nS tk s):=by simp[pP]
def Qh(hD:D≠[]):(pP tk H s D)[H.length+D.length]?=some (.box bz D.flatten):=by
 have:0<D.length:=ayn.2 hD
 rw[pP,List.getElem?_append_right af,show H.length+D.length-H.length=(D.length-1)+1 by omega,axK]
 exact Yx hD
def oe:aH tk H.length s' (pP tk H s D)=pP tk H s' D:=by
 unfold aH;rw[pP,List.set_append_right _ _ af,ayQ,azo];rfl
def aaJ(hD:D≠[])(h:D'.length=D.length):(pP tk H s D).set (H.length+D.length) (.box bz D'.flatten)=pP tk H s D':=by
 have:0<D.length:=ayn.2 hD
 rw[pP,List.set_append_right _ _ af,show H.length+D.length-H.length=(D.length-1)+1 by omega,ay9,aee hD h,pP]
def Hw:PQ H.length (pP tk H s D):=by
 refine⟨by rw[Oi];omega,fun j cs hj hc=>?_⟩
 exfalso;rw[pP,List.getElem?_append_right hj] at hc
 match uY:j-H.length with
 | 0=>rw[uY] at hc;cases hc
 | m+1 =>
  rw[uY,axK] at hc;have:=Yz _ (axc hc)
  simp[adY] at this
def ahi(hb:Cj tk)(hs:s.i<=tk.length):jk tk H.length s (pP tk H s D):=⟨Hw,Hy,hb,hs⟩
theorem ahj{B:AP}{r:List AV}{t:Nat}(hw:∀ q∈D,q.length=14)(hr:r.length=14)(hp:r.all AV.plain=true)(hD:D.length<=100000) :
  Ya B 14 248 (aA H.length 14 D) (.slice [r] o) t os T (pP tk H s D) H.length gen K=WO B os ⟨T.put t (.sref (H.length+(D++[r]).length) 0 (D++[r]).length 14),pP tk H s (D++[r]),H.length,gen⟩ K:=by
 have cu:dG [r]=true:=by unfold dG;simp only[List.all_cons,List.all_nil,hp,Bool.and_self]
 have hlen:=Oi (tk:=tk) (H:=H) (s:=s) (D:=D);have hb:∀ x,Nat.blt (H.length+x) H.length=false:=fun x=>by
  cases h:Nat.blt (H.length+x) H.length with
  | true=>have:=ax5 h;omega
  | false=>rfl
 cases D with
 | nil =>
  show Ya B 14 248 .al _ t os T _ _ gen K=_
  rw[aeg (by unfold cn;simp[fZ,hr]) cu,hlen]
  simp only[List.length_nil,axZ];rw[hb];simp only[cond_false,pP,aT,List.append_nil,axf,axN,axM,List.length_nil,axC,axw,ayi,List.length_cons,ayQ,azQ]
 | cons q D =>
  show Ya B 14 248 (.sref (H.length+(q :: D).length) 0 (q :: D).length 14) _ t os T _ _ gen K=_
  have xN:(q :: D).flatten.length=(q :: D).length*14:=ox hw;rw[OY (Qh ae) xN (by simp only[List.length_cons,List.length_nil] at hD ⊢;omega) (by simp only[List.length_cons,List.length_nil] at hD ⊢;omega) (by unfold fZ;simp[hr]) cu,hlen]
  have qz:(pP tk H s (q :: D)).set (H.length+(q :: D).length) .dead++[.box bz ((q :: D).flatten++[r].flatten)]=pP tk H s ((q :: D)++[r]):=by
   have h1:=Yy (rows:=q :: D) (r:=r) ae;rw[pP,List.set_append_right _ _ af,show H.length+(q :: D).length-H.length=((q :: D).length-1)+1 by simp,ay9,pP,<- h1]
   grind
  have kG:=hb (q :: D).length
  grind
end
def iv(l:List Tok):List Tk:=l.map fun t=>(t.text,t.before)
def Up : fA l=(iv l).map gp:=by
 unfold fA iv;rw[List.map_map];rfl
def Yq:PS:=⟨0,false⟩
def psN(tk:List Tk):PS:=(aE (aq tk) (aN (aq tk) js Yq)).2
def nmN(tk:List Tk):av:=(aE (aq tk) (aN (aq tk) js Yq)).1
def z5:List AV:=[.str [],.al,.al,.al,.str []]
section
variable {n:Nat}{H:aa}{s fin:av}{sc:List Tok}{tk:List Tk}{Q:bB->AS->Prop}
def amr(hs:s.length<=4611686018427387904)(Vw:bO s=(sc,fin, -1))(mD:tk=iv sc)(hb:Cj tk)
  (hQ:∀ T,T 0=.str s->T 2=.lbox 0 z5->T 3=.int .i64 0->T 4=.slice (tk.map gp) false->T 5=.str fin->T 7=.ref H.length 0->T 8=.lbox 1 [.str (nmN tk),.al,.al,.al,.str []]->T 9=.slice [] true->W (PL n) w9 ⟨T,pP tk H (psN tk) [],H.length,2⟩ Q) :
  W (PL n) vo ⟨dO [.str s],H,H.length,0⟩ Q:=by
 have NH:vo=.seq (pF vo) (.seq (pF yq) (.seq (pF yr) (.seq (pF zH) (.seq (pF Ad) (.seq (pF Ae) (.seq (pF Af) (.seq (pF Ag) w9))))))):=rfl;rw[NH];have Vx:∀ K,ai (PL n) 23 [.str s] K=some (.tuple [.slice (tk.map gp) false,.str fin,.int .i64 (-1)],none):=fun K=>by
  refine cL rfl ?_;rw[Qq s K hs,Vw,mD,<- Up]
 have aP:∀ K:aa,(bif decide (K.length<K.length) then K.length else K.length)=K.length:=fun K=>ae
 have Mw:H++[.box 74 [.slice (tk.map gp) false,.int .i64 0,.bool false]]=pP tk H Yq []:=rfl;have hw:ai (PL n) 24 [.ref H.length 0,.str [109,111,100,117,108,101]] (pP tk H Yq [])=some (.tuple [],some ⟨pP tk H (aN (aq tk) js Yq) [],H.length⟩):=by
  refine cL rfl ?_;have:=FO (K:=pP tk H Yq []) Hw hb (s:=Yq) (w:=[109,111,100,117,108,101]) ae (axh _)
  rw[oe,oe] at this;exact this
 have tD:ai (PL n) 25 [.ref H.length 0] (pP tk H (aN (aq tk) js Yq) [])=some (.str (nmN tk),some ⟨pP tk H (psN tk) [],H.length⟩):=by
  refine cL rfl ?_;have:=vW (K:=pP tk H Yq []) Hw hb (s:=aN (aq tk) js Yq) (fT aB (axh _))
  rw[oe,oe] at this;exact this
 have oc:(bif decide (H.length<H.length) then H.length else H.length)=H.length:=ae
 simp(disch:=omega)only[lI,ab,simprocAttr,vo,yq,yr,zH,Ad,Ae,Af,Ag,pF,pS,w5,Vx,Mw,hw,tD];refine hQ _ ?_ ?_ ?_ ?_ ?_ ?_ ?_ ?_<;>simp(disch:=omega)only[lI,ab,simprocAttr]
 all_goals rfl
end
end
section
def pB:aG->aG
 | .block _ a=>a
 | .loop a=>a
 | c=>c
structure PT (s fin:av) (tk:List Tk) (H:aa) (T:az):Prop where
 t0:T 0=.str s
 t2:T 2=.lbox 0 z5
 t3:T 3=.int .i64 0
 t4:T 4=.slice (tk.map gp) false
 t5:T 5=.str fin
 t7:T 7=.ref H.length 0
def uC(l:List av):AV:=match l with|[]=>.al|_=>.slice (strs l) true
def n7{l:List av}{a:av} : strs l++[[.str a]]=strs (l++[a]):=by simp[strs]
def vA{l:List av} : (strs l).length=l.length:=by simp[strs]
section
variable {n:Nat}{H:aa}{s fin nm:av}{tk:List Tk}{Q:bB->AS->Prop}
def Us(s fin nm:av)(tk:List Tk)(H:aa)(us:List av)(s1:PS)(st:AS):Prop:=∃ T,st=⟨T,pP tk H s1 [],H.length,2⟩/\PT s fin tk H T/\T 8=.lbox 1 [.str nm,uC us,.al,.al,.str []]/\T 9=.slice [] true
def aiB(hb:Cj tk){r:List av × PS}{us:List av}(hk:us.length+k<=1000000)(pH:s1.i<=tk.length)(hr:o5 (aq tk) k us s1=some r)(gP:Us s fin nm tk H us s1 st) :
  W (PL n) (pF w9) st (D9 fun xg=>Us s fin nm tk H r.1 r.2 xg/\r.2.i<=tk.length/\r.1.length<=1000000):=by
 have hp:pF w9=.block 0 (.loop (pB (pB (pF w9)))):=rfl;rw[hp];rw[JC];refine o6 0 (fun k st=>∃ us s1,Us s fin nm tk H us s1 st/\us.length+k<=1000000/\s1.i<=tk.length/\o5 (aq tk) k us s1=some r) (fun xg=>Us s fin nm tk H r.1 r.2 xg/\r.2.i<=tk.length/\r.1.length<=1000000) (fun _=>False) ?_ ?_ (fun _ h=>h.elim) k st ⟨us,s1,gP,hk,pH,hr⟩
 ·rintro k st ⟨us,s1,⟨T,rfl,hT,e8,e9⟩,hk,pH,hr⟩
  have a0:=hT.t0;have a2:=hT.t2;have a3:=hT.t3;have a4:=hT.t4;have a5:=hT.t5;have a7:=hT.t7;have ft:=Hy (tk:=tk) (H:=H) (s:=s1) (D:=[]);unfold nS at ft
  match k with
  | 0=>cases hr
  | k+1 =>
   unfold o5 at hr;cases jl:s1.bad with
   | true =>
    rw[jl] at hr;simp only[ax7,axt,cond_false,aw2] at hr;subst hr;rw[jl] at ft;simp(disch:=omega)only[lI,ab,simprocAttr,w5,w9,Ag,Af,Ae,Ad,zH,yr,yq,vo,pF,pS,pB,a7,ft,bN,ah];exact⟨⟨_,rfl,⟨cd a0,cd a2,cd a3,cd a4,cd a5,cd a7⟩,cd e8,cd e9⟩,pH,af⟩
   | false =>
    rw[jl] at hr ft;simp only[ayb,axF] at hr;cases hw:(pk (aq tk) s1==Bl) with
    | false =>
     rw[hw,cond_false,aw2] at hr;subst hr;have PC:ai (PL n) 26 [.ref H.length 0,.str [117,115,101]] (pP tk H s1 [])=some (.bool false,none):=by
      have:=Ld (K:=pP tk H s1 []) Hw hb (w:=Bl) pH hw
      rw[oe] at this;exact cL rfl this
     simp(disch:=omega)only[lI,ab,simprocAttr,w5,w9,Ag,Af,Ae,Ad,zH,yr,yq,vo,pF,pS,pB,a7,ft,bN,ah,PC];exact⟨⟨_,rfl,⟨cd a0,cd a2,cd a3,cd a4,cd a5,cd a7⟩,cd e8,cd e9⟩,pH,af⟩
    | true =>
     rw[hw,cond_true] at hr;have PC:ai (PL n) 26 [.ref H.length 0,.str [117,115,101]] (pP tk H s1 [])=some (.bool true,some ⟨pP tk H s1.up [],H.length⟩):=by
      have:=Lf (K:=pP tk H s1 []) Hw hb (w:=Bl) aB hw
      rw[oe,oe] at this;exact cL rfl this
     have NI:=lp (w:=Bl) aB hw;have tD:ai (PL n) 25 [.ref H.length 0] (pP tk H s1.up [])=some (.str (aE (aq tk) s1.up).1,some ⟨pP tk H (aE (aq tk) s1.up).2 [],H.length⟩):=by
      have:=vW (K:=pP tk H s1.up []) Hw hb (s:=s1.up) NI
      rw[oe,oe] at this;exact cL rfl this
     have oc:(bif decide (H.length<H.length) then H.length else H.length)=H.length:=ae
     have u9:=jS (s:=s1.up) NI;have BD:=n7 (l:=us) (a:=(aE (aq tk) s1.up).1);have qu:=vA (l:=us);have IM:uC (us++[(aE (aq tk) s1.up).1])=.slice (strs (us++[(aE (aq tk) s1.up).1])) true:=by
      unfold uC;split
      ·rename_i h;simp at h
      ·rfl
     cases us with
     | nil =>
      have hu:uC []=.al:=rfl;rw[hu] at e8;simp(disch:=omega)only[lI,ab,simprocAttr,w5,w9,Ag,Af,Ae,Ad,zH,yr,yq,vo,pF,pS,pB,a7,e8,ft,bN,ah,cH,cA,axA,axr,PC,tD];refine⟨k,af,[(aE (aq tk) s1.up).1],_,⟨_,rfl,⟨cd a0,cd a2,cd a3,cd a4,cd a5,cd a7⟩,by simp(disch:=omega)only[lI,ab,simprocAttr];rfl,cd e9⟩,by simp at hk ⊢;omega,u9,hr⟩
     | cons u0 ur =>
      have hu:uC (u0 :: ur)=.slice (strs (u0 :: ur)) true:=rfl;rw[hu] at e8;simp(disch:=omega)only[lI,ab,simprocAttr,w5,w9,Ag,Af,Ae,Ad,zH,yr,yq,vo,pF,pS,pB,a7,e8,ft,bN,ah,cH,cA,axA,axr,PC,tD];refine⟨k,af,(u0 :: ur)++[(aE (aq tk) s1.up).1],_,⟨_,rfl,⟨cd a0,cd a2,cd a3,cd a4,cd a5,cd a7⟩,by simp(disch:=omega)only[lI,ab,simprocAttr];rfl,cd e9⟩,by simp at hk ⊢;omega,u9,hr⟩
 ·intro xg h
  exact h
end
end
section
theorem CG{tk:List Tk}{n:Nat}{E:EP}(hE:gR tk E){s:PS}{r:Fm × PS}(h:lW (aq tk) n E s=some r):Lq tk s r.2:=by
 unfold lW at h;simp only at h;cases hk:decide (kR (pk (aq tk) s) cG 0<0) with
 | true =>
  grind [CF]
 | false =>
  rw[hk,cond_false] at h;have CA:pk (aq tk) s≠[]:=by
   intro e;rw[e] at hk;revert hk;decide
  have NI:Lq tk s s.up:=⟨fun _=>by have:=um CA;unfold PS.up;simp only;omega,id,Nat.le_succ _⟩
  simp only[aw1] at h;obtain⟨sl,h1,h⟩:=h;have l1:Lq tk s sl.2:=NI.tr (dv.tr ((bH ae).tr (nz ae (fun a s r he=>pd he) h1)))
  cases h2:(decide (kR (pk (aq tk) s) cG 0=0) || decide (kR (pk (aq tk) s) cG 0=1)) with
  | true =>
   grind
  | false =>
   rw[h2,cond_false,aw1] at h;obtain⟨w,h3,h⟩:=h;rw[aw0] at h;obtain⟨b,h4,rfl⟩:=h;exact l1.tr ((iY _ _ _ h3).tr ((bH ae).tr (hE _ _ h4)))
def eI(es:List Nat):List Int:=es.map (fun e:Nat=>(e:Int))
def YZ : ints (eI es)++[[.int .i64 (i:Int)]]=ints (eI (es++[i])):=by simp[ints,eI]
def M5 : (ints (eI es)).length=es.length:=by simp[ints,eI]
theorem Cu{f:Fm} : (bJ f).length=14:=by simp[bJ]
theorem yS : ∀ q∈fs.map bJ,q.length=14:=by
 grind [Cu]
def GY{f:Fm} : (bJ f).all AV.plain=true:=rfl
section
variable {n:Nat}{H:aa}{s fin nm:av}{us:List av}{tk:List Tk}{Q:bB->AS->Prop}
def Fs(s fin nm:av)(us:List av)(tk:List Tk)(H:aa)(fs:List Fm)(es:List Nat)(s1:PS)(st:AS):Prop:=∃ T,st=⟨T,pP tk H s1 (fs.map bJ),H.length,2⟩/\PT s fin tk H T/\T 8=.lbox 1 [.str nm,uC us,aA H.length 14 (fs.map bJ),.al,.str []]/\T 9=.slice (ints (eI es)) true
def aeG(pH:s1.i<=tk.length)(mD:tk.length<=100000)(gP:Us s fin nm tk H us s1 st):W (PL n) (pF Cf) st (D9 (Fs s fin nm us tk H [] [s1.i] s1)):=by
 obtain⟨T,rfl,hT,e8,e9⟩:=gP;have a0:=hT.t0;have a2:=hT.t2;have a3:=hT.t3;have a4:=hT.t4;have a5:=hT.t5;have a7:=hT.t7;have ft:=Hy (tk:=tk) (H:=H) (s:=s1) (D:=[]);unfold nS at ft;simp(disch:=omega)only[lI,ab,simprocAttr,w5,Cf,w9,Ag,Af,Ae,Ad,zH,yr,yq,vo,pF,pS,a7,e9,ft,bN,ah];exact⟨_,rfl,⟨cd a0,cd a2,cd a3,cd a4,cd a5,cd a7⟩,by simp(disch:=omega)only[lI,ab,simprocAttr,e8];rfl,by simp(disch:=omega)only[lI,ab,simprocAttr];rfl⟩
def Zr(hb:Cj tk)(mD:tk.length<=100000)(hn:n<=1000000){r:(List Fm × List Nat) × PS}(hk:fs.length+k<=100000)(JI:es.length=fs.length+1)(pH:s1.i<=tk.length)(hr:lU (aq tk) n k (fs,es) s1=some r)(gP:Fs s fin nm us tk H fs es s1 st) :
  W (PL n) (pF oC) st (D9 fun xg=>Fs s fin nm us tk H r.1.1 r.1.2 r.2 xg/\r.2.i<=tk.length/\r.1.1.length<=100000/\r.1.2.length=r.1.1.length+1):=by
 have hp:pF oC=.block 2 (.loop (pB (pB (pF oC)))):=rfl;rw[hp];rw[JC];refine o6 2 (fun k st=>∃ fs es s1,Fs s fin nm us tk H fs es s1 st/\fs.length+k<=100000/\es.length=fs.length+1/\s1.i<=tk.length/\lU (aq tk) n k (fs,es) s1=some r) (fun xg=>Fs s fin nm us tk H r.1.1 r.1.2 r.2 xg/\r.2.i<=tk.length/\r.1.1.length<=100000/\r.1.2.length=r.1.1.length+1) (fun _=>False) ?_ ?_ (fun _ h=>h.elim) k st ⟨fs,es,s1,gP,hk,JI,pH,hr⟩
 ·rintro k st ⟨fs,es,s1,⟨T,rfl,hT,e8,e9⟩,hk,JI,pH,hr⟩
  have a0:=hT.t0;have a2:=hT.t2;have a3:=hT.t3;have a4:=hT.t4;have a5:=hT.t5;have a7:=hT.t7;have ft:=Hy (tk:=tk) (H:=H) (s:=s1) (D:=fs.map bJ);unfold nS at ft;have qO:(tk.map gp).length=tk.length:=ae;have kE:(aq tk).length=tk.length:=by simp[aq]
  match k with
  | 0=>cases hr
  | k+1 =>
   unfold lU at hr;rw[kE] at hr;have stop:∀ (h:some ((fs,es),s1)=some r),r=((fs,es),s1):=fun h=>(axS h).symm
   cases jl:s1.bad with
   | true =>
    rw[jl] at hr;simp only[ax7,axt,cond_false] at hr;obtain rfl:=stop hr;rw[jl] at ft;simp(disch:=omega)only[lI,ab,simprocAttr,w5,oC,Cf,w9,Ag,Af,Ae,Ad,zH,yr,yq,vo,pF,pS,pB,a7,ft,bN,ah];exact⟨⟨_,rfl,⟨cd a0,cd a2,cd a3,cd a4,cd a5,cd a7⟩,cd e8,cd e9⟩,pH,af,JI⟩
   | false =>
    rw[jl] at hr ft;simp only[ayb,axF] at hr;cases hw:Nat.blt s1.i tk.length with
    | false =>
     rw[hw,cond_false] at hr;obtain rfl:=stop hr;have aP:¬ s1.i<tk.length:=by intro h;rw[show Nat.blt s1.i tk.length=true by rw[axp];exact h] at hw;cases hw
     have hle:s1.i=tk.length:=af;simp(disch:=omega)only[lI,ab,simprocAttr,w5,oC,Cf,w9,Ag,Af,Ae,Ad,zH,yr,yq,vo,pF,pS,pB,a4,a7,ft,bN,ah,qO];exact⟨⟨_,rfl,⟨cd a0,cd a2,cd a3,cd a4,cd a5,cd a7⟩,cd e8,cd e9⟩,pH,af,JI⟩
    | true =>
     rw[hw,cond_true,aw1] at hr;obtain⟨⟨f,s2⟩,hf,hr⟩:=hr;have aP:s1.i<tk.length:=by rw[axp] at hw;exact hw
     have wW:=ajT (n:=n) (ahi (D:=fs.map bJ) (H:=H) hb pH) hn hf;rw[oe] at wW;have xP:s2.i<=tk.length:=(CG (iN _ _) hf).le pH;have RF:=Hy (tk:=tk) (H:=H) (s:=s2) (D:=(fs++[f]).map bJ);unfold nS at RF;have oc:(bif decide (H.length<H.length) then H.length else H.length)=H.length:=ae
     have wD:=fun (B:AP) (T:az) gen t K os o=>ahj (B:=B) (T:=T) (tk:=tk) (H:=H) (s:=s2) (D:=fs.map bJ) (r:=bJ f) (gen:=gen) (t:=t) (K:=K) (os:=os) (o:=o) yS Cu GY (by rw[List.length_map];omega)
     have hma:fs.map bJ++[bJ f]=(fs++[f]).map bJ:=ae;have hA' : aA H.length 14 ((fs++[f]).map bJ)=.sref (H.length+((fs++[f]).map bJ).length) 0 ((fs++[f]).map bJ).length 14:=Ck ae;have hei:∀ o,aC false 1 8 (.slice (ints (eI es)) true) (.slice [[.int .i64 (s2.i:Int)]] o)=some (.slice (ints (eI (es++[s2.i]))) true):=fun o=>by
      rw[<- YZ];exact J4 (l:=eI es) (m:=[(s2.i:Int)]) (o:=o) (by simp[eI];omega) |>.trans (by simp[ints])
     have B2:=M5 (es:=es);rw[hma,<- hA'] at wD;have hpe:=GY (f:=f);rw[bJ] at wW wD hpe;have hD:aA H.length 14 (fs.map bJ)=.al\/aA H.length 14 (fs.map bJ)=.sref (H.length+(fs.map bJ).length) 0 (fs.map bJ).length 14:=by
      cases fs with
      | nil=>exact .inl rfl
      | cons d ds=>exact .inr rfl
     rcases hD with hD|hD
     all_goals
      rw[hD] at e8;simp only[hD,List.length_map] at wD;simp(disch:=omega)only[lI,ab,simprocAttr,w5,oC,Cf,w9,Ag,Af,Ae,Ad,zH,yr,yq,vo,pF,pS,pB,a4,a7,e8,e9,ft,bN,ah,cH,cA,axA,axr,qO,wW,wD,RF,hei,hA'];refine⟨k,af,fs++[f],es++[s2.i],_,⟨_,rfl,⟨cd a0,cd a2,cd a3,cd a4,cd a5,cd a7⟩,cd hA',xn⟩,by simp at hk ⊢;omega,by simp[JI],xP,hr⟩
 ·intro xg h
  exact h
end
end
def di{mm:Nat}{K:aa}(h:PW mm K)(xs l:List av)(b:Bool)(hx:xs.length<=1000)(hl:l.length+xs.length<=10000000):ai A 64 [.ref mm 0,.slice (strs xs) false] (ct mm l b K)=some (.undef,some ⟨ct mm (l++xs) b K,mm⟩):=by
 refine cW Z5.eq_1 ?_;have h0:=fu (l:=l) (b:=b) h;unfold nJ at h0;have a1:aC false 1 16 (.slice (strs l) true) (.slice (strs xs) false)=some (.slice (strs (l++xs)) true):=ca af;have aP:=h.lt;have ho:=h.open (l++xs) b;have h1:∀ x:bG,((ct mm l b K).set mm x)[mm]?=some x:=fun x=>List.getElem?_set_self (by rw[bf];exact aP)
 simp(disch:=omega)only[dJ,ab,simprocAttr,h0,h1,a1,bf,zN,List.set_set,fF,ho,cH,cA,axr,ah]
def XB(n:Int):0<=(cD n).2/\(cD n).2<=7:=by
 by_cases h:0<=n/\n<=11
 ·have:n=0\/n=1\/n=2\/n=3\/n=4\/n=5\/n=6\/n=7\/n=8\/n=9\/n=10\/n=11:=af
  rcases this with rfl|rfl|rfl|rfl|rfl|rfl|rfl|rfl|rfl|rfl|rfl|rfl<;>decide
 ·rw[Mb h];decide
theorem xD:∀ (k f n:Nat) (acc:av),n<10 ^ (k+1)->(gy f n acc).length<=acc.length+k+1
 | _,0,n,acc,_=>by rw[gy];omega
 | 0,f+1,n,acc,h=>by
  have:Nat.blt n 10=true:=by simp[axp];omega
  rw[gy,this,cond_true];simp
 | k+1,f+1,n,acc,h=>by
  rw[gy];cases hb:Nat.blt n 10 with
  | true=>simp only[cond_true,List.length_cons];omega
  | false =>
   simp only[cond_false];have h2:n / 10<10 ^ (k+1):=by rw[Nat.pow_succ] at h;omega
   have:=xD k f (n / 10) (UInt8.ofNat (48+n % 10) :: acc) h2
   grind
theorem yK{n:Nat}(h:n<=2199023255552):(lV n).length<=14:=by
 have:=xD 12 (n+1) n [] af
 unfold lV
 grind
theorem gM{t:Tm}(h:ax t=true):bZ t=true:=by
 have hO:=qR h;obtain⟨k0,k12⟩:=vl hO;have b1:=hO.b1;have b2:=hO.b2;have b3:=hO.b3;have b4:=hO.b4;have b6:=hO.b6;unfold rG om at b1;unfold sV jE at b2;unfold sW at b3;unfold rH at b4;unfold sY at b6;unfold bZ
 rcases tG t.kind with e|e|e|e|e|e|e|e|e|e|e|e|e|e
 ·rw[e,show ff 0=[110] from rfl]
  simp[e,bP] at b1 b2 b3 b4 b6;simp only[pL,show cj [110] 110=false from rfl,show cj [110] 97=true from rfl,show cj [110] 102=true from rfl,show cj [110] 116=true from rfl,show cj [110] 107=true from rfl,show cj [110] 115=true from rfl]
  simp_all
 ·rw[e,show ff 1=[110] from rfl]
  simp[e,bP] at b1 b2 b3 b4 b6;simp only[pL,show cj [110] 110=false from rfl,show cj [110] 97=true from rfl,show cj [110] 102=true from rfl,show cj [110] 116=true from rfl,show cj [110] 107=true from rfl,show cj [110] 115=true from rfl]
  simp_all
 ·rw[e,show ff 2=[97] from rfl]
  simp[e,bP] at b1 b2 b3 b4 b6;simp only[pL,show cj [97] 110=true from rfl,show cj [97] 97=false from rfl,show cj [97] 102=true from rfl,show cj [97] 116=true from rfl,show cj [97] 107=true from rfl,show cj [97] 115=true from rfl]
  simp_all
 ·rw[e,show ff 3=[97,107] from rfl]
  simp[e,bP] at b1 b2 b3 b4 b6;simp only[pL,show cj [97,107] 110=true from rfl,show cj [97,107] 97=false from rfl,show cj [97,107] 102=true from rfl,show cj [97,107] 116=true from rfl,show cj [97,107] 107=false from rfl,show cj [97,107] 115=true from rfl]
  simp_all
 ·rw[e,show ff 4=[110,107] from rfl]
  simp[e,bP] at b1 b2 b3 b4 b6;simp only[pL,show cj [110,107] 110=false from rfl,show cj [110,107] 97=true from rfl,show cj [110,107] 102=true from rfl,show cj [110,107] 116=true from rfl,show cj [110,107] 107=false from rfl,show cj [110,107] 115=true from rfl]
  grind
 ·rw[e,show ff 5=[107] from rfl]
  simp[e,bP] at b1 b2 b3 b4 b6;simp only[pL,show cj [107] 110=true from rfl,show cj [107] 97=true from rfl,show cj [107] 102=true from rfl,show cj [107] 116=true from rfl,show cj [107] 107=false from rfl,show cj [107] 115=true from rfl]
  simp_all
 ·rw[e,show ff 6=[107,115] from rfl]
  simp[e,bP] at b1 b2 b3 b4 b6;simp only[pL,show cj [107,115] 110=true from rfl,show cj [107,115] 97=true from rfl,show cj [107,115] 102=true from rfl,show cj [107,115] 116=true from rfl,show cj [107,115] 107=false from rfl,show cj [107,115] 115=false from rfl]
  simp_all
 ·rw[e,show ff 7=[97,107,115] from rfl]
  simp[e,bP] at b1 b2 b3 b4 b6;simp only[pL,show cj [97,107,115] 110=true from rfl,show cj [97,107,115] 97=false from rfl,show cj [97,107,115] 102=true from rfl,show cj [97,107,115] 116=true from rfl,show cj [97,107,115] 107=false from rfl,show cj [97,107,115] 115=false from rfl]
  simp_all
 ·rw[e,show ff 8=[97,102,107] from rfl]
  simp[e,bP] at b1 b2 b3 b4 b6;simp only[pL,show cj [97,102,107] 110=true from rfl,show cj [97,102,107] 97=false from rfl,show cj [97,102,107] 102=false from rfl,show cj [97,102,107] 116=true from rfl,show cj [97,102,107] 107=false from rfl,show cj [97,102,107] 115=true from rfl]
  simp_all
 ·rw[e,show ff 9=[97,102,107] from rfl]
  simp[e,bP] at b1 b2 b3 b4 b6;simp only[pL,show cj [97,102,107] 110=true from rfl,show cj [97,102,107] 97=false from rfl,show cj [97,102,107] 102=false from rfl,show cj [97,102,107] 116=true from rfl,show cj [97,102,107] 107=false from rfl,show cj [97,102,107] 115=true from rfl]
  simp_all
 ·rw[e,show ff 10=[97,107,115] from rfl]
  simp[e,bP] at b1 b2 b3 b4 b6;simp only[pL,show cj [97,107,115] 110=true from rfl,show cj [97,107,115] 97=false from rfl,show cj [97,107,115] 102=true from rfl,show cj [97,107,115] 116=true from rfl,show cj [97,107,115] 107=false from rfl,show cj [97,107,115] 115=false from rfl]
  simp_all
 ·rw[e,show ff 11=[116,107] from rfl]
  simp[e,bP] at b1 b2 b3 b4 b6;simp only[pL,show cj [116,107] 110=true from rfl,show cj [116,107] 97=true from rfl,show cj [116,107] 102=true from rfl,show cj [116,107] 116=false from rfl,show cj [116,107] 107=false from rfl,show cj [116,107] 115=true from rfl]
  simp_all
 ·rw[e,show ff 12=[107,115] from rfl]
  simp[e,bP] at b1 b2 b3 b4 b6;simp only[pL,show cj [107,115] 110=true from rfl,show cj [107,115] 97=true from rfl,show cj [107,115] 102=true from rfl,show cj [107,115] 116=true from rfl,show cj [107,115] 107=false from rfl,show cj [107,115] 115=false from rfl]
  simp_all
 ·omega
def Bb{H:aa}{o:bG}{l:List av} : (ct (H.length+1) l b (H++[a,o])).take H.length=H:=by
 unfold ct;rw[s2b];exact h2t
def Jz{H:aa}{o:bG}{l:List av} : (ct (H.length+1) l b (H++[a,o]))[H.length]?=some a:=by
 unfold ct;rw[s2b];exact h2a
def yl{H:aa}{o x:bG}{l:List av} : ((ct (H.length+1) l b (H++[a,o])).set (H.length+1) x).take H.length=H:=by
 unfold ct;rw[s2b,s2b];exact h2t
def zero_eq(n:av)(ks:List Wd)(t:Tm):(oG n ks&&gG t)=((n==[])&&(((ks.length:Int)==0)&&((t.kind==0)&&(bZ t&&(t.n==0))))):=by
 have h1:((ks.length:Int)==0)=ks.isEmpty:=by cases ks<;>simp;omega
 rw[h1];unfold oG gG;cases hk:(t.kind==0) with
 | false=>simp
 | true =>
  have e:t.kind=0:=cJ hk;have hu:bZ t=((t.name==[])&&((t.field==[])&&(oG t.wn t.wk&&((t.names==[])&&t.kids.isEmpty)))):=by
   unfold bZ;rw[e,show ff 0=[110] from rfl]
   simp only[pL,show cj [110] 110=false from rfl,show cj [110] 97=true from rfl,show cj [110] 102=true from rfl,show cj [110] 116=true from rfl,show cj [110] 107=true from rfl,show cj [110] 115=true from rfl,oG]
   cases t.name==[]<;>cases t.field==[]<;>cases t.wn==[]<;>cases t.wk<;>cases t.names<;>cases t.kids<;>simp
  rw[hu];cases (n==[])<;>cases ks.isEmpty<;>cases (t.n==0)<;>simp
def aj0:A.aX 0=[.slice (strs cG) false]:=rfl
end Go.Proofs.YtkoebdjmmgckdaaGreatDoor
end
