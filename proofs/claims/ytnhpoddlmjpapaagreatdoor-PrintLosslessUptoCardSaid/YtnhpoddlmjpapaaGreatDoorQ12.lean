/-
  A part of the proof of PrintLossless: UQ22, UQ23, UQ24, UQ25, UQ26, AbsLaidU, AbsLibU, AbsLib2U, AbsLib3U, AbsLib4U, AbsLib5U, AbsSgnU2, AbsOKU, UQ27, UQ28, UQ29, AbsIrP, UQ30.
-/
import Derived.Shelf.Strconv.AtoiAll
import Derived.Shelf.Strconv.Itoa3
import Derived.Shelf.Small.Strs
import Derived.Shelf.Strings.Search1
import Derived.Ground.NamesProg
import Derived.Test.YtnhpoddlmjpapaaGreatDoorChecked
import Derived.Shelf.Lay
import Derived.Shelf.Strings.Builder1
import Derived.Test.YtnhpoddlmjpapaaGreatDoorProg
import Derived.KernelRfl
import Derived.Test.YtnhpoddlmjpapaaGreatDoorQ11
set_option linter.unusedSimpArgs false
set_option linter.unusedVariables false
set_option linter.defProp false
set_option maxHeartbeats 4000000
set_option maxRecDepth 100000
noncomputable section
namespace Go.Proofs.YtnhpoddlmjpapaaGreatDoor
open Go Go.Abs Go.Proofs
variable {x:AV × Option fR}{kd:Int}{args:List AV}{a:List Fd}{r:List Fd × PS}
section
section
variable {n:Nat}{tk:List Tk}{pl:Nat}{s s' : PS}{H:ae}{t:Tm}
def acK(h:jn tk pl s H){M:ae}{K:ae}{base:Nat}{b:Bool}{ns:List aB}{ks:List Tm}{k:Int}(hb:H.length<=base)(hJ:JT tk pl base (H.length+1) (c0E k) (aI tk pl s (H++M)) b ns ks s' K){T:aD}(q2:T 2=.lbox 0 ZT)(q3:T 3=.ref (H.length+1) 0) :
  W (PA 2 n) (mQ.body.sub [true,true,true,true]) ⟨T,K,pl,1⟩ (dn mQ H.length (.agg (aK (.mk k 0 [] [] [] [] ks ns)),some ⟨aI tk pl s' H,pl⟩)):=by
 obtain⟨⟨kc,nc,t1,t2,t3⟩,t6⟩:=hJ.t;obtain⟨d1,f1⟩:=t2.facts;obtain⟨d2,f2⟩:=t3.facts;have ij:=h.q.lt;simp only[c0E,avU,avM] at t1;have e:=hJ.take ij ah hb;have nw:=fun T' gen (Fq:T' 2=.lbox 0 [.int .i64 k,.int .i64 0,.str [],.str [],.str [],.aq,kc,nc])=>rB (fn:=mQ) (ra:=2) (tl:=H.length+1) (gen:=gen) rfl rfl rfl h (T:=T') Fq (.inl ⟨rfl,rfl⟩) (.inl (lJ.base t2 ah)) (.inl (lJ.base t3 ah)) e
 refine (show W (PA 2 n) (.seq (.region _) .ret) _ _ from ?_)
 simp(disch:=omega)only[aO,aa,simprocAttr,q2,q3,t1,d1,d2,f1,f2,au,bS,ab,aw8];exact nw _ _ (tL)
def S8{H:ae}(hR:zw (n+1) args H x):args.length=mQ.np/\D (PA 2 n) mQ.body ⟨fm args,H,H.length,0⟩ (dn mQ H.length x):=by
 cases hR with
 | @mk tk pl s H t s' h HR he =>
 refine⟨rfl,?_⟩;have hn:n<=1000000:=ah;have he:uu (az tk) (pE (az tk) n 0) (pE (az tk) n 1) s=some (t,s'):=he;have ij:=h.q.lt;have hG:=aaL (k:=0) h;have rz:=fun (t:Nat) (os:List aS) (T:aD) (H:ae) (lo gen:Nat) (K:AS->Prop)=>Is (A:=PA 2 n) (t:=t) (os:=os) (T:=T) (H:=H) (lo:=lo) (gen:=gen) (K:=K) (cs:=ZT) rfl rfl
 have g0:(H++[bM.box 72 [.ref pl 0]])[H.length]?=some (.box 72 [.ref pl 0]):=ag;have J8:∀ {M:ae} {K:ae} {base:Nat} {b:Bool} {ns:List aB} {ks:List Tm} {k:Int} {s' : PS} (hb:H.length<=base) (hJ:JT tk pl base (H.length+1) (c0E k) (aI tk pl s (H++M)) b ns ks s' K) {T:aD} (q2:T 2=.lbox 0 ZT) (q3:T 3=.ref (H.length+1) 0),
   D (PA 2 n) (mQ.body.sub [true,true,true,true]) ⟨T,K,pl,1⟩ (dn mQ H.length (.agg (aK (.mk k 0 [] [] [] [] ks ns)),some ⟨aI tk pl s' H,pl⟩)):=fun hb hJ T q2 q3=>PH (acK h hb hJ q2 q3)
 have J9:=fun (T:aD) (s' : PS) (M:ae) (t:Tm) (hT:T 2=.lbox 0 (aK t))=>vA (fn:=mQ) (ra:=2) (s':=s') (M:=M) (gen:=1) rfl rfl rfl h hT
 generalize Qk:dn mQ H.length (.agg (aK t),some ⟨aI tk pl s' H,pl⟩)=DN;have done:∀ st,finish H.length mQ st=some (.agg (aK t),some ⟨aI tk pl s' H,pl⟩)->DN .ret st:=fun st h=>by rw[<- Qk];exact h
 refine (show D (PA 2 n) (.seq (.region _) (.seq (.region _) (.seq (.region _) (.seq (.block 0 (mQ.body.sub [true,true,true,false,false])) (mQ.body.sub [true,true,true,true]))))) _ DN from ?_)
 generalize hF:mQ.body.sub [true,true,true,true]=F;rw[hF] at J8;rw[fi,cr rfl];simp(disch:=omega)only[aO,aa,simprocAttr,wN];rw[fi,cr rfl];simp(disch:=omega)only[aO,aa,simprocAttr,rz,OQ];rw[fi,cr rfl];simp(disch:=omega)only[aO,aa,simprocAttr];rw[fi,Hu];have q:∀ (T:aD),T 1=.ref H.length 0->T 2=.lbox 0 ZT->T 3=.ref (H.length+1) 0->T 4=.func (.func 95) [] [.ref H.length 0,.ref (H.length+1) 0] ->
   D (PA 2 n) (mQ.body.sub [true,true,true,false,false]) ⟨T,eH pl H 0,H.length,1⟩ (leave 0 (andThen (fun s'=>D (PA 2 n) F s' DN) DN)):=by
  intro T q1 q2 q3 q4;rw[hG.eq];have tC:=fun s' k=>ahC (s':=s') (k:=k) h
  have JY:=fun s' k=>aaM (s':=s') (k:=k) h
  have vM:=fun s' k k'=>acL (s':=s') (k:=k) (k':=k') h
  have nN:decide (H.length+1<pl)=false:=dw;have D8:decide (H.length<pl)=false:=dw;have hxx:decide (pl<pl)=false:=ag;have D9:decide (H.length+2<pl)=false:=dw;have abe:∀ w:aB,dZ [[.str w]]=true:=fun _=>rfl
  unfold uu at he;unfold mQ;simp only[aH.sub];cases e1:(pk (az tk) s==LD) with
  | true =>
   rw[e1,cond_true] at he;unfold uJ at he;simp only[auQ,auP] at he;obtain⟨_,⟨⟨t1,sA⟩,QB,rfl⟩,⟨Yy,sB⟩,Yb,⟨ks3,sC⟩,Yc,he⟩:=he;injection he with lO iY
   simp only at lO iY Yb Yc;subst lO iY;have hi:=Kj (k:=2) (n:=n) (s:=s) hG a8 e1;have lu:=lk (tk:=tk) (s:=s) (w:=LD) a8 e1;have HI:=Cq (s1:=s) (k:=5) h lu;obtain⟨K1,ha,Bf⟩:=HI.kid hn ag QB;obtain⟨kc,m,es,Hd,cs,hA,hH⟩:=mT ja ha;have mo:=Oh (k:=2) HI.p hn QB;obtain⟨K2,gT,⟨b2,Ls⟩,z2,_⟩:=Bf.oI hn (w:=LG) a8 (pv:=H.length) (tC s 5) ij ah ag Yb;have zz2:Yy.length<=1000:=by
    have:Yy.length<=0+1+1:=cT z2
    omega
   obtain⟨K3,oS,⟨b3,Ts⟩,z3,_⟩:=Ls.oI hn (w:=LC) a8 (pv:=H.length) (tC s 5) ij ah zz2 Yc;unfold LD at hi;unfold LG at gT;unfold LC at oS;have hl5:(aI tk pl s.up (eH pl H 5)).length=H.length+2:=mW;rw[fi,cr rfl];simp(disch:=omega)only[aO,aa,simprocAttr,q1,tC,hi,iP];rw[fi,cr rfl];simp(disch:=omega)only[aO,aa,simprocAttr,q3,JY,vM,au,jA,nN];rw[fi];refine ajy (n:=n) (pv:=H.length) ah (by rw[hl5];omega) ⟨ij,ah⟩ (tC s.up 5) mo hA (nx q1) (nx q3) fun T' Fq=>?_
   have p1:=Fq 1 ah;have p2:=Fq 2 ah;have p3:=Fq 3 ah;have p4:=Fq 4 ah;simp(disch:=omega)only[aO,aa,simprocAttr,q1,q2,q3,q4] at p1 p2 p3 p4;rw[bF] at hH
   replace hH:K1=(rX Hd es (aK t1)).set (H.length+1) (.bV (cs.set 6 (.sref (aI tk pl s.up (eH pl H 5)).length 0 (m+1) 8))):=hH
   rw[<- hH,kL];refine PH ?_;simp(disch:=omega)only[aO,aa,simprocAttr,p4,gT,oS];rw[<- Qk];refine J8 ah Ts ?_ ?_<;>exact Lz p2 p3
  | false =>
  have i1:=Ki (k:=2) (n:=n) (s:=s) hG h.le e1;unfold LD at i1;rw[e1,cond_false] at he;cases e2:(pk (az tk) s==B4) with
  | true =>
   rw[e2,cond_true] at he;simp only[auQ,auP] at he;obtain⟨⟨Yy,sB⟩,Yb,⟨ks3,sC⟩,Yc,he⟩:=he;injection he with lO iY
   simp only at lO iY Yc;have hi:=Kj (k:=2) (n:=n) (s:=s) hG a8 e2;have lu:=lk (tk:=tk) (s:=s) (w:=B4) a8 e2;have sJ:=GD (k:=2) (n:=n) (s:=s.up) hG lu;have ln:=jQ (tk:=tk) lu;generalize aL (az tk) s.up=q at *;obtain⟨nm,sN⟩:=q;simp only at sJ ln Yb lO;subst lO iY;have HI:=(Cq (s1:=s) (k:=6) h ln).nam nm ag;obtain⟨K0,ha,HI⟩:=HI;obtain⟨K2,gT,⟨b2,Ls⟩,z2,_⟩:=HI.oI hn (w:=[61]) ag (pv:=H.length) (tC s 6) ij ah ag Yb;have zz2:Yy.length<=1000:=by
    have:Yy.length<=0+1:=cT z2
    omega
   obtain⟨K3,oS,⟨b3,Ts⟩,z3,_⟩:=Ls.oI hn (w:=acf) a8 (pv:=H.length) (tC s 6) ij ah zz2 Yc;unfold B4 at hi;unfold acf at oS;have hK0:K0=(aI tk pl sN (eH pl H 6)++[bM.box bE [.str nm]]).set (H.length+1) (.bV [.int .i64 6,.int .i64 0,.str [],.str [],.str [],.aq,.aq,.sref (H.length+2) 0 1 1]):=by
    have:=ha
    unfold ud at this;rw[JY] at this;simp only[avy,avb] at this;injection this with this
    rw[<- this,List.set_append_left _ _ (by rw[mW];omega),mW]
    rfl
   have g1:(aI tk pl sN (eH pl H 0)++[bM.box bE [.str nm]])[H.length+1]?=some (.bV [.int .i64 0,.int .i64 0,.str [],.str [],.str [],.aq,.aq,.aq]):=by
    rw[au3 (by rw[mW];omega)];exact JY sN 0
   have g2:∀ cs,(aI tk pl sN (eH pl H 0)++[bM.box bE [.str nm]]).set (H.length+1) (.bV cs)=(aI tk pl sN (eH pl H 0)).set (H.length+1) (.bV cs)++[bM.box bE [.str nm]]:=fun cs=>List.set_append_left _ _ (by rw[mW];omega)
   have g3:(aI tk pl sN (eH pl H 6)++[bM.box bE [.str nm]])[H.length+1]?=some (.bV [.int .i64 6,.int .i64 0,.str [],.str [],.str [],.aq,.aq,.aq]):=by
    rw[au3 (by rw[mW];omega)];exact JY sN 6
   have i1' : aj (PA 2 n) 26 [.ref pl 0,.str [105,102]] (aI tk pl s (eH pl H 0))=some (.bool false,none):=i1;rw[fi,cr rfl];simp(disch:=omega)only[aO,aa,simprocAttr,q1,tC,i1,iP];rw[fi,cr rfl];simp(disch:=omega)only[aO,aa,simprocAttr,q1,tC,hi,iP];refine PH ?_;simp(disch:=omega)only[aO,aa,simprocAttr,abe,avo,av8,q1,q3,q4,tC,sJ,mW,g1,g2,vM,g3,au,jA,nN,D9,<- hK0,gT,oS];rw[<- Qk];refine J8 ah Ts ?_ ?_<;>exact Lz q2 q3
  | false =>
  have i2:=Ki (k:=2) (n:=n) (s:=s) hG h.le e2;unfold B4 at i2;rw[e2,cond_false] at he;cases e3:(pk (az tk) s==wK) with
  | true =>
   rw[e3,cond_true] at he;simp only[auQ,auP] at he;obtain⟨⟨OP,sA⟩,QB,⟨Yy,sB⟩,Yb,⟨ks3,sC⟩,Yc,he⟩:=he;injection he with lO iY
   simp only at lO iY Yb Yc;have hi:=Kj (k:=2) (n:=n) (s:=s) hG a8 e3;have lu:=lk (tk:=tk) (s:=s) (w:=wK) a8 e3;have sJ:=GD (k:=2) (n:=n) (s:=s.up) hG lu;have ln:=jQ (tk:=tk) lu;unfold v8 at QB lO;generalize aL (az tk) s.up=q at *;obtain⟨nm,sN⟩:=q;simp only at sJ ln QB lO;obtain⟨K0,ha,HI⟩:=(Cq (s1:=s) (k:=12) h ln).nam nm ag;unfold wK at hi;have hK0:K0=(aI tk pl sN (eH pl H 12)++[bM.box bE [.str nm]]).set (H.length+1) (.bV [.int .i64 12,.int .i64 0,.str [],.str [],.str [],.aq,.aq,.sref (H.length+2) 0 1 1]):=by
    have:=ha
    unfold ud at this;rw[JY] at this;simp only[avy,avb] at this;injection this with this
    rw[<- this,List.set_append_left _ _ (by rw[mW];omega),mW]
    rfl
   have g1:(aI tk pl sN (eH pl H 0)++[bM.box bE [.str nm]])[H.length+1]?=some (.bV [.int .i64 0,.int .i64 0,.str [],.str [],.str [],.aq,.aq,.aq]):=by
    rw[au3 (by rw[mW];omega)];exact JY sN 0
   have g2:∀ cs,(aI tk pl sN (eH pl H 0)++[bM.box bE [.str nm]]).set (H.length+1) (.bV cs)=(aI tk pl sN (eH pl H 0)).set (H.length+1) (.bV cs)++[bM.box bE [.str nm]]:=fun cs=>List.set_append_left _ _ (by rw[mW];omega)
   have g3:(aI tk pl sN (eH pl H 12)++[bM.box bE [.str nm]])[H.length+1]?=some (.bV [.int .i64 12,.int .i64 0,.str [],.str [],.str [],.aq,.aq,.aq]):=by
    rw[au3 (by rw[mW];omega)];exact JY sN 12
   have anT:K0[H.length]?=some (.box 72 [.ref pl 0]):=by rw[HI.old _ ah ah ah];exact tC s 12
   have hwc:=zf (k:=2) (n:=n) HI.p (w:=[44]) ag;have Bf:=HI.set (s':=aY (az tk) [44] sN) (gA ag HI.p.le);have tail:∀ (ns:List aB) (sM:PS) (K:ae) (T' : aD) (b:Bool),JT tk pl (H.length+2) (H.length+1) (c0E 12) (aI tk pl s (eH pl H 12)) b ns [] sM K->oI (az tk) (pE (az tk) n 0) [61] [] sM=some (OP,sA) ->
     T' 1=.ref H.length 0->T' 2=.lbox 0 ZT->T' 3=.ref (H.length+1) 0->T' 4=.func (.func 95) [] [.ref H.length 0,.ref (H.length+1) 0]->t=.mk 12 0 [] [] [] [] (bif sC.bad then ks3 else DR ks3) ns ->
     D (PA 2 n) (mQ.body.sub [true,true,true,false,false,true,true,true,true,true,false,true,true]) ⟨T',K,pl,1⟩ (leave 0 (andThen (fun s'=>D (PA 2 n) F s' DN) DN)):=by
    intro ns sM K T' b hJ QB p1 p2 p3 p4 ht;obtain⟨K1,hc1,⟨b1,Bf⟩,z1,w1⟩:=hJ.oI hn (w:=[61]) ag (pv:=H.length) (tC s 12) ij ah ag QB;have zz1:OP.length<=1:=cT z1;obtain⟨K2,gT,⟨b2,Ls⟩,z2,w2⟩:=Bf.oI hn (w:=LF) a8 (pv:=H.length) (tC s 12) ij ah (by show OP.length<=1000;omega) Yb
    have zz2:Yy.length<=2:=by have:Yy.length<=OP.length+1:=z2;omega
    obtain⟨K3,oS,⟨b3,Ts⟩,z3,w3⟩:=Ls.oI hn (w:=acd) a8 (pv:=H.length) (tC s 12) ij ah (by show Yy.length<=1000;omega) Yc
    have lB:=kF (jY n 0) a8 Yc;have lA:=kF (jY n 0) a8 Yb;have aiK:K3[H.length]?=some (.box 72 [.ref pl 0]):=by rw[Ts.old _ ah ah ah];exact tC s 12
    have gb:=Ts.p.at';unfold nC at gb;simp only at gb lB lA w1 w2 w3 Ts;unfold LF at gT;unfold acd at oS;unfold mQ;simp only[aH.sub];rw[fi,cr rfl];simp(disch:=omega)only[aO,aa,simprocAttr,p4,hc1];rw[fi,cr rfl];simp(disch:=omega)only[aO,aa,simprocAttr,p4,gT];rw[fi,cr rfl];simp(disch:=omega)only[aO,aa,simprocAttr,p4,oS];rw[fi,cr rfl];cases hb:sC.bad with
    | true =>
     rw[hb] at gb ht;rw[cond_true] at ht;simp(disch:=omega)only[aO,aa,simprocAttr,p1,aiK,gb,iP,sq];rw[<- Qk,ht,<- iY];refine J8 ah Ts ?_ ?_<;>exact Lz p2 p3
    | false =>
     rw[hb] at gb ht;rw[cond_false] at ht;have hB:sB.bad=false:=by
      cases h:sB.bad with
      | false=>rfl
      | true=>have:=lB.bad h;rw[hb] at this;cases this
     have hA:sA.bad=false:=by
      cases h:sA.bad with
      | false=>rfl
      | true=>have:=lA.bad h;rw[hB] at this;cases this
     have e1':=w1 hA;have e2':=w2 hB;have e3':=w3 hb;simp only[List.length_nil] at e1';obtain⟨l,x,y,z,cs,gG,k1,k2,k3,k4,hJ4⟩:=Ts.swap ah rfl;simp(disch:=omega)only[aO,aa,simprocAttr,p1,aiK,gb,iP,sq];refine af3 ah k1 k2 k3 k4 (nx p3) fun T2 hT2=>?_
     have r2:=hT2 2 ah;have r3:=hT2 3 ah;simp(disch:=omega)only[aO,aa,simprocAttr,p2,p3] at r2 r3;have hsw:DR ks3=[y,x,z]:=by rw[gG];rfl
     rw[hsw] at ht
     show D (PA 2 n) F _ DN
     rw[<- Qk,ht,<- iY];exact J8 ah hJ4 r2 r3
   have HL:=Bf.p.at';unfold nC at HL;have MI:(aI tk pl (aY (az tk) [44] sN) K0)[H.length]?=some (.box 72 [.ref pl 0]):=by rw[Bf.old _ ah ah ah];exact tC s 12
   generalize hTL:mQ.body.sub [true,true,true,false,false,true,true,true,true,true,false,true,true]=TL at tail;have ary:TL=TL:=rfl;unfold mQ at hTL;simp only[aH.sub] at hTL;rw[hTL];rw[fi,cr rfl];simp(disch:=omega)only[aO,aa,simprocAttr,q1,tC,i1,iP];rw[fi,cr rfl];simp(disch:=omega)only[aO,aa,simprocAttr,q1,tC,i2,iP];rw[fi,cr rfl];simp(disch:=omega)only[aO,aa,simprocAttr,q1,tC,hi,iP];rw[fi,cr rfl];simp(disch:=omega)only[aO,aa,simprocAttr,abe,avo,av8,q1,q3,tC,sJ,mW,g1,g2,vM,g3,au,jA,nN,D9,<- hK0];rw[fi,fi,cr rfl];simp(disch:=omega)only[aO,aa,simprocAttr,q1,anT,hwc];rw[fi,cr rfl];cases hbW:(aY (az tk) [44] sN).bad with
   | true =>
    rw[hbW] at HL QB lO;rw[cond_true] at QB lO;simp(disch:=omega)only[aO,aa,simprocAttr,q1,MI,HL,iP,sq];refine tail _ _ _ _ _ Bf QB ?_ ?_ ?_ ?_ lO.symm<;>exact vK4 q1 q2 q3 q4
   | false =>
    rw[hbW] at HL QB lO;rw[cond_false] at QB lO;simp(disch:=omega)only[aO,aa,simprocAttr,q1,MI,HL,iP,sq];have Ls:=Bf.set (s':=(aL (az tk) (aY (az tk) [44] sN)).2) (jQ Bf.p.le);obtain⟨K4,ha4,hJ4⟩:=Ls.nam (aL (az tk) (aY (az tk) [44] sN)).1 ag;have hcn:=U0 (k:=2) (n:=n) Bf.p;obtain⟨kc,m,es,Hd,cs,hA,hH⟩:=mT (z:=1) (row:=[.str (aL (az tk) (aY (az tk) [44] sN)).1]) rfl ha4;have hbk:=Bf.bk;refine ae1 (n:=n) (pv:=H.length) ah Bf.p.q.lt ⟨ij,ah⟩ MI hcn hA (nx q1) (nx q3) fun T' Fq=>?_
    have p1:=Fq 1 ah;have p2:=Fq 2 ah;have p3:=Fq 3 ah;have p4:=Fq 4 ah;simp(disch:=omega)only[aO,aa,simprocAttr,q1,q2,q3,q4] at p1 p2 p3 p4;rw[bF] at hH
    replace hH:K4=(rX Hd es [.str (aL (az tk) (aY (az tk) [44] sN)).1]).set (H.length+1) (.bV (cs.set 7 (.sref (aI tk pl (aY (az tk) [44] sN) K0).length 0 (m+1) 1))):=hH
    rw[<- hH];exact tail _ _ _ _ _ hJ4 QB p1 p2 p3 p4 lO.symm
  | false =>
  have i3:=Ki (k:=2) (n:=n) (s:=s) hG h.le e3;unfold wK at i3;rw[e3,cond_false] at he;have Ox:=WY (k:=2) hG hn (lv:=1) ah ah he;rw[hG.eq,fK,ai] at Ox;have adg:aj (PA 2 n) 96 [.ref pl 0,.int .i64 1] (aI tk pl s (eH pl H 0))=_:=Ox;rw[fi,cr rfl];simp(disch:=omega)only[aO,aa,simprocAttr,q1,tC,i1,iP];rw[fi,cr rfl];simp(disch:=omega)only[aO,aa,simprocAttr,q1,tC,i2,iP];rw[fi,cr rfl];simp(disch:=omega)only[aO,aa,simprocAttr,q1,tC,i3,iP];refine PH ?_;simp(disch:=omega)only[aO,aa,simprocAttr,q1,q2,tC,adg,au];unfold eH;refine done _ (J9 _ _ _ _ ?_);exact nx ai
 refine q _ ?_ ?_ ?_ ?_<;>exact tL
end
end
section
section
variable {n:Nat}{tk:List Tk}{pl pv fl:Nat}{s s1 s2:PS}{H:ae}{nm:aB}{w:Wd}
def akI(aZ:pl<pv)(hle:pl<H.length)(hv:H[pv]?=some (.box 72 [.ref pl 0]))(adm:aj (PA 2 n) 25 [.ref pl 0] H=some (.str nm,some ⟨aI tk pl s1 H,pl⟩))(adn:aj (PA 2 n) 57 [.ref pl 0] (aI tk pl s1 H)=some (.agg [.str w.name,.slice (aG w.kids) false],some ⟨aI tk pl s2 H,pl⟩))
  {T0:aD} (oF:T0 0=.ref pv 0) {Q:bJ->AS->Prop}
  (hQ:∀ T,T 0=T0 0->T 1=T0 1->T 2=.lbox 0 [.str nm,.str w.name,.slice (aG w.kids) false,.int .i64 0]->Q .normal ⟨T,aI tk pl s2 H,pl,1⟩) :
  D (PA 2 n) (C4.body.sub [false]) ⟨T0,H,H.length,0⟩ Q:=by
 have TY:H[pv]?=some (.box 72 [.ref pl 0]):=hv;have MI:(aI tk pl s1 H)[pv]?=some (.box 72 [.ref pl 0]):=by rw[dV ah];exact hv
 have ME:decide (pl<pl)=false:=ag;unfold C4;simp only[aH.sub];refine PH ?_;simp(disch:=omega)only[nK,cY,cb,ct,cm,gC,aP,aQ,br,aE.eval,AS.bW,↓reduceIte,Nat.reduceEqDiff,Option.isSome,Option.isNone,cond_true,cond_false,Nat.reduceBEq,Nat.reduceAdd,Nat.reduceMul,aa,cn,avs,reduceCtorEq,gr,cZ,cd,bD,bound,dc,AS.bC,aN,bI,bu,Nat.reduceLeDiff,cq,putAt,Int.reduceEq,Int.reduceLT,Int.reduceLE,Int.reduceBEq,Int.reduceBNe,Int.reduceAdd,Int.reduceNeg,Int.reduceSub,Int.reduceMul,dQ,dP,dO,dN,dM,dL,dS,dR,au,bA,au5,au7,oF,TY,adm,MI,adn,ME,au];exact hQ _ rfl rfl rfl
end
end
def Sa{rows:List (List AV)}{x:List AV}{o:Bool}(h:vS 4 rows)(hr:rows.length<=1000000)(h4:x.length=4)(hn:nb [x]=true):aF false 4 64 (.slice rows true) (.slice [x] o)=some (.slice (rows++[x]) true) :=
 wM h ⟨fun r hr=>by rw[ava.1 hr];exact h4,hn⟩ dw dw
theorem V3{n:Nat}{H:ae}(hR:B2 n args H x):args.length=C4.np/\D (PA 2 n) C4.body ⟨fm args,H,H.length,0⟩ (dn C4 H.length x):=by
 cases hR with
 | @mk tk pl pv fl s H fd s' kd cs rows h hn hv hf hc aZ hlf hr hw he =>
 refine⟨rfl,?_⟩;have ij:=h.q.lt;have HR:=U0 (k:=2) (n:=n) h;have l1:=jQ (tk:=tk) h.le;unfold rM at he;generalize aL (az tk) s=q at *;obtain⟨nm,s1⟩:=q;simp only at he HR l1;simp only[auP] at he;obtain⟨⟨w,s2⟩,hwd,he⟩:=he;have D7:=ab8 (k:=2) (n:=n) (h.to l1) hwd;rw[fK,iu] at D7;have l2:=(mh _ _ _ hwd).le l1;simp only at l2 he;obtain⟨a,rest,rfl⟩:∃ a r,cs=a :: NL rows :: r:=by
  match cs,hc with
  | a :: v :: r,hc=>simp only[avy,avb,auR] at hc;subst hc;exact⟨a,r,rfl⟩
 have w9:=(auU.1 hf).1;have Wu:∀ s',(aI tk pl s' H)[fl]?=some (.box 85 (.int .i64 kd :: a :: NL rows :: rest)):=fun s'=>by rw[dV ah];exact hf
 have RM:∀ s',(aI tk pl s' H)[pv]?=some (.box 72 [.ref pl 0]):=fun s'=>by rw[dV ah];exact hv
 have hq:∀ (s' : PS) (o:bM),(aI tk pl s' H).set fl o=aI tk pl s' (H.set fl o):=fun s' o=>pO ah
 have hg:∀ (s' : PS) (o:bM),((aI tk pl s' H).set fl o)[fl]?=some o:=fun s' o=>List.getElem?_set_self (by rw[bF];exact w9)
 have aiE:∀ (s' : PS) (o:bM),(∀ cs,o≠.bV cs)->l7 H.length pl ((aI tk pl s' H).set fl o)=true:=fun s' o ho=>by
  rw[hq];have hp:PQ pl (H.set fl o):=⟨by rw[List.length_set];exact ij,fun j cs hj hc=>by
   rw[List.length_set]
   by_cases e:fl=j
   ·subst e;rw[List.getElem?_set_self w9] at hc;injection hc with hc;exact absurd hc (ho cs)
   ·rw[List.getElem?_set_ne e] at hc;exact h.q.ob j cs hj hc⟩
  have:=hp.open (tk:=tk) (s:=s')
  grind
 have fa:∀ (s' : PS) (cs:List AV),l7 H.length pl ((aI tk pl s' H).set fl (.box 85 cs))=true:=fun s' cs=>aiE s' _ (fun _ h=>by cases h)
 have IX:decide (fl<pl)=false:=dw;have tG:∀ (s' : PS) (o:bM),((aI tk pl s' H).set fl o).take H.length=(aI tk pl s' H).set fl o:=fun s' o=>avq (by rw[List.length_set,bF];exact Nat.le_refl _)
 have hlen:∀ (s' : PS) (o:bM),((aI tk pl s' H).set fl o).length=H.length:=fun s' o=>by rw[List.length_set,bF]
 have CJ:∀ (x:List AV) (o:Bool),x.length=4->nb [x]=true->aF false 4 64 (.slice rows true) (.slice [x] o)=some (.slice (rows++[x]) true):=fun x o h4 hn=>Sa hw hr h4 hn
 have CV:C4.results=[]:=rfl;refine jL _ _ ?_ (SJ (fn:=C4) rfl);refine (show D (PA 2 n) (.seq (C4.body.sub [false]) (.seq (.seq (.region _) (.cond _ (.region _) .skip)) (.region _))) _ _ from ?_)
 rw[fi];refine akI (n:=n) (w:=w) (T0:=fm [.ref pv 0,.ref fl 0]) aZ ij hv HR D7 rfl fun T q0 q1 q2=>?_
 have q0:T 0=.ref pv 0:=q0.trans rfl;have q1:T 1=.ref fl 0:=q1.trans rfl;rw[kL];refine PH ?_;have h4:(kd==4)=decide (kd=4):=rfl;have fh:=ae4 (k:=2) (n:=n) (h.to l2) (least:=0) ah ah;rw[fK] at fh;cases hk:decide (kd=4) with
 | true =>
  rw[hk,cond_true] at he;rw[hk] at h4;generalize jR (az tk) 0 s2=q at *;obtain⟨v,s3⟩:=q;simp only[auV,avM,awa,avZ] at he fh;obtain⟨rfl,rfl⟩:=he;have ha:=CJ [.str nm,.str w.name,.slice (aG w.kids) false,.int .i64 v] true rfl rfl;cases rows with
  | nil =>
   simp only[NL] at Wu;simp(disch:=omega)only[aO,aa,simprocAttr,CV,q0,q1,q2,RM,Wu,h4,fh,hg,ha,IX,au,bS,cO,cJ,avp,avd,ab,List.set_set,tG,fa,fF]
  | cons r0 rs =>
   simp only[NL] at Wu;simp(disch:=omega)only[aO,aa,simprocAttr,CV,q0,q1,q2,RM,Wu,h4,fh,hg,ha,IX,au,bS,cO,cJ,avp,avd,ab,List.set_set,tG,fa,fF]
 | false =>
  rw[hk,cond_false] at he;rw[hk] at h4;simp only[auV,avM,awa,avZ] at he;obtain⟨rfl,rfl⟩:=he;have ha:=CJ [.str nm,.str w.name,.slice (aG w.kids) false,.int .i64 0] true rfl rfl;cases rows with
  | nil =>
   simp only[NL] at Wu;simp(disch:=omega)only[aO,aa,simprocAttr,CV,q1,q2,Wu,h4,hg,ha,IX,au,bS,cO,cJ,avp,avd,ab,List.set_set,tG,fa,fF]
  | cons r0 rs =>
   simp only[NL] at Wu;simp(disch:=omega)only[aO,aa,simprocAttr,CV,q1,q2,Wu,h4,hg,ha,IX,au,bS,cO,cJ,avp,avd,ab,List.set_set,tG,fa,fF]
section
section
variable {n:Nat}{tk:List Tk}{pl:Nat}{H:ae}{w:aB}{k:Int}
def ahK(hle:pl<H.length)(BK:∀ M,(M=[]\/∃ cs,M=[.box 85 cs])->aj (PA 3 n) 52 [.ref pl 0] (H++[.box 72 [.ref pl 0]]++M)=some (.str w,none))(hix:∀ H,aj (PA 3 n) 54 [.slice (strs fI) false,.str w] H=some (.int .i64 k,none))
  {T0:aD} (CI:T0 1=.ref H.length 0) {Q:bJ->AS->Prop}
  (hQ:∀ T,T 1=T0 1->T 2=T0 2->T 3=.ref (H.length+1) 0->Q .normal ⟨T,H++[.box 72 [.ref pl 0]]++[.box 85 [.int .i64 k,.str [],.aq,.str [],.aq,.int .i64 0,.int .i64 0,.str [],.str [],.str [],.aq,.aq,.aq,.aq]],H.length,1⟩) :
  D (PA 3 n) (vP.body.sub [true,false]) ⟨T0,H++[.box 72 [.ref pl 0]],H.length,1⟩ Q:=by
 have hgl:(PA 3 n).aW 0=[.slice (strs fI) false]:=rfl;have aiG:=BK [] (.inl rfl);have aiH:=BK [.box 85 [.int .i64 0,.str [],.aq,.str [],.aq,.int .i64 0,.int .i64 0,.str [],.str [],.str [],.aq,.aq,.aq,.aq]] (.inr ⟨_,rfl⟩);rw[List.append_nil] at aiG;rw[tz] at aiH;have TY:(H++[bM.box 72 [.ref pl 0]])[H.length]?=some (.box 72 [.ref pl 0]):=Ov;have MI:∀ o,(H++[bM.box 72 [.ref pl 0]]++[o])[H.length]?=some (.box 72 [.ref pl 0]):=fun o=>by rw[au3 ag];exact Ov
 have hl1:(H++[bM.box 72 [.ref pl 0]]).length=H.length+1:=OQ;have we:decide (H.length+1<H.length)=false:=ag;have anx:decide (H.length<H.length)=false:=ag;have hg1:∀ o,(H++[bM.box 72 [.ref pl 0]]++[o])[H.length+1]?=some o:=fun o=>by rw[tz,aaV]
 have qa:∀ o o',(H++[bM.box 72 [.ref pl 0]]++[o]).set (H.length+1) o'=H++[bM.box 72 [.ref pl 0]]++[o']:=fun o o'=>by rw[tz,abW,tz]
 unfold vP;simp only[aH.sub];refine SH (by conv=>lhs;cbv) ?_
 simp(disch:=omega)only[nK,cY,cb,ct,cm,gC,aP,aQ,br,aE.eval,AS.bW,↓reduceIte,Nat.reduceEqDiff,Option.isSome,Option.isNone,cond_true,cond_false,Nat.reduceBEq,Nat.reduceAdd,Nat.reduceMul,aa,cn,avs,reduceCtorEq,gr,cZ,cd,bD,bound,dc,AS.bC,aN,bI,bu,Nat.reduceLeDiff,cq,putAt,Int.reduceEq,Int.reduceLT,Int.reduceLE,Int.reduceBEq,Int.reduceBNe,Int.reduceAdd,Int.reduceNeg,Int.reduceSub,Int.reduceMul,dQ,dP,dO,dN,dM,dL,dS,dR,au,bA,au5,au7,Fa,CI,hgl,TY,MI,aiG,aiH,hix,hl1,we,anx,hg1,qa,au];simp only[tz] at hQ
 and_intros<;>exact hQ _ rfl rfl rfl
end
end
section
def akH{k n:Nat}(hk:3<=k){H:ae}(h:B2 n args H x):aj (PA k n) 56 args H=some x:=by
 have ho:(PA k n).ov 56=some (lZ (B2 n)):=by
  have:Nat.ble 3 k=true:=by rw[avm];exact hk
  show (bif Nat.ble 3 k then _ else _)=_
  rw[this];rfl
 refine fZ ho (pK (fun _ hy=>Rf h hy) h) ?_
 cases h;rfl
def fH(pl:Nat)(H:ae)(cs:List AV):ae:=H++[.box 72 [.ref pl 0],.box 85 cs]
section
variable {n:Nat}{tk:List Tk}{pl:Nat}{s s' : PS}{H:ae}{cs:List AV}
def Oj(h:jn tk pl s H):jn tk pl s (fH pl H cs):=by
 have ij:=h.q.lt;unfold fH;refine⟨?_,by rw[au3 ij];exact h.at',h.b,h.le⟩
 rw[<- tz];exact h.q.box.box
theorem Ta:(aI tk pl s' (fH pl H cs)).length=H.length+2:=by rw[bF];unfold fH;rw[UK]
def aaS(h:jn tk pl s H):(aI tk pl s' (fH pl H cs))[H.length]?=some (.box 72 [.ref pl 0]):=by
 rw[j4 h.q.lt];unfold fH;rw[List.getElem?_append_right (Nat.le_refl _)];simp
def aaR(h:jn tk pl s H):(aI tk pl s' (fH pl H cs))[H.length+1]?=some (.box 85 cs):=by
 have:=h.q.lt
 rw[j4 ah];unfold fH;rw[List.getElem?_append_right ah];simp
def Tb(h:jn tk pl s H){cs':List AV} : (aI tk pl s' (fH pl H cs)).set (H.length+1) (.box 85 cs')=aI tk pl s' (fH pl H cs'):=by
 have:=h.q.lt
 rw[pO ah];unfold fH;rw[List.set_append_right _ _ ah];simp
theorem G4{L:List aB}(h:rM L n kd a s=some r):∃ fd,r.1=a++[fd]/\rM L n kd [] s=some ([fd],r.2):=by
 unfold rM at h ⊢;simp only[auP] at h
 grind
def sQ(h:rM (az tk) n kd a s=some r):Lq tk s r.2:=by
 unfold rM at h;simp only[auP] at h;obtain⟨w,hw,rfl⟩:=h;have h1:=(fJ (tk:=tk) (s:=s)).tr (mh _ _ _ hw);cases decide (kd=4) with
 | true=>exact h1.tr (Ih ah)
 | false=>exact h1
theorem ZU(hn:n<=1000000)(h0:jn tk pl s H){nm:aB}{rest:List AV} :
  He 3 n tk pl (H.length+2) 56 [] [.ref H.length 0,.ref (H.length+1) 0] (rM (az tk) n kd) (fun b sl s1 K=>K=aI tk pl s1 (fH pl H (.int .i64 kd :: .str nm :: NL (sl.map fF) :: rest))/\s1.i<=tk.length) List.length where
 at':=fun b a s1 K hJ=>by rw[hJ.1];exact (Oj h0).to hJ.2
 set:=fun b a s1 s2 K hJ hl=>by rw[hJ.1];exact⟨fK,hl⟩
 el:=fun b a s1 K r hJ hz he=>by
  obtain⟨rfl,hl⟩:=hJ;obtain⟨fd,e1,e2⟩:=G4 he;have hp:=(Oj (cs:=.int .i64 kd :: .str nm :: NL (a.map fF) :: rest) h0).to hl;have ij:=h0.q.lt;refine⟨_,akH (k:=3) ah (B2.mk (fl:=H.length+1) (rows:=a.map fF) hp hn (aaS h0) (aaR h0) rfl ij ah (by rw[List.length_map];exact hz) HE e2),?_,(sQ he).le hl⟩
  rw[fK,Tb h0,e1]
  congr 2
  simp only[aw1,axh,List.map_append,au9,avC];cases a<;>rfl
 sz:=fun a s1 r he=>by
  grind [G4]
 fin:=fun a s1 K T gen hJ=>by
  obtain⟨rfl,hl⟩:=hJ;have hp:=(Oj (cs:=.int .i64 kd :: .str nm :: NL (a.map fF) :: rest) h0).to hl;have:=hp.ahH (s':=s1) (T:=T) (gen:=gen)
  grind [fK,Ta]
 fc:=rfl
theorem acG{fn:ax}{base:Nat}(hm:fn.muts.elem 777777=true):∀ e s,AD base fn.results (fun y=>(ng y.1,y.2)=x) e s->dn fn base x e s:=by
 intro e s h;have key:ca (fin base fn.results s) (fun y=>(ng y.1,y.2)=x)->finish base fn s=some x:=fun h=>by
  obtain⟨y,h1,h2⟩:=h;have:=pd (fn:=fn) h1
  grind [Dj]
 cases e with
 | exit i=>exact h.elim
 | normal=>exact key h
 | ret=>exact key h
def ad5{w:aB}(h:¬ mP w fI 0<0):w≠[]:=fun e=>by subst e;exact h a8
theorem Ye(w:aB):-1<=mP w fI 0/\mP w fI 0<=5:=by
 unfold fI;simp only[mP]
 grind
def Tn{H:ae}(hR:Fc n args H x):args.length=vP.np/\D (PA 3 n) vP.body ⟨fm args,H,H.length,0⟩ (dn vP H.length x):=by
 cases hR with
 | @mk tk pl s H f s' h hn he =>
 refine⟨rfl,?_⟩;have ij:=h.q.lt;have hG:=fun cs=>Oj (cs:=cs) h
 have BK:∀ M,(M=[]\/∃ cs,M=[.box 85 cs])->aj (PA 3 n) 52 [.ref pl 0] (H++[.box 72 [.ref pl 0]]++M)=some (.str (pk (az tk) s),none):=fun M hM=>by
  rcases hM with rfl|⟨cs,rfl⟩
  ·rw[List.append_nil]
   exact OZ (k:=3) (n:=n) ⟨h.q.box,by rw[au3 ij];exact h.at',h.b,h.le⟩
  ·rw[tz]
   exact OZ (k:=3) (n:=n) (hG cs)
 have hix:∀ H,aj (PA 3 n) 54 [.slice (strs fI) false,.str (pk (az tk) s)] H=some (.int .i64 (mP (pk (az tk) s) fI 0),none):=fun H=>cP rfl (OK fI (pk (az tk) s) H a8)
 unfold tB at he;simp only at he;generalize MB:mP (pk (az tk) s) fI 0=kd at *;have CV:vP.results=[.cell 2 true 14]:=rfl;refine jL _ _ ?_ (acG (fn:=vP) rfl);refine (show D (PA 3 n) (.seq (.region _) (.seq (vP.body.sub [true,false]) (vP.body.sub [true,true]))) _ _ from ?_)
 generalize hX:vP.body.sub [true,true]=X;rw[fi,cr rfl];simp(disch:=omega)only[aO,aa,simprocAttr,wN];rw[fi];refine ahK (n:=n) (w:=pk (az tk) s) (k:=kd) ij BK hix (by simp(disch:=omega)only[aO,aa,simprocAttr]) fun T q1 q2 q3=>?_
 simp(disch:=omega)only[aO,aa,simprocAttr] at q1 q2;rw[kL];refine PH ?_;rw[<- hX];rw[tz];have e0:=(hG [.int .i64 kd,.str [],.aq,.str [],.aq,.int .i64 0,.int .i64 0,.str [],.str [],.str [],.aq,.aq,.aq,.aq]).eq;rw[show H++[bM.box 72 [.ref pl 0],.box 85 [.int .i64 kd,.str [],.aq,.str [],.aq,.int .i64 0,.int .i64 0,.str [],.str [],.str [],.aq,.aq,.aq,.aq]]=aI tk pl s (fH pl H [.int .i64 kd,.str [],.aq,.str [],.aq,.int .i64 0,.int .i64 0,.str [],.str [],.str [],.aq,.aq,.aq,.aq]) from e0]
 have tC:=fun s' cs=>aaS (s':=s') (cs:=cs) h
 have gfl:=fun s' cs=>aaR (s':=s') (cs:=cs) h
 have vM:=fun s' cs cs'=>Tb (s':=s') (cs:=cs) (cs':=cs') h
 have gat:=fun s' cs=>WV (s:=s') (hG cs)
 have gsp:∀ i (b:Bool) s' cs,(aI tk pl s' (fH pl H cs)).set pl (.box 74 [.slice (tk.map gL) false,.int .i64 (i:Nat),.bool b])=aI tk pl ⟨i,b⟩ (fH pl H cs):=fun i b s' cs=>uU
 have ac6:∀ i (b:Bool) s' cs,(aI tk pl s' (fH pl H cs)).set pl (.box 74 [.slice (tk.map gL) false,.int .i64 ((i:Nat)+1),.bool b])=aI tk pl ⟨i+1,b⟩ (fH pl H cs):=fun i b s' cs=>rI
 have JX:∀ s' cs,(aI tk pl s' (fH pl H cs)).take H.length=aI tk pl s' H:=fun s' cs=>Al ij
 have gop:∀ s' cs,l7 H.length pl (aI tk pl s' (fH pl H cs))=true:=fun s' cs=>by
  have:=h.q.open (tk:=tk) (s:=s')
  unfold l7 at this ⊢;rw[JX]
  rwa [dK] at this
 have D8:decide (H.length<pl)=false:=dw;have nN:decide (H.length+1<pl)=false:=dw;have hxx:decide (pl<pl)=false:=ag;have hpe:Nat.beq pl H.length=false:=ae3 ah;cases zh:decide (kd<0) with
 | true =>
  rw[zh,cond_true] at he;injection he with he
  injection he with lO iY
  subst lO iY;unfold vP;simp only[aH.sub];obtain⟨i,b⟩:=s;unfold PS.wX;simp(disch:=omega)only[aO,aa,simprocAttr,q1,q2,q3,tC,gfl,gat,gsp,JX,gop,zh,au,bS,ab,jA,cH,dJ,cG,cV,bZ,tm0,Tm.kind,Tm.n,Tm.name,Tm.field,Tm.wn,Tm.wk,Tm.kids,Tm.names,aG,aC,strs]
  done
 | false =>
  rw[zh,cond_false] at he;simp only[auQ] at he;obtain⟨⟨sl,s2⟩,hl,he⟩:=he;have dp:pk (az tk) s≠[]:=ad5 (by rw[MB];simpa using zh)
  have aZ:=tK dp;have lu:s.up.i<=tk.length:=aZ;have sJ:=fun cs=>GD (k:=3) (n:=n) (s:=s.up) (hG cs) lu
  have ln:=jQ (tk:=tk) lu;generalize aL (az tk) s.up=q at *;obtain⟨nm,s1⟩:=q;simp only at sJ ln hl he;have QA:=fun cs=>A7 (k:=3) (n:=n) (s:=s1) (hG cs) ln (w:=[40]) ag
  have lw:=gA (tk:=tk) (w:=[40]) ag ln;obtain⟨K',hc,b,rfl,l2⟩:=Ie (ZU hn h (rest:=[.str [],.aq,.int .i64 0,.int .i64 0,.str [],.str [],.str [],.aq,.aq,.aq,.aq])) (H:=aI tk pl (aY (az tk) [40] s1) (fH pl H (.int .i64 kd :: .str nm :: .aq :: [.str [],.aq,.int .i64 0,.int .i64 0,.str [],.str [],.str [],.aq,.aq,.aq,.aq]))) Ta (fin:=[41]) ag ⟨rfl,lw⟩ dw hl;simp only at hc l2 he;have HR:∀ r∈sl.map fF,r.map n1=r:=fun r hr=>by
   obtain⟨fd,_,rfl⟩:=List.mem_map.1 hr;rfl
  have hsd:∃ sd,(NL (sl.map fF)).drop=sd/\sd.drop=sd/\aM sd=true/\n2 sd=.slice (sl.map fF) false/\∀ b,AV.bz b sd=true:=by
   cases sl with
   | nil=>exact⟨.aq,rfl,rfl,rfl,rfl,fun _=>rfl⟩
   | cons a r =>
    refine⟨.slice ((a :: r).map fF) false,rfl,rfl,rfl,?_,fun _=>rfl⟩
    rw[fp]
    congr 1
    conv=>rhs;rw[<- axT ((a :: r).map fF)]
    exact List.map_congr_left HR
  obtain⟨sd,d1,d2,d3,d4,d5⟩:=hsd;generalize NL (sl.map fF)=sc at *;have hrg:=Ye (pk (az tk) s);rw[MB] at hrg;cases zi:(decide (kd=0) || decide (kd=1)) with
  | true =>
   rw[zi,cond_true] at he;injection he with he
   injection he with lO iY
   subst lO iY;unfold vP;simp only[aH.sub];unfold PS.up at sJ;obtain⟨i,b⟩:=s;have w5:=h.b.len;simp only at sJ aZ;have h01:kd=0\/kd=1:=cT zi
   rcases h01 with rfl|rfl
   ·simp(disch:=omega)only[aO,aa,simprocAttr,q1,q2,q3,tC,gfl,gat,vM,ac6,sJ,QA,hc,JX,gop,nN,hxx,au,bS,ab,d1,d2,d3,d4,d5,cH,dJ,cG,cV,bZ,tm0,Tm.kind,Tm.n,Tm.name,Tm.field,Tm.wn,Tm.wk,Tm.kids,Tm.names,aG,aC,strs]
   ·simp(disch:=omega)only[aO,aa,simprocAttr,q1,q2,q3,tC,gfl,gat,vM,ac6,sJ,QA,hc,JX,gop,nN,hxx,au,bS,ab,d1,d2,d3,d4,d5,cH,dJ,cG,cV,bZ,tm0,Tm.kind,Tm.n,Tm.name,Tm.field,Tm.wn,Tm.wk,Tm.kids,Tm.names,aG,aC,strs]
  | false =>
   rw[zi,cond_false] at he;simp only[auQ,auP] at he;obtain⟨⟨w,s3⟩,hw,⟨t1,s4⟩,hx,he⟩:=he;injection he with lO iY
   simp only at lO iY hx;subst lO iY;have hwd:=fun cs=>(show aj (PA 3 n) 57 [.ref pl 0] (aI tk pl s2 (fH pl H cs))=some (.agg (gR w),some ⟨aI tk pl s3 (fH pl H cs),pl⟩) from by
    have:=ab8 (k:=3) (n:=n) ((hG cs).to l2) hw
    rwa [fK] at this)
   have l3:=(mh _ _ _ hw).le l2;simp only at l3;have aon:=fun cs=>A7 (k:=3) (n:=n) (s:=s3) (hG cs) l3 (w:=[61]) ag
   have l4:=gA (tk:=tk) (w:=[61]) ag l3;have hex:=fun cs=>Og (k:=3) (hG cs) hn l4 hx
   have ew:=iu w;have et:=ai t1;rw[ew] at hwd;rw[et] at hex;generalize aY (az tk) [61] s3=s5 at *;unfold PS.up at sJ;obtain⟨i,b⟩:=s;have w5:=h.b.len;simp only at sJ aZ;simp only[avz,ave] at zi;have hk2:(kd != 0)=true:=by simp;exact zi.1
   have hk3:(kd != 1)=true:=by simp;exact zi.2
   unfold vP;simp only[aH.sub];simp(disch:=omega)only[aO,aa,simprocAttr,q1,q2,q3,tC,gfl,gat,vM,ac6,sJ,QA,hc,hwd,aon,hex,hk2,hk3,JX,gop,zh,nN,hxx,au,bS,ab,d1,d2,d3,d4,d5,cH,dJ,cG,cV,fp,KD,Dk,YX,bZ,Tm.kind,Tm.n,Tm.name,Tm.field,Tm.wn,Tm.wk,Tm.kids,Tm.names];rfl
end
end
end Go.Proofs.YtnhpoddlmjpapaaGreatDoor
namespace Go.Proofs
open Go.Shelf
def YtnhpoddlmjpapaaGreatDoor.Kp:Go.Shelf.Ren:=⟨fun|172=>121|244=>134|245=>135|247=>146|279=>147|280=>148|281=>149|282=>150|287=>160|316=>161|171=>64|205=>162|321=>166|322=>167|243=>99|246=>124|283=>140|284=>141|285=>142|286=>143|129=>153|317=>152|318=>154|319=>155|320=>156|337=>163|338=>164|n=>n,fun|9=>9|3=>3|75=>129|76=>130|4=>4|5=>5|167=>191|37=>123|0=>0|85=>192|2=>2|168=>194|53=>185|175=>204|46=>202|210=>208|127=>161|145=>216|143=>214|21=>21|171=>184|173=>188|212=>198|51=>199|20=>20|213=>200|232=>217|233=>218|80=>54|n=>n,fun|15=>7|16=>8|17=>6|18=>9|19=>10|n=>n⟩
def YtnhpoddlmjpapaaGreatDoor.H9:Go.Proofs.LaysC.n172 Tryz.prog YtnhpoddlmjpapaaGreatDoor.Kp:={
 mixed:=by kernel_rfl
 f129:=tk Tryz.func153 (by kernel_rfl)
 f171:=tk Tryz.func64 (by kernel_rfl)
 f172:=tk Tryz.func121 (by kernel_rfl)
 f205:=tk Tryz.func162 (by kernel_rfl)
 f243:=tk Tryz.func99 (by kernel_rfl)
 f244:=tk Tryz.func134 (by kernel_rfl)
 f245:=tk Tryz.func135 (by kernel_rfl)
 f246:=tk Tryz.func124 (by kernel_rfl)
 f247:=tk Tryz.func146 (by kernel_rfl)
 f279:=tk Tryz.func147 (by kernel_rfl)
 f280:=tk Tryz.func148 (by kernel_rfl)
 f281:=tk Tryz.func149 (by kernel_rfl)
 f282:=tk Tryz.func150 (by kernel_rfl)
 f283:=tk Tryz.func140 (by kernel_rfl)
 f284:=tk Tryz.func141 (by kernel_rfl)
 f285:=tk Tryz.func142 (by kernel_rfl)
 f286:=tk Tryz.func143 (by kernel_rfl)
 f287:=tk Tryz.func160 (by kernel_rfl)
 f316:=tk Tryz.func161 (by kernel_rfl)
 f317:=tk Tryz.func152 (by kernel_rfl)
 f318:=tk Tryz.func154 (by kernel_rfl)
 f319:=tk Tryz.func155 (by kernel_rfl)
 f320:=tk Tryz.func156 (by kernel_rfl)
 f321:=tk Tryz.func166 (by kernel_rfl)
 f322:=tk Tryz.func167 (by kernel_rfl)
 f337:=tk Tryz.func163 (by kernel_rfl)
 f338:=tk Tryz.func164 (by kernel_rfl)
 t0:=Tryz.underlying0
 a0:=Tryz.isAgg0
 z0:=Tryz.sizeOf0
 v0:=Tryz.zeroValue0
 t2:=Tryz.underlying2
 a2:=Tryz.isAgg2
 z2:=Tryz.sizeOf2
 v2:=Tryz.zeroValue2
 t3:=Tryz.underlying3
 a3:=Tryz.isAgg3
 z3:=Tryz.sizeOf3
 v3:=Tryz.zeroValue3
 t4:=Tryz.underlying4
 a4:=Tryz.isAgg4
 z4:=Tryz.sizeOf4
 v4:=Tryz.zeroValue4
 t5:=Tryz.underlying5
 a5:=Tryz.isAgg5
 z5:=Tryz.sizeOf5
 v5:=Tryz.zeroValue5
 t9:=Tryz.underlying9
 a9:=Tryz.isAgg9
 z9:=Tryz.sizeOf9
 v9:=Tryz.zeroValue9
 t20:=Tryz.underlying20
 a20:=Tryz.isAgg20
 z20:=Tryz.sizeOf20
 v20:=Tryz.zeroValue20
 t21:=Tryz.underlying21
 a21:=Tryz.isAgg21
 z21:=Tryz.sizeOf21
 v21:=Tryz.zeroValue21
 t37:=Tryz.underlying123
 a37:=Tryz.isAgg123
 z37:=Tryz.sizeOf123
 v37:=Tryz.zeroValue123
 t46:=Tryz.underlying202
 a46:=Tryz.isAgg202
 z46:=Tryz.sizeOf202
 v46:=Tryz.zeroValue202
 t51:=Tryz.underlying199
 a51:=Tryz.isAgg199
 z51:=Tryz.sizeOf199
 v51:=Tryz.zeroValue199
 t53:=Tryz.underlying185
 a53:=Tryz.isAgg185
 z53:=Tryz.sizeOf185
 v53:=Tryz.zeroValue185
 t75:=Tryz.underlying129
 a75:=Tryz.isAgg129
 z75:=Tryz.sizeOf129
 v75:=Tryz.zeroValue129
 t76:=Tryz.underlying130
 a76:=Tryz.isAgg130
 z76:=Tryz.sizeOf130
 v76:=Tryz.zeroValue130
 t85:=Tryz.underlying192
 a85:=Tryz.isAgg192
 z85:=Tryz.sizeOf192
 v85:=Tryz.zeroValue192
 t127:=Tryz.underlying161
 a127:=Tryz.isAgg161
 z127:=Tryz.sizeOf161
 v127:=Tryz.zeroValue161
 t143:=Tryz.underlying214
 a143:=Tryz.isAgg214
 z143:=Tryz.sizeOf214
 v143:=Tryz.zeroValue214
 t145:=Tryz.underlying216
 a145:=Tryz.isAgg216
 z145:=Tryz.sizeOf216
 v145:=Tryz.zeroValue216
 t167:=Tryz.underlying191
 a167:=Tryz.isAgg191
 z167:=Tryz.sizeOf191
 v167:=Tryz.zeroValue191
 t168:=Tryz.underlying194
 a168:=Tryz.isAgg194
 z168:=Tryz.sizeOf194
 v168:=Tryz.zeroValue194
 t171:=Tryz.underlying184
 a171:=Tryz.isAgg184
 z171:=Tryz.sizeOf184
 v171:=Tryz.zeroValue184
 t173:=Tryz.underlying188
 a173:=Tryz.isAgg188
 z173:=Tryz.sizeOf188
 v173:=Tryz.zeroValue188
 t175:=Tryz.underlying204
 a175:=Tryz.isAgg204
 z175:=Tryz.sizeOf204
 v175:=Tryz.zeroValue204
 t210:=Tryz.underlying208
 a210:=Tryz.isAgg208
 z210:=Tryz.sizeOf208
 v210:=Tryz.zeroValue208
 t212:=Tryz.underlying198
 a212:=Tryz.isAgg198
 z212:=Tryz.sizeOf198
 v212:=Tryz.zeroValue198
 t213:=Tryz.underlying200
 a213:=Tryz.isAgg200
 z213:=Tryz.sizeOf200
 t232:=Tryz.underlying217
 a232:=Tryz.isAgg217
 z232:=Tryz.sizeOf217
 v232:=Tryz.zeroValue217
 t233:=Tryz.underlying218
 a233:=Tryz.isAgg218
 z233:=Tryz.sizeOf218
 v233:=Tryz.zeroValue218
 g15:=by kernel_rfl
 g16:=by kernel_rfl
 g17:=by kernel_rfl
 g18:=by kernel_rfl
 g19:=by kernel_rfl
 t80:=Tryz.underlying54
 a80:=Tryz.isAgg54
 z80:=Tryz.sizeOf54
 v80:=Tryz.zeroValue54
 i0:=by kernel_rfl
 i2:=by kernel_rfl
 i3:=by kernel_rfl
 i4:=by kernel_rfl
 i5:=by kernel_rfl
 i9:=by kernel_rfl
 i20:=by kernel_rfl
 i21:=by kernel_rfl
 i37:=by kernel_rfl
 i46:=by kernel_rfl
 i51:=by kernel_rfl
 i53:=by kernel_rfl
 i75:=by kernel_rfl
 i76:=by kernel_rfl
 i80:=by kernel_rfl
 i85:=by kernel_rfl
 i127:=by kernel_rfl
 i143:=by kernel_rfl
 i145:=by kernel_rfl
 i167:=by kernel_rfl
 i168:=by kernel_rfl
 i171:=by kernel_rfl
 i173:=by kernel_rfl
 i175:=by kernel_rfl
 i210:=by kernel_rfl
 i212:=by kernel_rfl
 i232:=by kernel_rfl
 i233:=by kernel_rfl
 m15:=by kernel_rfl
 m16:=by kernel_rfl
 m17:=by kernel_rfl
 m18:=by kernel_rfl
 m19:=by kernel_rfl
 c0:=by kernel_rfl
 c2:=by kernel_rfl
 c3:=by kernel_rfl
 c4:=by kernel_rfl
 c5:=by kernel_rfl
 c9:=by kernel_rfl
 c20:=by kernel_rfl
 c21:=by kernel_rfl
 c37:=by kernel_rfl
 c46:=by kernel_rfl
 c51:=by kernel_rfl
 c53:=by kernel_rfl
 c75:=by kernel_rfl
 c76:=by kernel_rfl
 c80:=by kernel_rfl
 c85:=by kernel_rfl
 c127:=by kernel_rfl
 c143:=by kernel_rfl
 c145:=by kernel_rfl
 c167:=by kernel_rfl
 c168:=by kernel_rfl
 c171:=by kernel_rfl
 c173:=by kernel_rfl
 c175:=by kernel_rfl
 c210:=by kernel_rfl
 c212:=by kernel_rfl
 c213:=by kernel_rfl
 c232:=by kernel_rfl
 c233:=by kernel_rfl }
def YtnhpoddlmjpapaaGreatDoor.Kq:Go.Shelf.Ren:=⟨fun|171=>64|243=>99|246=>124|283=>140|284=>141|285=>142|286=>143|129=>153|317=>152|318=>154|319=>155|320=>156|337=>163|338=>164|n=>n,fun|3=>3|9=>9|2=>2|4=>4|171=>184|0=>0|53=>185|37=>123|5=>5|173=>188|212=>198|51=>199|20=>20|213=>200|46=>202|232=>217|233=>218|n=>n,fun|17=>6|18=>9|19=>10|n=>n⟩
def YtnhpoddlmjpapaaGreatDoor.YC:Go.Proofs.LaysM.n171 Tryz.prog YtnhpoddlmjpapaaGreatDoor.Kq:={
 mixed:=by kernel_rfl
 f129:=tk Tryz.func153 (by kernel_rfl)
 f171:=tk Tryz.func64 (by kernel_rfl)
 f243:=tk Tryz.func99 (by kernel_rfl)
 f246:=tk Tryz.func124 (by kernel_rfl)
 f283:=tk Tryz.func140 (by kernel_rfl)
 f284:=tk Tryz.func141 (by kernel_rfl)
 f285:=tk Tryz.func142 (by kernel_rfl)
 f286:=tk Tryz.func143 (by kernel_rfl)
 f317:=tk Tryz.func152 (by kernel_rfl)
 f318:=tk Tryz.func154 (by kernel_rfl)
 f319:=tk Tryz.func155 (by kernel_rfl)
 f320:=tk Tryz.func156 (by kernel_rfl)
 f337:=tk Tryz.func163 (by kernel_rfl)
 f338:=tk Tryz.func164 (by kernel_rfl)
 t0:=Tryz.underlying0
 a0:=Tryz.isAgg0
 z0:=Tryz.sizeOf0
 v0:=Tryz.zeroValue0
 t2:=Tryz.underlying2
 a2:=Tryz.isAgg2
 z2:=Tryz.sizeOf2
 v2:=Tryz.zeroValue2
 t3:=Tryz.underlying3
 a3:=Tryz.isAgg3
 z3:=Tryz.sizeOf3
 v3:=Tryz.zeroValue3
 t4:=Tryz.underlying4
 a4:=Tryz.isAgg4
 z4:=Tryz.sizeOf4
 v4:=Tryz.zeroValue4
 t5:=Tryz.underlying5
 a5:=Tryz.isAgg5
 z5:=Tryz.sizeOf5
 v5:=Tryz.zeroValue5
 t9:=Tryz.underlying9
 a9:=Tryz.isAgg9
 z9:=Tryz.sizeOf9
 v9:=Tryz.zeroValue9
 t20:=Tryz.underlying20
 a20:=Tryz.isAgg20
 z20:=Tryz.sizeOf20
 v20:=Tryz.zeroValue20
 t37:=Tryz.underlying123
 a37:=Tryz.isAgg123
 z37:=Tryz.sizeOf123
 v37:=Tryz.zeroValue123
 t46:=Tryz.underlying202
 a46:=Tryz.isAgg202
 z46:=Tryz.sizeOf202
 v46:=Tryz.zeroValue202
 t51:=Tryz.underlying199
 a51:=Tryz.isAgg199
 z51:=Tryz.sizeOf199
 v51:=Tryz.zeroValue199
 t53:=Tryz.underlying185
 a53:=Tryz.isAgg185
 z53:=Tryz.sizeOf185
 v53:=Tryz.zeroValue185
 t171:=Tryz.underlying184
 a171:=Tryz.isAgg184
 z171:=Tryz.sizeOf184
 v171:=Tryz.zeroValue184
 t173:=Tryz.underlying188
 a173:=Tryz.isAgg188
 z173:=Tryz.sizeOf188
 v173:=Tryz.zeroValue188
 t212:=Tryz.underlying198
 a212:=Tryz.isAgg198
 z212:=Tryz.sizeOf198
 v212:=Tryz.zeroValue198
 t213:=Tryz.underlying200
 a213:=Tryz.isAgg200
 z213:=Tryz.sizeOf200
 t232:=Tryz.underlying217
 a232:=Tryz.isAgg217
 z232:=Tryz.sizeOf217
 v232:=Tryz.zeroValue217
 t233:=Tryz.underlying218
 a233:=Tryz.isAgg218
 z233:=Tryz.sizeOf218
 v233:=Tryz.zeroValue218
 g17:=by kernel_rfl
 g18:=by kernel_rfl
 g19:=by kernel_rfl
 i0:=by kernel_rfl
 i2:=by kernel_rfl
 i3:=by kernel_rfl
 i4:=by kernel_rfl
 i5:=by kernel_rfl
 i9:=by kernel_rfl
 i20:=by kernel_rfl
 i37:=by kernel_rfl
 i46:=by kernel_rfl
 i51:=by kernel_rfl
 i53:=by kernel_rfl
 i171:=by kernel_rfl
 i173:=by kernel_rfl
 i212:=by kernel_rfl
 i232:=by kernel_rfl
 i233:=by kernel_rfl
 m17:=by kernel_rfl
 m18:=by kernel_rfl
 m19:=by kernel_rfl }
def YtnhpoddlmjpapaaGreatDoor.Ia:Go.Shelf.Ren:=⟨fun|137=>67|217=>110|266=>132|n=>n,fun|9=>9|5=>5|3=>3|n=>n,fun|n=>n⟩
def YtnhpoddlmjpapaaGreatDoor.UH:Go.Proofs.Lays.n137 Tryz.prog YtnhpoddlmjpapaaGreatDoor.Ia:={
 mixed:=by kernel_rfl
 f137:=tk Tryz.func67 (by kernel_rfl)
 f217:=tk Tryz.func110 (by kernel_rfl)
 f266:=tk Tryz.func132 (by kernel_rfl)
 t3:=Tryz.underlying3
 a3:=Tryz.isAgg3
 z3:=Tryz.sizeOf3
 v3:=Tryz.zeroValue3
 t5:=Tryz.underlying5
 a5:=Tryz.isAgg5
 z5:=Tryz.sizeOf5
 v5:=Tryz.zeroValue5
 t9:=Tryz.underlying9
 a9:=Tryz.isAgg9
 z9:=Tryz.sizeOf9
 v9:=Tryz.zeroValue9 }
def YtnhpoddlmjpapaaGreatDoor.FE:Go.Shelf.Ren:=⟨fun|217=>110|266=>132|n=>n,fun|9=>9|5=>5|3=>3|n=>n,fun|n=>n⟩
def YtnhpoddlmjpapaaGreatDoor.QP:Go.Proofs.Lays.n217 Tryz.prog YtnhpoddlmjpapaaGreatDoor.FE:={
 mixed:=by kernel_rfl
 f217:=tk Tryz.func110 (by kernel_rfl)
 f266:=tk Tryz.func132 (by kernel_rfl)
 t3:=Tryz.underlying3
 a3:=Tryz.isAgg3
 z3:=Tryz.sizeOf3
 v3:=Tryz.zeroValue3
 t5:=Tryz.underlying5
 a5:=Tryz.isAgg5
 z5:=Tryz.sizeOf5
 v5:=Tryz.zeroValue5
 t9:=Tryz.underlying9
 a9:=Tryz.isAgg9
 z9:=Tryz.sizeOf9
 v9:=Tryz.zeroValue9 }
end Go.Proofs
namespace Go.Proofs.YtnhpoddlmjpapaaGreatDoor
open Go Go.Abs Go.Proofs Go.Shelf RowKit
variable {r x y:AV}{vs:Array Value}{g:Nat}{P:Program}{v:Value}
section
def Ub(s:ByteArray)(c:Int)(w:World):Calls Tryz.prog 67 #[.string s,.int .u8 c] w fun e w'=>e=.returned (.int .i64 (Lib.indexByte s.data.toList c.toNat.toUInt8))/\w'=w:=Any.strings_IndexByte UH s c w
def QG(s:ByteArray)(c:Int)(w:World):Calls Tryz.prog 110 #[.string s,.int .u8 c] w fun e w'=>e=.returned (.int .i64 (Lib.indexByte s.data.toList c.toNat.toUInt8))/\w'=w:=Any.stringslite_IndexByte QP s c w
def Yq(n:Int)(h0:-9223372036854775808<=n)(h1:n<=9223372036854775807)(w:World)(aod:Lib.TabIs Tryz.prog w "internal/strconv.uint64pow10" .u64 Lib.pow10Tab) :
  Calls Tryz.prog 64 #[.int .i64 n] w fun e w'=>e=.returned (.string ⟨(Lib.itoa n).toArray⟩)/\∃ k os,w'=Sort.grow (w.drewN k) os:=Any.strconv_Itoa YC n h0 h1 w aod
def WW(s:ByteArray)(TP:s.size<=9223372036854775806)(v:Int)(h:Lib.atoiAll s.data.toList=.ok v)(w:World) :
  Calls Tryz.prog 121 #[.string s] w fun e w'=>e=.returned (.tuple #[.int .i64 v,.nilIface])/\(w'=w\/∃ t,w'=Lib.bytesWorld w 5 t):=Any.strconv_Atoi_ok H9 s TP v h w
def Sk(s:ByteArray)(adH:s.size<=281474976710656)(h1:∀ v,Lib.atoiAll s.data.toList≠.ok v)(h2:Lib.atoiAll s.data.toList≠.range)(ev:Value)(w:World)(hv:w.cell? ⟨7,0,none⟩=some ev)(cu:ev=.nilIface\/∃ te pe,ev=.iface te pe) :
  Calls Tryz.prog 121 #[.string s] w fun e w'=>∃ N,e=.returned (.tuple #[.int .i64 (0),.iface 194 (.pointer (some ⟨N,0,none⟩))])/\Below w.heap.size w w' :=
 (Any.strconv_Atoi_syntax H9 s adH (by
  generalize Lib.atoiAll s.data.toList=x at h1 h2
  cases x<;>first|rfl|exact absurd rfl (h1 _)|exact absurd rfl h2) ev w hv cu).mono fun e w' ⟨N,h1,_,_,h4⟩=>⟨N,h1,h4⟩
def LW(s:ByteArray)(adH:s.size<=281474976710656)(h:Lib.atoiAll s.data.toList=.range)(ev:Value)(w:World)(hv:w.cell? ⟨8,0,none⟩=some ev)(cu:ev=.nilIface\/∃ te pe,ev=.iface te pe) :
  Calls Tryz.prog 121 #[.string s] w fun e w'=>∃ N,e=.returned (.tuple #[.int .i64 (Lib.atoiSat s.data.toList),.iface 194 (.pointer (some ⟨N,0,none⟩))])/\Below w.heap.size w w' :=
 (Any.strconv_Atoi_range H9 s adH h ev w hv cu).mono fun e w' ⟨N,h1,_,_,h4⟩=>⟨N,h1,h4⟩
section
variable {G:Nat->List AV}{base:Nat}{gh:Gh}{w w' : World}{H:ae}
def DQ(hW:bf G base H gh w)(hb:Below w.heap.size w w')(n:Nat):Step (fun _=>False) n gh w gh w':=by
 refine⟨fun _ _ h=>h,fun b o h=>cell_of_heap (hb.block b (hW.pN b o h)),hb.size,hb.os,hb.tape,hb.output,fun b aZ _=>⟨.inl (hb.block b aZ),rfl,fun _ h=>h⟩,fun b iJ=>hW.cA b iJ,fun _ _=>rfl,fun b ty m hm=>?_,fun b E ck hs h0=>(hb.block b (hW.pN b 0 hs)).trans h0⟩
 obtain⟨C,fr,h1,h2⟩:=hm;exact⟨C,fr,by rw[hb.block b (auZ.1 h1).1];exact h1,h2⟩
def mK(hW:bf G base H gh w)(hb:Below w.heap.size w w')(hv:VR gh H.length w' v r):oY G base H gh w r none v gh w' :=
 ⟨Nat.le_refl _,hW.step (DQ hW hb H.length) (fun l=>⟨id,fun _=>id⟩) (fun b o h=>awb (hW.pN b o h) hb.size) (fun b h=>⟨(hW.qN b h).1,awb (hW.qN b h).2 hb.size⟩) (fun _ _ _ h=>.inl h),
  (DQ hW hb H.length).mono (fun _ h=>h.elim),fun _ h=>h,.inl hv⟩
def o6:jF H none:=⟨Nat.le_refl _,fun c h=>by cases h⟩
def FP(hs:vs.size=[x].length)(h:∀ (j:Nat) (v:Value) (y:AV),vs[j]?=some v->[x][j]?=some y->VR gh H.length w v y):∃ v,vs=#[v]/\VR gh H.length w v x:=by
 obtain⟨l⟩:=vs
 match l,hs with
 | [v],_=>exact⟨v,rfl,h 0 v x rfl rfl⟩
def aaA(hs:vs.size=[x,y].length)(h:∀ (j:Nat) (v:Value) (z:AV),vs[j]?=some v->[x,y][j]?=some z->VR gh H.length w v z):∃ u v,vs=#[u,v]/\VR gh H.length w u x/\VR gh H.length w v y:=by
 obtain⟨l⟩:=vs
 match l,hs with
 | [u,v],_=>exact⟨u,v,rfl,h 0 u x rfl rfl,h 1 v y rfl rfl⟩
end
theorem wQ:∀ (f n:Nat) (acc:List UInt8),n<f->gO f n acc=Lib.decDigits n++acc
 | 0,n,acc,h=>absurd h (Nat.not_lt_zero _)
 | f+1,n,acc,h=>by
  unfold gO;rw[Lib.decDigits]
  by_cases hn:n<10
  ·rw[show Nat.blt n 10=true by simpa [avh] using hn,axA hn]
   rfl
  ·rw[show Nat.blt n 10=false by simpa [<- aw9,avh] using hn,axc hn,cond_false,wQ f (n / 10) _ ah]
   simp
theorem Uy(n:Int):rp n=Lib.itoa n:=by
 unfold rp Lib.itoa;cases n with
 | ofNat k =>
  grind [wQ]
 | negSucc k =>
  grind [wQ]
theorem zV(c:Int)(h0:0<=c)(h1:c<256):∀ (l:List UInt8) (k:Nat),dD c k l=if Lib.indexByte l c.toNat.toUInt8=-1 then -1 else Lib.indexByte l c.toNat.toUInt8+k
 | [],k=>by simp[dD,Lib.indexByte]
 | b :: r,k=>by
  have hc:(c.toNat.toUInt8).toNat=c.toNat:=dw;have hb:(b==c.toNat.toUInt8)=decide ((b.toNat:Int)=c):=by
   by_cases h:(b.toNat:Int)=c
   ·have:b=c.toNat.toUInt8:=aw0.1 (by rw[hc];omega)
    grind
   ·grind
  have Qp:∀ l:List UInt8, -1<=Lib.indexByte l c.toNat.toUInt8:=by
   intro l
   induction l with
   | nil=>simp[Lib.indexByte]
   | cons x l ih =>
    simp only[Lib.indexByte]
    grind
  unfold dD Lib.indexByte;rw[hb]
  by_cases h:(b.toNat:Int)=c
  ·simp[h]
  ·have:=Qp r
   simp only[h,decide_false,cond_false,axF,av4];rw[zV c h0 h1 r (k+1)]
   grind
def HF(f:FuncId)(fn:Func)(h:Tryz.prog.funcs[f]?=some fn)(hb:fn.body.isSome=true)(hn:fn.name≠ "runtime.NumGoroutine"):∃ fn,Tryz.prog.funcs[f]?=some fn/\fn.body.isSome=true/\fn.name≠ "runtime.NumGoroutine":=⟨fn,h,hb,hn⟩
theorem AQ{G:Nat->List AV} : fU Tryz.prog G 67 iC:=by
 intro args H r c he;refine⟨HF 67 _ Tryz.func67 Bl a8,?_⟩;unfold iC at he;split at he
 ·rename_i l c'
  obtain⟨h0,he⟩:=al he;simp only[auT,au1] at h0;simp only[auR,auV] at he;obtain⟨rfl,rfl⟩:=he;refine⟨o6,fun base gh w vs hW _ hs dv=>?_⟩
  obtain⟨u,v,rfl,hu,hv⟩:=aaA hs dv;obtain⟨s,rfl,hl⟩:=hu.kE;rw[hv.kC];refine (Ub s c' w).mono ?_
  rintro e w' ⟨rfl,rfl⟩
  refine⟨_,gh,rfl,mK hW (Below.refl _ _) ?_⟩;rw[zV c' h0.1 h0.2 l 0,hl];have:(if Lib.indexByte l c'.toNat.toUInt8=-1 then (-1:Int) else Lib.indexByte l c'.toNat.toUInt8+(0:Nat))=Lib.indexByte l c'.toNat.toUInt8:=by split<;>simp_all
  rw[this];exact .plain _ _ (.int _ _)
 ·cases he
theorem yD{G:Nat->List AV} : fU Tryz.prog G 110 iC:=by
 intro args H r c he;refine⟨HF 110 _ Tryz.func110 Bl a8,?_⟩;unfold iC at he;split at he
 ·rename_i l c'
  obtain⟨h0,he⟩:=al he;simp only[auT,au1] at h0;simp only[auR,auV] at he;obtain⟨rfl,rfl⟩:=he;refine⟨o6,fun base gh w vs hW _ hs dv=>?_⟩
  obtain⟨u,v,rfl,hu,hv⟩:=aaA hs dv;obtain⟨s,rfl,hl⟩:=hu.kE;rw[hv.kC];refine (QG s c' w).mono ?_
  rintro e w' ⟨rfl,rfl⟩
  refine⟨_,gh,rfl,mK hW (Below.refl _ _) ?_⟩;rw[zV c' h0.1 h0.2 l 0,hl];have:(if Lib.indexByte l c'.toNat.toUInt8=-1 then (-1:Int) else Lib.indexByte l c'.toNat.toUInt8+(0:Nat))=Lib.indexByte l c'.toNat.toUInt8:=by split<;>simp_all
  rw[this];exact .plain _ _ (.int _ _)
 ·cases he
theorem LY(w:World)(k:Nat)(os:Array Obj):Below w.heap.size w (Sort.grow (w.drewN k) os):=by
 refine⟨rfl,rfl,rfl,by simp[Sort.grow,World.drewN],fun i hi=>?_⟩
 show (w.heap++os)[i]?=_
 grind
theorem af6{G:Nat->List AV}{base:Nat}{gh:Gh}{w:World}{H:ae}(hW:bf G base H gh w){name:String}(hg:Tryz.prog.globalNamed name=some g){k:IntKind}{zs:List Int}(hG:G g=zs.map (.int k))(dp:zs≠[]) :
  Lib.TabIs Tryz.prog w name k zs:=by
 obtain⟨ty,C,fr,h1,h2⟩:=hW.Bq g (by rw[hG];simpa using dp)
 have hC:C=(zs.map fun z=>Value.int k z).toArray:=by
  apply Array.ext_getElem?;intro j;rw[hG,List.length_map] at h2
  by_cases hj:j<zs.length
  ·have hx:(G g)[j]?=some (.int k zs[j]):=by rw[hG];simp[hj]
   obtain⟨v,hv,hp,_⟩:=hW.aW g j _ hx;rw[cell_of_row w g j C ty fr h1] at hv;cases hp;rw[hv];simp[hj]
  ·grind
 unfold Lib.TabIs World.var?
 grind
theorem C7:fU Tryz.prog xN 64 Dq:=by
 intro args H r c he;refine⟨HF 64 _ Tryz.func64 Bl a8,?_⟩;unfold Dq at he;split at he
 ·rename_i n
  obtain⟨h0,he⟩:=al he;simp only[auT,au1] at h0;simp only[auR,auV] at he;obtain⟨rfl,rfl⟩:=he;refine⟨o6,fun base gh w vs hW _ hs dv=>?_⟩
  obtain⟨u,rfl,hu⟩:=FP hs dv;rw[hu.kC];refine (Yq n h0.1 h0.2 w (af6 hW Bl (g:=6) rfl (by simp[Lib.pow10Tab]))).mono ?_
  rintro e w' ⟨rfl,k,os,rfl⟩
  exact⟨_,gh,rfl,mK hW (LY w k os) (.plain _ _ (.str _ _ (by rw[Uy])))⟩
 ·cases he
def JC{base:Nat}{gh:Gh}{w:World}{H:ae}(hW:bf xN base H gh w)(hG:xN g=[.iface G7 .any]):∃ ev,w.cell? ⟨g,0,none⟩=some ev/\(ev=.nilIface\/∃ te pe,ev=.iface te pe):=by
 obtain⟨v,hv,hp,_⟩:=hW.aW g 0 (.iface G7 .any) (by rw[hG];rfl)
 cases hp with
 | iface _ u _ _=>exact⟨_,hv,.inr ⟨_,_,rfl⟩⟩
theorem NR{gh:Gh}{n:Nat}{w:World}{u:Value}(h1:VR gh n w u x)(h2:VR gh n w v y):VR gh n w (.tuple #[u,v]) (.tuple [x,y]):=by
 refine .tuple _ _ rfl (fun j a b ha hb=>?_)
 grind
theorem B' : fU Tryz.prog xN 121 Dp:=by
 intro args H r c he;refine⟨HF 121 _ Tryz.func121 Bl a8,?_⟩;unfold Dp at he;split at he
 ·rename_i l
  obtain⟨h0,he⟩:=al he;have hlen:l.length<=281474976710656:=by simpa [avm] using h0
  have hc:c=none:=by split at he<;>(simp only[auR,auV] at he;exact he.2.symm)
  subst hc;refine⟨o6,fun base gh w vs hW _ hs dv=>?_⟩
  obtain⟨u,rfl,hu⟩:=FP hs dv;obtain⟨s,rfl,hl⟩:=hu.kE;have po:s.size<=281474976710656:=by
   have:s.size=s.data.toList.length:=ag
   rw[this,hl];exact hlen
  split at he
  ·rename_i v gb
   simp only[auR,auV,avZ] at he;subst he;refine (WW s ah v (by rw[hl];exact gb) w).mono ?_
   rintro e w' ⟨rfl,hw⟩
   refine⟨_,gh,rfl,mK hW ?_ (NR (.plain _ _ (.int _ _)) (.plain _ _ .de))⟩
   rcases hw with rfl|⟨t,rfl⟩
   ·exact Below.refl _ _
   ·exact Lib.bytesWorld_below _ _ _
  ·rename_i gb
   simp only[auR,auV,avZ] at he;subst he;obtain⟨ev,h1,h2⟩:=JC hW (g:=8) rfl;refine (LW s po (by rw[hl];exact gb) ev w h1 h2).mono ?_
   rintro e w' ⟨N,rfl,hb⟩
   rw[hl];exact⟨_,gh,rfl,mK hW hb (NR (.plain _ _ (.int _ _)) (.iface _ _ _ (.plain _ _ (.any _ rfl))))⟩
  ·rename_i mH hnr
   simp only[auR,auV,avZ] at he;subst he;obtain⟨ev,h1,h2⟩:=JC hW (g:=7) rfl;refine (Sk s po (by rw[hl];exact fun v e=>mH v e) (by rw[hl];exact fun e=>hnr e) ev w h1 h2).mono ?_
   rintro e w' ⟨N,rfl,hb⟩
   exact⟨_,gh,rfl,mK hW hb (NR (.plain _ _ (.int _ _)) (.iface _ _ _ (.plain _ _ (.any _ rfl))))⟩
 ·cases he
end
def abY:(Tryz.prog.info? 125).map (·.size)=some 2:=Bl
def ajL:liesAt Tryz.prog Tryz.prog.depth 125 (2 / Tryz.prog.cellsOf 125) 0 125 1=true:=Bl
def PG(b:Nat)(w:World)(h0:w.cell? ⟨b,0,none⟩=some (.pointer (some ⟨b,0,none⟩))) :
  Calls Tryz.prog 112 #[.pointer (some ⟨b,0,none⟩)] w fun e w'=>e=.returned (.tuple #[])/\w'=w:=by
 obtain⟨j,hj,_⟩:=auP.1 abY
 go_enter Tryz.func112,Tryz.ntmps112
 go_wp2
 rw[Lib.run_neq_ptr_same w _ Tryz.underlying122 hj]
 go_wp2
 go_end0
 exact⟨rfl,rfl⟩
def Mb(b:Nat)(w:World)(h0:w.cell? ⟨b,0,none⟩=some (.pointer none))(hsh:w.shape? b=some (125,2))(hfz:w.frozen? ⟨b,0,none⟩=false) :
  Calls Tryz.prog 112 #[.pointer (some ⟨b,0,none⟩)] w fun e w'=>e=.returned (.tuple #[])/\w'=w.setCell ⟨b,0,none⟩ (.pointer (some ⟨b,0,none⟩)):=by
 obtain⟨j,hj,hjs⟩:=auP.1 abY
 go_enter Tryz.func112,Tryz.ntmps112
 go_wp2
 rw[Lib.run_to_unsafe w ⟨b,0,none⟩ Tryz.underlying122 Tryz.underlying178 hj (by rw[hjs];decide) hsh (Nat.zero_lt_succ 1)]
 simp only[Result.andThen];rw[Oper.upon_value]
 go_wp2
 rw[run_callFunc_extern Tryz.func133 Bl Bl Bl (e:=Extern.AbiNoEscape.same) Bl];rw[Lib.run_noEscape];simp only[Result.andThen];rw[Oper.upon_value]
 go_wp2
 rw[Lib.run_from_unsafe w ⟨b,0,none⟩ Tryz.underlying178 Tryz.underlying122 hj hsh ajL];simp only[Result.andThen];rw[Oper.upon_value]
 go_wp2
 go_end0
 exact⟨rfl,rfl⟩
theorem Ck{G:Nat->List AV} : fU Tryz.prog G 112 jI:=by
 intro args H r c he;refine⟨HF 112 _ Tryz.func112 Bl a8,?_⟩;unfold jI at he;split at he
 ·rename_i l
  split at he
  ·
   rename_i x hH;simp only[auR,auV] at he;obtain⟨rfl,rfl⟩:=he;have aZ:l<H.length:=(auU.1 hH).1;refine⟨⟨by simp[qe],fun c' BI=>?_⟩,fun base gh w vs hW _ hs dv=>?_⟩
   ·grind
   ·obtain⟨u,rfl,hu⟩:=FP hs dv
    obtain⟨_,rfl⟩:=hu.kD;obtain⟨hκ,hS,C,ty,hb,hC,iG⟩:=hW.boxes l _ _ hH;obtain⟨C2,fr2,j7,hC2⟩:=hW.types l _ _ hH a8;rw[hb] at j7;injection j7 with j7
    injection j7 with e1 e2 e3
    subst e1 e2;have hC2:C.size=2:=hC2;have h0:C[0]?=some C[0]:=au' ah;have Ty:C[0]=.pointer none:=by
     have:=(iG 0 _ .kX h0 rfl).2.dropped
     generalize C[0]=V at this;cases this with
     | plain _ _ h=>cases h;rfl
    have dm:w.cell? ⟨gh.ρ l,0,none⟩=some (.pointer none):=by rw[cell_of_row w _ 0 C _ _ hb,h0,Ty]
    have mH:∀ o,gh.S (gh.ρ l) o->(C.setIfInBounds 0 (.pointer (some ⟨gh.ρ l,0,none⟩)))[o]?=C[o]?:=fun o ho=>(hS o ho).elim
    have st:=nE hW hb ag mH H.length;rw[hκ] at st;refine (Mb (gh.ρ l) w dm (by simp[World.shape?,hb,hC2]) (by simp[World.frozen?,hb])).mono ?_
    rintro e w' ⟨rfl,rfl⟩
    rw[setCell_eq_setRow w (gh.ρ l) 0 C _ (0,0) _ hb];have nL:bf G base (H.set l (.box 125 [.ref l 0,x])) gh (w.setRow (gh.ρ l) (C.setIfInBounds 0 (.pointer (some ⟨gh.ρ l,0,none⟩)))):=by
     refine hW.NI st hH (by intro k hk;simp[hk]) (fun b o ho=>by simpa using hW.pN b o ho) (fun b hb=>by simpa using hW.qN b hb) ⟨hκ,hS,_,_,setRow_heap w _ C _ _ _ hb,cT hC,fun j v y hv hy=>?_⟩ ?_ ?_ ?_
     ·match j with
      | 0 =>
       simp at hy;subst hy;rw[Array.getElem?_setIfInBounds_self_of_lt ah] at hv;injection hv with hv
       subst hv;exact⟨rfl,.inl (.ref l 0 aZ)⟩
      | j+1 =>
       rw[axd ah] at hv;obtain⟨k1,k2⟩:=iG (j+1) v y hv (cT hy);exact⟨k1,k2.mono st (Nat.le_refl _) ag⟩
     ·have:=hW.refs l _ _ hH
      simp only[List.all_cons,List.all_nil,avI,auT] at this ⊢;exact⟨by simp[aX],this.2⟩
     ·exact fun _ _ h=>h
     ·rfl
    refine⟨_,gh,rfl,by simp[qe],nL,st.mono (fun p hp=>.inl ⟨l,hp⟩),fun _ h=>h,.inl .undef⟩
  ·
   rename_i l' y hH;obtain⟨h0,lO⟩:=al he;clear he;have oT:l=l':=by simpa [iE] using h0
   simp only[auR,auV] at lO;obtain⟨rfl,rfl⟩:=lO;subst oT;refine⟨o6,fun base gh w vs hW _ hs dv=>?_⟩
   obtain⟨u,rfl,hu⟩:=FP hs dv;obtain⟨_,rfl⟩:=hu.kD;obtain⟨hκ,hS,C,ty,hb,hC,iG⟩:=hW.boxes l _ _ hH;have hC2:2<=C.size:=hC;have XJ:C[0]?=some C[0]:=au' ah;have Ty:C[0]=.pointer (some ⟨gh.ρ l,0,none⟩):=(VR.kD (iG 0 _ (.ref l 0) XJ rfl).2.dropped).2;refine (PG (gh.ρ l) w (by rw[cell_of_row w _ 0 C _ _ hb,XJ,Ty])).mono ?_
   rintro e w' ⟨rfl,rfl⟩
   exact⟨_,gh,rfl,mK hW (Below.refl _ _) .undef⟩
  ·cases he
 ·cases he
def NO(b:Nat)(a q:Option Addr)(n cap:Nat)(s:ByteArray)(w W1 W:World)(c1:w.drew.cell? ⟨b,1,none⟩=some (.slice a n cap))(c2:W1.cell? ⟨b,1,none⟩=some (.slice a n cap))
  (hSD:(Builtin.unsafeSliceData_ #[123] 161 #[.slice a n cap]).run Tryz.prog w.drew=.ok (.pointer q) W1)
  (hUS:(Builtin.unsafeString_ #[161,3] 9 #[.pointer q,.int .i64 n]).run Tryz.prog W1=.ok (.string s) W) :
  Calls Tryz.prog 72 #[.pointer (some ⟨b,0,none⟩)] w fun e w'=>e=.returned (.string s)/\w'=W:=by
 have mixed:Tryz.prog.follows .mixedOrders=true:=by kernel_rfl
 go_enter Tryz.func72,Tryz.ntmps72
 go_wp2
 go_region_o
 all_goals (go_wp2;go_ret;exact⟨rfl,rfl⟩)
def M7{e:TypeId}(hc:P.cellsOf e=1)(count n off:Nat)(hn:off+n<=count):liesAt P P.depth e count off e n=true:=by
 have hd:P.depth=(2*(P.types.size+Made.depth)+1)+1:=rfl;rw[hd];simp only[liesAt,awl];left;rw[hd];simp[rowAt,hc,hn,sameLayout];exact .inl (Nat.mod_one off)
def uS(w:World)(pt it ty e:TypeId)(hp:P.underlying pt=some (.pointer e))(hc:P.cellsOf e=1)(g off cells:Nat)(hsh:w.shape? g=some (e,cells))(l:List UInt8)(h0:l≠[])(hn:off+l.length<=cells)(h63:l.length<=9223372036854775807)
  (dm:∀ j x,l[j]?=some x->w.cell? ((⟨g,off,none⟩:Addr).add j)=some (.int .u8 x.toNat)) :
  (Builtin.unsafeString_ #[pt,it] ty #[.pointer (some ⟨g,off,none⟩),.int .i64 l.length]).run P w=.ok (.string ⟨l.toArray⟩) (w.freeze ⟨g,off,none⟩ l.length):=by
 have hl:l.length≠0:=by simpa using h0
 have Ww:=Lib.run_loadBytes (P:=P) w l ⟨g,off,none⟩ .empty dm;have aiv:=M7 (P:=P) hc (cells / P.cellsOf e) l.length off (by rw[hc];simpa using hn)
 have amx:¬ (9223372036854775807:Int)<(l.length:Int):=by omega
 have J4:Builtin.unsafeString_ #[pt,it] ty #[.pointer (some ⟨g,off,none⟩),.int .i64 l.length] =
   (do
    let n <- asInt (.int .i64 l.length)
    if n<0 then runtimePanic (.error "unsafe.String: len out of range")
    if n>IntKind.i64.max then unsupported (.unsafePointer "String: a length above the largest int")
    if n=0 then pure (.string .empty)
    else if <- variablesAt ⟨g,off,none⟩ (<- elemOf pt) n.toNat then do
     let s <- loadBytes ⟨g,off,none⟩ .empty n.toNat
     freeze ⟨g,off,none⟩ n.toNat
     pure (.string s)
    else unsupported (.unsafePointer "String: not so many bytes at ptr")):=rfl
 rw[J4];have TP:IntKind.i64.max=9223372036854775807:=rfl;have Qu:¬ (l.length:Int)<0:=by omega
 simp[asInt,asIntOf,TP,amx,Qu,hl,variablesAt,hsh,elemOf,run_underlying hp,aiv,Ww]
section
section
variable {G:Nat->List AV}{base:Nat}{gh:Gh}{w w' : World}{H:ae}
def VD(hW:bf G base H gh w)(st:Step (fun _=>False) H.length gh w gh w')(hv:VR gh H.length w' v r):oY G base H gh w r none v gh w' :=
 ⟨Nat.le_refl _,hW.step st (fun l=>⟨id,fun _=>id⟩) (fun b o h=>awb (hW.pN b o h) st.size) (fun b h=>⟨(hW.qN b h).1,awb (hW.qN b h).2 st.size⟩) (fun _ _ _ h=>.inl h),
  st.mono (fun _ h=>h.elim),fun _ h=>h,.inl hv⟩
theorem Ld(hW:bf G base H gh w){b o n:Nat}{C:Array Value}{ty:TypeId}{fr:Nat × Nat}(hb:w.heap[b]?=some (.cells C ty fr))(hn:n≠0)(hS:∀ j,j<n->gh.S b (o+j))(h8:∃ m,C[o]?=some (.int .u8 m))(m:Nat) :
  Step (fun _=>False) m gh w gh (w.drew.freeze ⟨b,o,none⟩ n):=by
 have aZ:b<w.heap.size:=(auZ.1 hb).1;have uA:∀ k,(w.drew.freeze ⟨b,o,none⟩ n).heap[k]?=if k=b then some (.cells C ty (if fr.1==fr.2 then (o,o+n) else (min fr.1 o,max fr.2 (o+n)))) else w.heap[k]?:=by
  intro k;unfold World.freeze;rw[if_neg hn]
  show (w.heap.modify b _)[k]?=_
  grind
 have dm:∀ k j,(w.drew.freeze ⟨b,o,none⟩ n).cell? ⟨k,j,none⟩=w.cell? ⟨k,j,none⟩:=by
  intro k j;simp only[World.cell?,uA]
  grind
 have po:(w.drew.freeze ⟨b,o,none⟩ n).heap.size=w.heap.size:=by
  unfold World.freeze
  simp_all
 have hos:(w.drew.freeze ⟨b,o,none⟩ n).os=w.os/\(w.drew.freeze ⟨b,o,none⟩ n).tape=w.tape/\(w.drew.freeze ⟨b,o,none⟩ n).output=w.output:=by
  unfold World.freeze;rw[if_neg hn];exact⟨rfl,rfl,rfl⟩
 refine⟨fun _ _ h=>h,fun k j _=>dm k j,by rw[po];exact Nat.le_refl _,hos.1,hos.2.1,hos.2.2,fun k hk _=>⟨?_,rfl,fun _ h=>h⟩,fun k hk=>hW.cA k (by rw[<- po];rw[po];exact hk),fun _ _=>rfl,fun k oe m' hm=>?_,fun k E ck _ h0=>?_⟩
 rotate_left 2
 ·grind
 ·rw[uA]
  by_cases IW:k=b
  ·subst IW
   rw[if_pos rfl,hb];obtain⟨lo,hi⟩:=fr;obtain⟨m8,h8⟩:=h8;have yA:∀ q,(∀ o,q<=o->¬ gh.S k o)->o+n<=q:=fun q mH=>by
    rcases axf (o+(n-1)) q with h|h
    ·omega
    ·grind
   by_cases hlh:(lo==hi)=true
   ·exact .inr ⟨C,ty,lo,hi,o,o+n,rfl,by rw[if_pos hlh],⟨o,m8,by simpa using hS 0 ah,h8⟩,fun q hq mH=>yA q mH⟩
   ·exact .inr ⟨C,ty,lo,hi,min lo o,max hi (o+n),rfl,by rw[if_neg hlh],⟨o,m8,by simpa using hS 0 ah,h8⟩,fun q hq mH=>by have:=yA q mH;omega⟩
  ·rw[if_neg IW];exact .inl rfl
 ·obtain⟨C',fr',h1,h2⟩:=hm
  by_cases IW:k=b
  ·subst IW
   rw[hb] at h1;injection h1 with h1
   injection h1 with e1 e2 e3
   subst e1 e2;exact⟨C,_,by rw[uA,if_pos rfl],h2⟩
  ·exact⟨C',fr',by rw[uA,if_neg IW];exact h1,h2⟩
end
theorem FW:∀ {e:List (List AV)} {l:List UInt8},bytesOf e=some l->e.length=l.length/\∀ (i:Nat) (b:UInt8),l[i]?=some b->∃ m:Int,e[i]?=some [.int .u8 m]/\b=UInt8.ofNat m.toNat
 | [],l,h=>by
  simp only[bytesOf,auR] at h
  grind
 | r :: e,l,h=>by
  unfold bytesOf at h;split at h
  ·cases ‹_ :: _=[]›
  ·rename_i n e' heq
   injection heq with h1 h2
   subst h1 h2;obtain⟨l',h3,rfl⟩:=auP.1 h;obtain⟨k1,k2⟩:=FW h3
   grind
  ·cases h
theorem za{G:Nat->List AV} : fU Tryz.prog G 72 rD:=by
 intro args H r c he;refine⟨HF 72 _ Tryz.func72 Bl a8,?_⟩;unfold rD at he;split at he
 ·rename_i l
  split at he
  ·rename_i x e hH
   obtain⟨h0,he⟩:=al he;simp only[auT] at h0;have hlen:e.length<=4611686018427387904:=by simpa [avm] using h0.1.1
   have adU:=h0.1.2;obtain⟨bs,hbs,he⟩:=auP.1 he;simp only[auV] at he;obtain⟨rfl,rfl⟩:=he;obtain⟨w5,hbr⟩:=FW hbs;have aZ:l<H.length:=(auU.1 hH).1;refine⟨o6,fun base gh w vs hW _ hs dv=>?_⟩
   obtain⟨u,rfl,hu⟩:=FP hs dv;obtain⟨_,rfl⟩:=hu.kD;obtain⟨hκ,hS,C,ty,hb,hC,iG⟩:=hW.boxes l _ _ hH;have hC2:2<=C.size:=hC;have h1:C[1]?=some C[1]:=au' ah;have hv:=(iG 1 _ (.slice e true) h1 rfl).2;have dm:w.cell? ⟨gh.ρ l,1,none⟩=some C[1]:=by rw[cell_of_row w _ 1 C _ _ hb,h1]
   generalize C[1]=v at hv dm
   by_cases dp:e=[]
   ·grind
   ·have fg:PR gh.S w v (.slice e false):=by
     rcases hv with hv|⟨e',heq,h,_⟩
     ·cases hv with
      | plain _ _ h=>cases h
      | full a k _ h hz=>exact h
     ·grind
    cases fg with
    | dq=>exact absurd rfl dp
    | slice b o n cap sz _ f hn kT bU ado aiM =>
     subst hn;have CT:0<e.length:=awo.2 dp;have J3:0<bs.length:=ah;obtain⟨m0,hm0,_⟩:=hbr 0 bs[0] (auS J3);have j9:sz=1:=(bU 0 _ hm0).symm;subst j9;have each:∀ (i:Nat) (x:UInt8),bs[i]?=some x->gh.S b (o+i)/\w.cell? ⟨b,o+i,none⟩=some (.int .u8 x.toNat):=by
      intro i x hx;obtain⟨m,hm,rfl⟩:=hbr i x hx;obtain⟨k1,k2,_⟩:=ado i 0 _ _ hm rfl;have hr:=aiM i 0 _ _ hm rfl;have hf:f i 0=.int .u8 m:=by
       generalize f i 0=V at hr;cases hr;rfl
      simp only[awK,au7] at k1 k2;refine⟨k1,?_⟩;rw[k2,hf];have hm8:=auX.1 adU _ (au0 hm);simp only[auT,au1] at hm8;have e1:((UInt8.ofNat m.toNat).toNat:Int)=m:=by
       rw[UInt8.toNat_ofNat'];omega
      rw[e1]
     obtain⟨Cb,fr,xJ⟩:∃ Cb fr,w.heap[b]?=some (.cells Cb jg fr):=by
      have:=each 0 bs[0] (auS J3)
      exact hW.bytes b (o+0) _ this.1 this.2
     have hsh:w.drew.shape? b=some (5,Cb.size):=by
      have:w.drew.heap[b]?=some (.cells Cb jg fr):=xJ
      simp[World.shape?,this]
     have XS:o+bs.length<=Cb.size:=by
      have:=(each (bs.length-1) bs[bs.length-1] (auS ah)).2
      rw[cell_of_row w b _ Cb _ _ xJ] at this;have:=(auZ.1 this).1
      omega
     have c1:w.drew.cell? ⟨gh.ρ l,1,none⟩=some (.slice (some ⟨b,o,none⟩) e.length cap):=dm;have hSD:(Builtin.unsafeSliceData_ #[123] 161 #[.slice (some ⟨b,o,none⟩) e.length cap]).run Tryz.prog w.drew=.ok (.pointer (some ⟨b,o,none⟩)) w.drew:=Lib.run_unsafeSliceData_row _ _ _ _ _ _ ah;have hUS:=uS (P:=Tryz.prog) w.drew 161 3 9 5 Tryz.underlying161 Bl b o Cb.size hsh bs (by intro e;rw[e] at J3;simp at J3) XS ah (fun j x hx=>by
      have Tt:(Addr.mk b o none).add j=⟨b,o+j,none⟩:=by
       unfold Addr.add;split
       ·rename_i h0;subst h0;simp
       ·simp
      rw[Tt];exact (each j x hx).2)
     rw[<- w5] at hUS;refine (NO (gh.ρ l) _ _ e.length cap _ w _ _ c1 c1 hSD hUS).mono ?_
     rintro e' w' ⟨rfl,rfl⟩
     refine⟨_,gh,rfl,VD hW (Ld hW xJ ah (fun j hj=>(each j bs[j] (auS ah)).1) ⟨bs[0].toNat,?_⟩ _) (.plain _ _ (.str _ _ rfl))⟩
     have:=(each 0 bs[0] (auS J3)).2
     rw[cell_of_row w b _ Cb _ _ xJ] at this
     simpa using this
  ·cases he
 ·cases he
end
end Go.Proofs.YtnhpoddlmjpapaaGreatDoor
namespace Go.Proofs.YtnhpoddlmjpapaaGreatDoor
open Go Go.Abs Go.Proofs
variable {K:AS->Prop}{x:AV × Option fR}{ka o va:Bool}{fn:Func}{f:FuncId}{rows todo:List (List AV)}{args cur r:List AV}{os:List aS}{g gen k lo off pl z:Nat}{T:aD}
def Va:∀ q∈mR,∃ w i j,q=[.str w,.int .i64 i,.int .i64 j]/\n8 i=(w,j):=by
 intro q hq;simp only[mR,avi,avE,awk] at hq
 rcases hq with rfl|rfl|rfl|rfl|rfl|rfl|rfl|rfl|rfl|rfl<;>exact⟨_,_,_,rfl,a8⟩
def NK{n:Int}(h:∀ q∈mR,∀ w i j,q=[.str w,.int .i64 i,.int .i64 j]->i≠n):(n=9/\n8 n=([110,111,116],7))\/(n=11/\n8 n=([108,101,110],7))\/(n≠9/\n≠11/\n8 n=([],7)):=by
 have hh:∀ w i j,[AV.str w,.int .i64 i,.int .i64 j]∈mR->i≠n:=fun w i j hm=>h _ hm _ _ _ rfl
 have h0:=hh [43] 0 5 (by simp[mR])
 have h1:=hh [45] 1 5 (by simp[mR])
 have h2:=hh [42] 2 6 (by simp[mR])
 have h3:=hh [47] 3 6 (by simp[mR])
 have h4:=hh [37] 4 6 (by simp[mR])
 have h5:=hh [60] 5 3 (by simp[mR])
 have h6:=hh [61,61] 6 3 (by simp[mR])
 have h7:=hh [97,110,100] 7 2 (by simp[mR])
 have h8:=hh [111,114] 8 1 (by simp[mR])
 have h10:=hh [106,111,105,110] 10 4 (by simp[mR])
 by_cases e9:n=9
 ·subst e9;exact .inl ⟨rfl,rfl⟩
 ·by_cases e11:n=11
  ·subst e11;exact .inr (.inl ⟨rfl,rfl⟩)
  ·refine .inr (.inr ⟨e9,e11,?_⟩)
   rw[n8,if_pos ah]
def aaj{kz:Nat}{H:ae}{t d:Nat}{r:List aS}{c:aH}{Q:bJ->AS->Prop}(h:T t=.iter g kz ka va cur todo)
  (h1:todo=[]->W A0 (.region r) ⟨T.put d (.tuple [.bool false]),H,lo,gen⟩ (andThen (fun s=>W A0 c s Q) Q))
  (h2:∀ q rest,todo.Perm (q :: rest)->W A0 (.region r) ⟨(T.put t (.iter g kz ka va q rest)).put d (.tuple [.bool true,qz ka (q.take kz),qz va (q.drop kz)]),H,lo,gen⟩ (andThen (fun s=>W A0 c s Q) Q)) :
  WN A0.aW (aj A0) (.seq (.region (⟨some d,none,.next (.tmp t)⟩ :: r)) c) ⟨T,H,lo,gen⟩ Q:=by
 have key:∀ s,W A0 (.region r) s (andThen (fun s=>W A0 c s Q) Q)->pW A0.aW (aj A0) r s (fun s'=>WN A0.aW (aj A0) c s' Q):=fun s h=>by
  rw[<- FJ] at h;exact BW (c:=.seq (.region r) c) h
 exact⟨g,kz,ka,va,cur,todo,h,fun e=>key _ (h1 e),fun q rest hp=>key _ (h2 q rest hp)⟩
def HY:aH:=.seq (.region [⟨some 20,none,.Kz 1 false false⟩,⟨none,none,.Na 1 false false 1 [CK.i] (.tmp 20) (.xI (.int .i64 9)) (.xI (.str [110,111,116]))⟩,⟨none,none,.Na 1 false false 1 [CK.i] (.tmp 20) (.xI (.int .i64 11)) (.xI (.str [108,101,110]))⟩,⟨some 21,none,.mov false false (.tmp 20)⟩,⟨some 22,none,.mov false false (.tmp 0)⟩,⟨some 23,none,.look false 1 false false [CK.i] [.str []] (.tmp 21) (.tmp 22)⟩,⟨some 2,none,.mov true false (.tmp 23)⟩,⟨some 3,none,.mov true false (.xI (.int .i64 7))⟩]) .ret
def afy{kz:Nat}{H:ae}{t u:Nat}(h:T u=.iter g kz ka va cur todo)(hk:(Nat.ble kz cur.length&&!cur.isEmpty)=true) :
  WO A0 (⟨some t,none,.ent (.tmp u)⟩ :: os) ⟨T,H,lo,gen⟩ K=jB A0 (some (.tuple [qz ka (cur.take kz),qz va (cur.drop kz)])) t os T H lo gen K:=gU (by simp only[aQ,h,hk,cond_true,au2])
def xB{H:ae}{n:Int}{x:List UInt8}(q0:T 0=.int .i64 n)
  (hx:(dX [.i] [.int .i64 n] [[.int .i64 9,.str [110,111,116]],[.int .i64 11,.str [108,101,110]]]).map (pI false false [.str []] 1 [[.int .i64 9,.str [110,111,116]],[.int .i64 11,.str [108,101,110]]])=some (.str x)) :
  W A0 HY ⟨T,H,H.length,gen⟩ (done H.length [.tmp 2,.tmp 3] (.tuple [.str x,.int .i64 7],none)):=by
 have D5:∀ x:bM,(H++[x])[H.length]?=some x:=fun x=>ag
 have qa:∀ x y:bM,(H++[x]).set H.length y=H++[y]:=fun x y=>ag
 have fe9:dX [.i] [.int .i64 9] []=some none:=rfl;have Tg:dX [.i] [.int .i64 11] [[.int .i64 9,.str [110,111,116]]]=some none:=rfl;have R1:∀ (k:IntKind) (n:Int),(AV.int k n).isAgg=false:=fun _ _=>rfl
 have R2:∀ (s:List UInt8),(AV.str s).isAgg=false:=fun _=>rfl
 have ahG:(false==false)=true:=rfl;have rJ:∀ (es:List (List AV)) (r:List AV),vR es none r=es++[r]:=fun _ _=>rfl
 have tP:decide (H.length<H.length)=false:=ag;have hlx:yP (H++[.map 1 false false [[.int .i64 9,.str [110,111,116]],[.int .i64 11,.str [108,101,110]]]]) false 1 false false [.i] [.str []] (.mref H.length) (.int .i64 n)=some (.str x):=by
  simp only[yP,UA,AV.drop,AV.cells,auW,D5];exact hx
 unfold HY;simp(disch:=omega)only[nK,cY,cb,ct,cm,gC,aP,aQ,br,aE.eval,AS.bW,↓reduceIte,Nat.reduceEqDiff,Option.isSome,Option.isNone,cond_true,cond_false,Nat.reduceBEq,Nat.reduceAdd,Nat.reduceMul,aa,cn,avs,reduceCtorEq,gr,cZ,cd,bD,bound,dc,AS.bC,aN,bI,bu,Nat.reduceLeDiff,cq,putAt,Int.reduceEq,Int.reduceLT,Int.reduceLE,Int.reduceBEq,Int.reduceBNe,Int.reduceAdd,Int.reduceNeg,Int.reduceSub,Int.reduceMul,dQ,dP,dO,dN,dM,dL,dS,dR,au,bA,au5,au7,sx,D5,qa,fe9,Tg,R1,R2,rJ,tP,hlx,Bool.and_self,cond_true,q0]
 done
def Ro(n:Int)(H:ae):WN A0.aW (aj A0) C1.body { T:=fm [.int .i64 n],H,lo:=H.length,gen:=0 } (done H.length C1.results (.tuple [.str (n8 n).1,.int .i64 (n8 n).2],none)):=by
 unfold C1;simp only;refine BW (c:=.region _) ?_;simp(disch:=omega)only[aO,aa,simprocAttr];generalize hR:done H.length [gY.tmp 2,gY.tmp 3] (AV.tuple [AV.str (n8 n).1,AV.int .i64 (n8 n).2],none)=R;refine (show WN A0.aW (aj A0) (.seq _ (.block 0 (.loop _))) _ (andThen (fun s=>WN A0.aW (aj A0) HY s R) R) from ?_)
 refine (show WN A0.aW (aj A0) (.region _) _ (andThen (fun s=>WN A0.aW (aj A0) (.block 0 (.loop _)) s _) _) from ?_)
 refine uY _ _ ⟨((((fm [AV.int .i64 n]).put 2 (AV.str [])).put 3 (AV.int .i64 0)).put 6 (.mn 1 false true mR)).put 7 (.iter 0 1 false true [] mR),H,H.length,1⟩ rfl ?_;refine (show WN A0.aW (aj A0) (.loop _) _ (leave 0 (andThen (fun s=>WN A0.aW (aj A0) HY s R) R)) from ?_)
 refine⟨_,Pg (fun k s=>∃ T cur todo gen,s=⟨T,H,H.length,gen⟩/\T 0=.int .i64 n/\T 7=.iter 0 1 false true cur todo/\todo.length=k/\(∀ q∈todo,q∈mR)/\∀ q∈mR,q∈todo\/∀ w i j,q=[.str w,.int .i64 i,.int .i64 j]->i≠n) ?_ 10 _ ⟨_,[],mR,1,rfl,rfl,rfl,rfl,fun q h=>h,fun q h=>.inl h⟩⟩
 rintro k s ⟨T,cur,todo,gen,rfl,q0,q7,hk,XS,fq⟩
 refine aaj q7 ?_ ?_
 ·intro e
  subst e;have wi:=NK (n:=n) fun q hq=>(fq q hq).resolve_left ag
  simp(disch:=omega)only[aO,aa,simprocAttr];refine BW ?_;rw[<- hR]
  rcases wi with ⟨e,hs⟩|⟨e,hs⟩|⟨e,e',hs⟩
  ·rw[hs];exact xB (n:=n) (nx q0) (by rw[e];rfl)
  ·rw[hs];exact xB (n:=n) (nx q0) (by rw[e];rfl)
  ·rw[hs]
   have e1:(n==(9:Int))=false:=dw;have e2:(n==(11:Int))=false:=dw;exact xB (n:=n) (nx q0) (by simp only[dX,cD,axU,cond_true,au2,auW,avI,cond_false,e1,e2,av6];rfl)
 ·intro q rest hp
  obtain⟨w,i,j,rfl,hs⟩:=Va q (XS _ (hp.mem_iff.2 (List.mem_cons_self)));have XP:∀ (T:aD) (H:ae) (lo gen t u:Nat) (os:List aS) (K:AS->Prop),T u=.iter 0 1 false true [AV.str w,AV.int .i64 i,AV.int .i64 j] rest->WO A0 (⟨some t,none,.ent (.tmp u)⟩ :: os) ⟨T,H,lo,gen⟩ K=jB A0 (some (.tuple [.str w,.agg [.int .i64 i,.int .i64 j]])) t os T H lo gen K:=fun T H lo gen t u os K h=>afy h rfl
  by_cases e:i=n
  ·subst e
   simp (disch:=first|omega|(simp(disch:=omega)only[dr,aa,simprocAttr];done)) only[nK,cY,cb,ct,cm,gC,aP,aQ,br,aE.eval,AS.bW,↓reduceIte,Nat.reduceEqDiff,Option.isSome,Option.isNone,cond_true,cond_false,Nat.reduceBEq,Nat.reduceAdd,Nat.reduceMul,aa,cn,avs,reduceCtorEq,gr,cZ,cd,bD,bound,dc,AS.bC,aN,bI,bu,Nat.reduceLeDiff,cq,putAt,Int.reduceEq,Int.reduceLT,Int.reduceLE,Int.reduceBEq,Int.reduceBNe,Int.reduceAdd,Int.reduceNeg,Int.reduceSub,Int.reduceMul,dQ,dP,dO,dN,dM,dL,dS,dR,au,bA,au5,au7,q0,XP,qz,List.headD_cons,AV.drop,ab]
   rw[<- hR,hs];exact tL
  ·simp (disch:=first|omega|(simp(disch:=omega)only[dr,aa,simprocAttr];done)) only[nK,cY,cb,ct,cm,gC,aP,aQ,br,aE.eval,AS.bW,↓reduceIte,Nat.reduceEqDiff,Option.isSome,Option.isNone,cond_true,cond_false,Nat.reduceBEq,Nat.reduceAdd,Nat.reduceMul,aa,cn,avs,reduceCtorEq,gr,cZ,cd,bD,bound,dc,AS.bC,aN,bI,bu,Nat.reduceLeDiff,cq,putAt,Int.reduceEq,Int.reduceLT,Int.reduceLE,Int.reduceBEq,Int.reduceBNe,Int.reduceAdd,Int.reduceNeg,Int.reduceSub,Int.reduceMul,dQ,dP,dO,dN,dM,dL,dS,dR,au,bA,au5,au7,q0,XP,qz,List.headD_cons,AV.drop,ab]
   have hl:=hp.length_eq;rw[List.length_cons] at hl;refine⟨rest.length,ah,_,[AV.str w,.int .i64 i,.int .i64 j],rest,_,rfl,fY q0,jd,rfl,fun q hq=>XS q (hp.mem_iff.2 (av3 _ hq)),fun q hq=>?_⟩
   rcases fq q hq with h|h
   ·rcases avi.1 (hp.mem_iff.1 h) with rfl|h
    ·refine .inr fun w' i' j' he=>?_
     simp only[awa,AV.str.injEq,AV.int.injEq,awL,avZ] at he;rw[<- he.2.1];exact e
    ·exact .inl h
   ·exact .inr h
def Rn{P:Program}(hA:lL P A0)(IU:P.funcs[128]?=some fn){dW locals muts:List Nat}(hc:bo P dW locals muts fn=some C1):fU P xN 128 vx:=by
 refine agw (g:=vx) hA IU hc rfl ?_ ?_
 ·intro args H r c h
  unfold vx at h;split at h
  ·injection h with h;injection h with h1 h2;subst h2;exact⟨Nat.le_refl _,fun c h=>by cases h⟩
  ·cases h
 ·intro args H x h
  unfold vx at h;split at h
  ·injection h with h;subst h;exact⟨rfl,Ro _ _⟩
  ·cases h
def fo{i v:ax}(h:Tryz.prog.funcs[f]?=some fn)(e:some i=some v)(k:H3 fn i=some i:=by kernel_rfl):∃ fn dW locals muts,Tryz.prog.funcs[f]?=some fn/\bo Tryz.prog dW locals muts fn=some v:=⟨fn,_,_,_,h,e ▸ k⟩
def HG(f:FuncId)(qd:ax)(h:fns f=some qd):∃ fn dW locals muts,Tryz.prog.funcs[f]?=some fn/\bo Tryz.prog dW locals muts fn=some qd:=by
 unfold fns at h;split at h
 ·exact fo Tryz.func3 h
 ·exact fo Tryz.func4 h
 ·exact fo Tryz.func5 h
 ·exact fo Tryz.func6 h
 ·exact fo Tryz.func7 h
 ·exact fo Tryz.func8 h
 ·exact fo Tryz.func9 h
 ·exact fo Tryz.func10 h
 ·exact fo Tryz.func11 h
 ·exact fo Tryz.func12 h
 ·exact fo Tryz.func13 h
 ·exact fo Tryz.func14 h
 ·exact fo Tryz.func15 h
 ·exact fo Tryz.func16 h
 ·exact fo Tryz.func17 h
 ·exact fo Tryz.func18 h
 ·exact fo Tryz.func19 h
 ·exact fo Tryz.func20 h
 ·exact fo Tryz.func21 h
 ·exact fo Tryz.func22 h
 ·exact fo Tryz.func23 h
 ·exact fo Tryz.func24 h
 ·exact fo Tryz.func25 h
 ·exact fo Tryz.func26 h
 ·exact fo Tryz.func27 h
 ·exact fo Tryz.func28 h
 ·exact fo Tryz.func29 h
 ·exact fo Tryz.func30 h
 ·exact fo Tryz.func31 h
 ·exact fo Tryz.func32 h
 ·exact fo Tryz.func33 h
 ·exact fo Tryz.func34 h
 ·exact fo Tryz.func35 h
 ·exact fo Tryz.func36 h
 ·exact fo Tryz.func37 h
 ·exact fo Tryz.func38 h
 ·exact fo Tryz.func39 h
 ·exact fo Tryz.func40 h
 ·exact fo Tryz.func41 h
 ·exact fo Tryz.func42 h
 ·exact fo Tryz.func43 h
 ·exact fo Tryz.func44 h
 ·exact fo Tryz.func45 h
 ·exact fo Tryz.func46 h
 ·exact fo Tryz.func47 h
 ·exact fo Tryz.func48 h
 ·exact fo Tryz.func49 h
 ·exact fo Tryz.func50 h
 ·exact fo Tryz.func51 h
 ·exact fo Tryz.func52 h
 ·exact fo Tryz.func53 h
 ·exact fo Tryz.func54 h
 ·exact fo Tryz.func55 h
 ·exact fo Tryz.func56 h
 ·exact fo Tryz.func57 h
 ·exact fo Tryz.func58 h
 ·exact fo Tryz.func59 h
 ·exact fo Tryz.func60 h
 ·exact fo Tryz.func61 h
 ·exact fo Tryz.func62 h
 ·exact fo Tryz.func63 h
 ·exact fo Tryz.func65 h
 ·exact fo Tryz.func66 h
 ·exact fo Tryz.func68 h
 ·exact fo Tryz.func69 h
 ·exact fo Tryz.func70 h
 ·exact fo Tryz.func71 h
 ·exact fo Tryz.func73 h
 ·exact fo Tryz.func74 h
 ·exact fo Tryz.func75 h
 ·exact fo Tryz.func76 h
 ·exact fo Tryz.func77 h
 ·exact fo Tryz.func78 h
 ·exact fo Tryz.func79 h
 ·exact fo Tryz.func80 h
 ·exact fo Tryz.func81 h
 ·exact fo Tryz.func82 h
 ·exact fo Tryz.func83 h
 ·exact fo Tryz.func84 h
 ·exact fo Tryz.func85 h
 ·exact fo Tryz.func86 h
 ·exact fo Tryz.func87 h
 ·exact fo Tryz.func88 h
 ·exact fo Tryz.func89 h
 ·exact fo Tryz.func90 h
 ·exact fo Tryz.func91 h
 ·exact fo Tryz.func92 h
 ·exact fo Tryz.func93 h
 ·exact fo Tryz.func94 h
 ·exact fo Tryz.func95 h
 ·exact fo Tryz.func96 h
 ·exact fo Tryz.func97 h
 ·exact fo Tryz.func98 h
 ·exact fo Tryz.func100 h
 ·exact fo Tryz.func101 h
 ·exact fo Tryz.func102 h
 ·exact fo Tryz.func103 h
 ·exact fo Tryz.func104 h
 ·exact fo Tryz.func105 h
 ·exact fo Tryz.func106 h
 ·exact fo Tryz.func107 h
 ·exact fo Tryz.func108 h
 ·exact fo Tryz.func109 h
 ·exact fo Tryz.func111 h
 ·exact fo Tryz.func113 h
 ·exact fo Tryz.func114 h
 ·exact fo Tryz.func115 h
 ·exact fo Tryz.func116 h
 ·exact fo Tryz.func117 h
 ·exact fo Tryz.func118 h
 ·exact fo Tryz.func119 h
 ·exact fo Tryz.func120 h
 ·exact fo Tryz.func122 h
 ·exact fo Tryz.func123 h
 ·exact fo Tryz.func125 h
 ·exact fo Tryz.func126 h
 ·exact fo Tryz.func127 h
 ·exact fo Tryz.func128 h
 ·exact fo Tryz.func129 h
 ·exact fo Tryz.func130 h
 ·exact fo Tryz.func131 h
 ·exact fo Tryz.func136 h
 ·exact fo Tryz.func137 h
 ·exact fo Tryz.func138 h
 ·exact fo Tryz.func139 h
 ·exact fo Tryz.func144 h
 ·exact fo Tryz.func145 h
 ·exact fo Tryz.func151 h
 ·exact fo Tryz.func158 h
 ·exact fo Tryz.func159 h
 ·exact fo Tryz.func165 h
 ·exact fo Tryz.func188 h
 ·exact fo Tryz.func189 h
 ·exact fo Tryz.func204 h
 ·cases h
theorem afb(f:FuncId)(g:List AV->ae->Option (AV × Option fR))(h:ov0 f=some g):fU Tryz.prog xN f g:=by
 unfold ov0 at h
 grind [C7,AQ,yD,B',za,Ck]
def vB:lL Tryz.prog A0:=⟨by kernel_rfl,HG,afb⟩
theorem V0:fU Tryz.prog xN 128 vx:=Rn vB Tryz.func128 Uk
theorem abM(f:FuncId)(g:List AV->ae->Option (AV × Option fR))(h:ov f=some g):fU Tryz.prog xN f g:=by
 unfold ov at h;split at h
 ·grind [V0]
 ·grind [C7]
 ·grind [AQ]
 ·grind [yD]
 ·grind [B']
 ·grind [za]
 ·grind [Ck]
 ·cases h
def Ns:lL Tryz.prog A:=⟨vB.mixed,HG,abM⟩
abbrev Sd(f:FuncId)(R:Rel):Prop:=fU Tryz.prog xN f (lZ R)
def By{tk:List Tk}{s s':PS}{H:ae}(h:jn tk pl s H):jF H (some ⟨aI tk pl s' H,pl⟩):=by
 refine⟨by show H.length<=(aI tk pl s' H).length;rw[bF];exact Nat.le_refl _,fun c' e=>?_⟩
 injection e with e
 subst e;exact⟨awx h.q.lt,fun l (hl:l<pl)=>dV ah⟩
def xT{H H':ae}{tl c:Nat}{row:List AV}(hz:row.length=z)(h:ud H tl c z row=some H'):H.length<=H'.length/\∀ l,l<tl->H'[l]?=H[l]?:=by
 obtain⟨kc,m,es,Hd,cs,hA,hH⟩:=mT hz h
 replace hH:H'=(rX Hd es row).set tl (.bV (cs.set c (.sref H.length 0 (m+1) z))):=hH
 subst hH;refine⟨?_,fun l hl=>hA.aeP hl⟩
 rw[List.length_set,Hl,hA.hd];omega
def ahp{n:Nat}{H:ae}(h:xO n args H x):jF H x.2:=by
 cases h with
 | @mk tk pl tl s H t s' H' h hn aZ he ha =>
  obtain⟨h1,h2⟩:=xT ja ha;rw[bF] at h1;refine⟨h1,fun c' e=>?_⟩
  injection e with e
  subst e;exact⟨awx h.q.lt,fun l (hl:l<pl)=>(h2 l ah).trans (dV ah)⟩
def ahs{n:Nat}{H:ae}(h:zx n args H x):jF H x.2:=by
 cases h with
 | no h hn hv aZ tQ hw he=>exact By h
 | @mk tk pl pv tl s H w t s' H' h hn hv aZ tQ hw hg he ha =>
  obtain⟨h1,h2⟩:=xT ja ha;rw[bF] at h1;refine⟨h1,fun c' e=>?_⟩
  injection e with e
  subst e;exact⟨awx h.q.lt,fun l (hl:l<pl)=>(h2 l ah).trans (dV ah)⟩
def ahq{n:Nat}{H:ae}(h:B1 n args H x):jF H x.2:=by
 cases h with
 | @mk tk pl pv cv tl s H t s' H1 H' h hn hv hc aZ tQ htc k1 he k2 =>
  obtain⟨h1,h2⟩:=xT (z:=1) rfl k1;obtain⟨h3,h4⟩:=xT ja k2;rw[bF] at h1 h3;refine⟨avx h1 h3,fun c' e=>?_⟩
  injection e with e
  subst e;exact⟨awx h.q.lt,fun l (hl:l<pl)=>by rw[h4 l ah,dV ah,h2 l ah,dV ah]⟩
def ahr{n:Nat}{H:ae}(h:B2 n args H x):jF H x.2:=by
 cases h with
 | mk h hn hv hf hc aZ hlf hr hw he =>
  refine⟨?_,fun c' e=>?_⟩
  ·show H.length<=(List.set _ _ _).length
   rw[List.length_set,bF];exact Nat.le_refl _
  ·injection e with e
   subst e;refine⟨awx h.q.lt,fun l hl=>?_⟩
   simp only at hl ⊢;rw[List.getElem?_set_ne ah];exact dV ah
def xA{A:AP}(hA:lL Tryz.prog A)(hG:A.aW=xN)(IU:Tryz.prog.funcs[f]?=some fn){a b c:List Nat}{qd:ax}(hc:bo Tryz.prog a b c fn=some qd){R:Rel}
  (Mx:∀ {args H x},R args H x->jF H x.2) (hg:∀ {args H x},R args H x->args.length=qd.np/\D A qd.body ⟨fm args,H,H.length,0⟩ (dn qd H.length x)):Sd f R:=by
 have:=ab7 hA IU hc (g:=lZ R) (fun args H r c h=>Mx (sV h)) (fun args H x h=>by
  obtain⟨h1,h2⟩:=hg (sV h);refine⟨h1,jL _ _ h2 fun e s h=>?_⟩
  cases e<;>exact h)
 rw[hG] at this;exact this
def XD(f:FuncId)(qd:ax)(h:ac2 f=some qd):∃ fn dW locals muts,Tryz.prog.funcs[f]?=some fn/\bo Tryz.prog dW locals muts fn=some qd:=by
 unfold ac2 at h;split at h
 ·exact fo Tryz.func59 h
 ·exact fo Tryz.func96 h
 ·exact HG f qd h
def uf{b:Bool}{α:Type}{x y:α}(h:(bif b then some x else none)=some y):b=true/\x=y:=by
 cases b with
 | true=>exact⟨rfl,avF h⟩
 | false=>cases h
def U8{n:Nat}(sE:Sd 59 (zw n))(sB:Sd 96 (zu n))(sK:1<=k->Sd 136 (xO n))(sX:2<=k->Sd 95 (zx n))(sN:2<=k->Sd 151 (B1 n))(sS:3<=k->Sd 56 (B2 n))(sF:4<=k->Sd 27 (Fc n)):lL Tryz.prog (PA k n):=by
 refine⟨vB.mixed,XD,fun f g h=>?_⟩
 replace h:ovP k n f=some g:=h
 show fU Tryz.prog xN f g
 unfold ovP at h;split at h
 ·injection h with h;subst h;exact sE
 ·injection h with h;subst h;exact sB
 ·obtain⟨h1,rfl⟩:=uf h;exact sK (avS h1)
 ·obtain⟨h1,rfl⟩:=uf h;exact sX (avS h1)
 ·obtain⟨h1,rfl⟩:=uf h;exact sN (avS h1)
 ·cases h
 ·cases h
 ·cases h
 ·cases h
 ·obtain⟨h1,rfl⟩:=uf h;exact sS (avS h1)
 ·obtain⟨h1,rfl⟩:=uf h;exact sF (avS h1)
 ·cases h
 ·cases h
 ·cases h
 ·injection h with h;subst h;exact nT Ns
def sKn{n:Nat}(sE:Sd 59 (zw n))(sB:Sd 96 (zu n)):Sd 136 (xO n) :=
 xA (U8 (k:=0) sE sB ah ah ah ah ah) rfl Tryz.func136 Um ahp Yx
def sXn{n:Nat}(sE:Sd 59 (zw n))(sB:Sd 96 (zu n)):Sd 95 (zx n) :=
 xA (U8 (k:=1) sE sB (fun _=>sKn sE sB) ah ah ah ah) rfl Tryz.func95 Ym ahs P8
def sNn{n:Nat}(sE:Sd 59 (zw n))(sB:Sd 96 (zu n)):Sd 151 (B1 n) :=
 xA (U8 (k:=1) sE sB (fun _=>sKn sE sB) ah ah ah ah) rfl Tryz.func151 Up ahq Nb
def U9{n:Nat}(sE:Sd 59 (zw n))(sB:Sd 96 (zu n)):lL Tryz.prog (PA 2 n):=U8 sE sB (fun _=>sKn sE sB) (fun _=>sXn sE sB) (fun _=>sNn sE sB) ah ah
def ahn{n:Nat}{H:ae}(h:zw n args H x):jF H x.2:=by cases h with|mk h hn he=>exact By h
def ahm{n:Nat}{H:ae}(h:zu n args H x):jF H x.2:=by cases h with|mk h hn h1 h7 he=>exact By h
def aho{n:Nat}{H:ae}(h:Fc n args H x):jF H x.2:=by cases h with|mk h hn he=>exact By h
def W0{n:Nat}{H:ae}(hR:zu (n+1) args H x):args.length=nA.np/\D (PA 2 n) nA.body ⟨fm args,H,H.length,0⟩ (dn nA H.length x):=by
 cases hR with
 | @mk tk pl s H t s' lv h hn h1 h7 he =>
  refine⟨rfl,?_⟩
  by_cases h6:lv<=6
  ·exact WZ h ah h1 h6 he
  ·obtain rfl:lv=7:=ah
   exact W2 h ah he
def VO:∀ n,Sd 59 (zw n)/\Sd 96 (zu n)
 | 0=>by
  refine⟨?_,?_⟩
  ·intro args H r c h
   have h:=sV h;cases h with
   | mk h hn he=>exact absurd he (by simp[pE])
  ·intro args H r c h
   have h:=sV h;cases h with
   | mk h hn h1 h7 he=>exact absurd he (by simp[pE])
 | n+1=>by
  obtain⟨sE,sB⟩:=VO n;exact⟨xA (U9 sE sB) rfl Tryz.func59 Yk ahn S8,xA (U9 sE sB) rfl Tryz.func96 Yn ahm W0⟩
def sSn(n:Nat):Sd 56 (B2 n):=xA (U9 (VO n).1 (VO n).2) rfl Tryz.func56 Yj ahr V3
def ajZ(n:Nat):lL Tryz.prog (PA 3 n):=U8 (VO n).1 (VO n).2 (fun _=>sKn (VO n).1 (VO n).2) (fun _=>sXn (VO n).1 (VO n).2) (fun _=>sNn (VO n).1 (VO n).2) (fun _=>sSn n) ah
theorem sFn(n:Nat):Sd 27 (Fc n):=xA (ajZ n) rfl Tryz.func27 Yh aho Tn
def xC:∀ (r:aB) (j:Nat),(dD 10 j r<0/\dD 10 j r=-1/\bY true r=r.length)\/(∃ k:Nat,dD 10 j r=((j+k:Nat):Int)/\k<r.length/\bY true r=k+bY false (r.drop k))
 | [],j=>.inl ⟨by simp[dD],by simp[dD],rfl⟩
 | b :: r,j=>by
  by_cases hb:b.toNat=10
  ·refine .inr ⟨0,?_,ag,?_⟩
   ·simp[dD,hb]
   ·simp[bY,hb]
  ·have h1:bY true (b :: r)=1+bY true r:=by
    simp only[bY,if_neg hb];split
    ·rfl
    ·simp
   have h2:dD 10 j (b :: r)=dD 10 (j+1) r:=by
    simp only[dD];rw[av1 ah];rfl
   rw[h1,h2];rcases xC r (j+1) with ⟨k1,k2,k3⟩|⟨k,k1,k2,k3⟩
   ·exact .inl ⟨k1,k2,by rw[k3,List.length_cons];omega⟩
   ·exact .inr ⟨k+1,by rw[k1];congr 1;omega,cT k2,by rw[k3,awz];omega⟩
def CZ(s:aB)(H:ae):aj A 67 [.str s,.int .u8 10] H=some (.int .i64 (dD 10 0 s),none):=fZ (g:=iC) rfl rfl
def Sq(s:aB)(H:ae)(hs:s.length<=4611686018427387904):aj A 50 [.str s] H=some (.int .i64 (bY false s),none):=by
 refine cW ajl.eq_1 ?_;simp(disch:=omega)only[jh,aa,simprocAttr];refine oD 0 (fun k=>Hd (fun T=>∃ n:Nat,T 0=.str s/\T 3=.int .i64 n/\n<=s.length/\k=s.length-n/\bY false s=n+bY false (s.drop n)) H H.length 0)
  (Hd (fun T=>T 3=.int .i64 (bY false s)) H H.length 0) (Hd (fun T=>T 2=.int .i64 (bY false s)) H H.length 0) ?_ ?_ ?_ s.length _ ?_
 ·rintro k st gZ
  obtain⟨T,rfl,n,h0,h3,hn,hk,hc⟩:=gZ.out
  by_cases h:n<s.length
  ·have hx:=auS h
   have hd:=avf h;generalize s[n]=b at hx hd;rw[hd] at hc;have w5:b.toNat<256:=axz b
   by_cases b32:b.toNat=32
   ·have e:bY false (b :: s.drop (n+1))=1+bY false (s.drop (n+1)):=by simp[bY,b32]
    rw[e] at hc;simp(disch:=omega)only[dr,aa,simprocAttr,h0,h3,hx];exact⟨s.length-(n+1),ah,n+1,ah,ah,rfl,ah⟩
   by_cases b10:b.toNat=10
   ·have e:bY false (b :: s.drop (n+1))=1+bY false (s.drop (n+1)):=by simp[bY,b10]
    rw[e] at hc;simp(disch:=omega)only[dr,aa,simprocAttr,h0,h3,hx];exact⟨s.length-(n+1),ah,n+1,ah,ah,rfl,ah⟩
   by_cases b35:b.toNat=35
   ·have e:bY false (b :: s.drop (n+1))=1+bY true (s.drop (n+1)):=by simp[bY,b35]
    rw[e] at hc;have hi:dD 10 0 (s.drop n)=dD 10 1 (s.drop (n+1)):=by
     rw[hd];simp only[dD];rw[av1 ah];rfl
    have hlen:(s.drop (n+1)).length=s.length-(n+1):=avw ..;rcases xC (s.drop (n+1)) 1 with ⟨k1,k2,k3⟩|⟨j,k1,k2,k3⟩
    ·rw[k2] at hi
     rw[k3] at hc;simp(disch:=omega)only[dr,aa,simprocAttr,h0,h3,hx,avr,CZ,hi];omega
    ·rw[k1] at hi
     rw[k3,av'] at hc;simp(disch:=omega)only[dr,aa,simprocAttr,h0,h3,hx,avr,CZ,hi];exact⟨s.length-(n+(1+j)),ah,n+(1+j),ah,ah,rfl,by rw[hc,show n+1+j=n+(1+j) by omega];omega⟩
   ·have e:bY false (b :: s.drop (n+1))=0:=by simp[bY,b32,b10,b35]
    rw[e] at hc;simp(disch:=omega)only[dr,aa,simprocAttr,h0,h3,hx];omega
  ·have:n=s.length:=ah
   subst this;rw[awr] at hc;simp only[bY] at hc;simp(disch:=omega)only[dr,aa,simprocAttr,h0,h3];omega
 ·intro st gZ
  obtain⟨T,rfl,h3⟩:=gZ.out;exact vE1 h3
 ·intro st gZ
  obtain⟨T,rfl,h2⟩:=gZ.out;exact vE1 h2
 ·simp(disch:=omega)only[jh,aa,simprocAttr]
  exact⟨0,ah,ah,ah,ag⟩
structure Tok where
 text:aB
 before:aB
 deriving DecidableEq
variable {l:List Tok}
def Cs(t:Tok):List AV:=[.str t.text,.str t.before]
def fV(l:List Tok):List (List AV):=l.map Cs
def zc : (fV l).length=l.length:=by simp[fV]
def IH{i:Nat}{t:Tok}(h:l[i]?=some t):(fV l)[i]?=some (Cs t):=by simp[fV,h]
def ik(r:aB)(off:Nat):List Tok × aB × Int :=
 if bY false r=r.length then ([],r, -1)
 else if h2:il (r.drop (bY false r))=0 then ([],[],((off+bY false r:Nat):Int))
 else
  let x:=ik (r.drop (bY false r+il (r.drop (bY false r)))) (off+(bY false r+il (r.drop (bY false r))))
  if x.2.2=-1 then (⟨(r.drop (bY false r)).take (il (r.drop (bY false r))),r.take (bY false r)⟩ :: x.1,x.2.1, -1) else ([],[],x.2.2)
termination_by r.length
decreasing_by
 have:=n9 false r
 have:=BU (r.drop (bY false r))
 simp only[avw] at this ⊢;omega
def cN(s:aB):List Tok × aB × Int:=if 8192<s.length then ([],[],8192) else ik s 0
def ahead(acc:List Tok)(x:List Tok × aB × Int):List Tok × aB × Int:=if x.2.2=-1 then (acc++x.1,x.2.1, -1) else ([],[],x.2.2)
def K7{r:aB}(h:bY false r=r.length)(acc:List Tok):ahead acc (ik r off)=(acc,r, -1):=by
 rw[ik,if_pos h];simp[ahead]
def K6{r:aB}(h:bY false r≠r.length)(h2:il (r.drop (bY false r))=0)(acc:List Tok):ahead acc (ik r off)=([],[],((off+bY false r:Nat):Int)):=by
 rw[ik,if_neg h,axA h2];simp only[ahead];rw[if_neg ah]
def VW{r:aB}(h:bY false r≠r.length)(h2:il (r.drop (bY false r))≠0)(acc:List Tok) :
  ahead acc (ik r off)=ahead (acc++[⟨(r.drop (bY false r)).take (il (r.drop (bY false r))),r.take (bY false r)⟩]) (ik (r.drop (bY false r+il (r.drop (bY false r)))) (off+(bY false r+il (r.drop (bY false r))))):=by
 conv=>lhs;rw[ik,if_neg h,axc h2]
 simp only[ahead];split
 ·simp
 ·rename_i hx;simp[]
def G2{s:aB}{n:Nat}(hk:bY false (s.drop off)=k)(hn:il (s.drop (off+k))=n)(h:k≠s.length-off)(h2:n≠0)(acc:List Tok) :
  ahead acc (ik (s.drop off) off)=ahead (acc++[⟨(s.take (off+k+n)).drop (off+k),(s.take (off+k)).drop off⟩]) (ik (s.drop (off+k+n)) (off+k+n)):=by
 subst hk;rw[<- av'] at hn;rw[VW (by rw[avw];exact h) (by rw[hn];exact h2),hn]
 rw[av',av',List.take_drop,List.take_drop,axk]
def FL(s:aB)(h:¬ 8192<s.length):ahead [] (ik s 0)=cN s:=by
 unfold cN;rw[if_neg h];have key:∀ (r:aB) (off:Nat),(ik r off).2.2≠-1->ik r off=([],[],(ik r off).2.2):=by
  intro r off hx;rw[ik] at hx ⊢;split at hx
  ·exact absurd rfl hx
  ·rename_i h1
   rw[if_neg h1];split at hx
   ·rename_i h2;rw[axA h2]
   ·rename_i h2
    rw[axc h2];simp only at hx ⊢;split at hx
    ·exact absurd rfl hx
    ·rename_i h3;rw[if_neg h3]
 unfold ahead;split
 ·rename_i hx
  simp[<- hx]
 ·rename_i hx
  exact (key s 0 hx).symm
def G9 : vS 2 (fV l) :=
 ⟨fun r hr=>by simp only[fV,List.mem_map] at hr;obtain⟨n,_,rfl⟩:=hr;rfl,z8 fun r hr=>by simp only[fV,List.mem_map] at hr;obtain⟨n,_,rfl⟩:=hr;rfl⟩
def Sc{m:List Tok}(h:l.length+m.length<=1099511627776):aF false 2 32 (.slice (fV l) true) (.slice (fV m) o)=some (.slice (fV (l++m)) true):=by
 rw[wM G9 G9 (by rw[zc,zc];omega) (by rw[zc,zc];omega)];simp[fV]
def N4{a b:aB}(h:l.length<=1000000):aF false 2 32 (.slice (fV l) true) (.slice [[.str a,.str b]] o)=some (.slice (fV (l++[⟨a,b⟩])) true):=Sc (m:=[⟨a,b⟩]) dw
def O5(s:aB)(H:ae)(hs:s.length<=4611686018427387904) :
  aj A 23 [.str s] H=some (.tuple [.slice (fV (cN s).1) false,.str (cN s).2.1,.int .i64 (cN s).2.2],none):=by
 refine cW ajg.eq_1 ?_
 by_cases Tx:8192<s.length
 ·have e:cN s=([],[],8192):=by unfold cN;rw[if_pos Tx]
  rw[e];simp(disch:=omega)only[dr,aa,simprocAttr];rfl
 have e:=FL s Tx;generalize cN s=R at e;simp(disch:=omega)only[dr,aa,simprocAttr];refine oD 0 (fun k=>Hd (fun T=>∃ (off:Nat) (acc:List Tok),T 0=.str s/\T 5=.slice (fV acc) true/\T 6=.int .i64 off/\off<=s.length/\k=s.length-off/\acc.length<=off/\ahead acc (ik (s.drop off) off)=R) H H.length 0)
  (fun _=>False) (Hd (fun T=>∃ o,T 2=.slice (fV R.1) o/\T 3=.str R.2.1/\T 4=.int .i64 R.2.2) H H.length 0) ?_ (fun _ h=>h.elim) ?_ s.length _ ?_
 ·rintro k st gZ
  obtain⟨T,rfl,off,acc,h0,h5,h6,mN,hk,yq,hc⟩:=gZ.out;have Fw:=Sq (s.drop off) H (by rw[avw];omega)
  have hle:=n9 false (s.drop off);rw[avw] at hle
  by_cases w7:bY false (s.drop off)=(s.drop off).length
  ·rw[K7 w7] at hc
   subst hc;rw[avw] at w7;rw[w7] at Fw;have e1:(off:Int)+((s.length-off:Nat):Int)=(s.length:Int):=ah;generalize s.length-off=q at Fw e1;simp(disch:=omega)only[dr,aa,simprocAttr,h0,h5,h6,Fw,avr,e1];exact⟨false,rfl⟩
  ·have aZ:bY false (s.drop off)<s.length-off:=by rw[avw] at w7;omega
   have IS:=IG (s.drop (off+bY false (s.drop off))) H (fun e=>by have:=awu List.length e;rw[avw,List.length_nil] at this;omega) (by rw[avw];omega)
   have qq:=BU (s.drop (off+bY false (s.drop off)));rw[avw] at qq
   by_cases jo:il (s.drop (off+bY false (s.drop off)))=0
   ·rw[K6 w7 (by rw[av'];exact jo)] at hc
    subst hc;rw[jo] at IS;generalize bY false (s.drop off)=k at Fw IS aZ;have e1:(off:Int)+(k:Int)=((off+k:Nat):Int):=ah;generalize hm:off+k=m at Fw IS e1;have CP:off<=m:=ah;have Lw:m<s.length:=ah;clear hm;simp(disch:=omega)only[dr,aa,simprocAttr,h0,h6,Fw,IS,avr,e1];exact⟨true,rfl,rfl⟩
   ·generalize tF:bY false (s.drop off)=k at Fw IS aZ jo qq
    generalize IY:il (s.drop (off+k))=n at IS jo qq;rw[G2 tF IY ah jo] at hc;have MD:off+k+n<=s.length:=ah;have hn0:0<n:=ah;have e1:(off:Int)+(k:Int)=((off+k:Nat):Int):=ah;generalize hm:off+k=m at Fw IS hc MD e1;have CP:off<=m:=ah;have Lw:m<s.length:=ah;clear hm tF IY qq aZ w7 hle;have e2:(m:Int)+(n:Int)=((m+n:Nat):Int):=ah;generalize hp:m+n=p at hc MD e2;have D5:m<p:=ah;clear hp;simp(disch:=omega)only[dr,aa,simprocAttr,h0,h5,h6,Fw,IS,N4,avr,e1,e2];exact⟨s.length-p,ah,p,_,rfl,rfl,ah,rfl,dw,hc⟩
 ·intro st gZ
  obtain⟨T,rfl,o,h2,h3,h4⟩:=gZ.out;exact vE3 h2 h3 h4
 ·simp(disch:=omega)only[jh,aa,simprocAttr]
  exact⟨0,[],rfl,rfl,ah,ah,ag,cT e⟩
def dh(s:aB):aB × aB:=if 0<=dD 10 0 s then (s.take ((dD 10 0 s).toNat+1),s.drop ((dD 10 0 s).toNat+1)) else (s,[])
def QF:∀ (s:aB) (j:Nat),dD 10 j s=-1\/∃ k:Nat,k<s.length/\dD 10 j s=((j+k:Nat):Int):=by
 intro s j
 rcases xC s j with ⟨h1,h2,_⟩|⟨k,h1,h2,_⟩
 ·exact .inl h2
 ·exact .inr ⟨k,h2,h1⟩
def ZZ(s:aB)(H:ae)(hs:s.length<=4611686018427387904):aj A 31 [.str s] H=some (.tuple [.str (dh s).1,.str (dh s).2],none):=by
 have hi:=CZ s H;unfold dh;refine cB (fn:=aeg) rfl rfl rfl ?_;unfold aeg
 rcases QF s 0 with h|⟨k,hk,h⟩
 ·rw[h] at hi ⊢
  rw[if_neg ah];exact fY hi
 ·rw[avt] at h
  rw[h] at hi ⊢;rw[if_pos ah];simp(disch:=omega)only[dr,aa,simprocAttr,hi,avr,au5]
def iB:List Tk->Nat
 | []=>0
 | t :: l=>t.2.length+t.1.length+iB l
def ou(tk:List Tk)(i en:Nat):Nat:=match tk[i]? with
 | some t=>iB (tk.take i)+t.2.length
 | none=>en
def rr:∀ a b:List Tk,iB (a++b)=iB a+iB b
 | [],b=>by simp[iB]
 | t :: a,b=>by simp only[avU,iB,rr a b];omega
theorem O1(tk:List Tk)(i en:Nat)(H:ae)(hb:Bu tk)(hl:iB tk<=4611686018427387904)(hn:tk.length<=4611686018427387904)(hi:i<=4611686018427387904)(he:en<=4611686018427387904) :
  aj A 28 [.slice (tk.map gL) false,.int .i64 i,.int .i64 en] H=some (.int .i64 (ou tk i en),none):=by
 refine cB (fn:=aef) rfl rfl rfl ?_;unfold aef;have bU:∀ j (t:Tk),tk[j]?=some t->(tk.map gL)[j]?=some ([.str t.1,.str t.2]:List AV):=fun j t h=>by rw[List.getElem?_map,h];rfl
 have hlen:(tk.map gL).length=tk.length:=ag
 by_cases Qp:tk.length<=i
 ·have:ou tk i en=en:=by unfold ou;rw[List.getElem?_eq_none Qp]
  rw[this];have hd:decide ((tk.length:Int)<=(i:Int))=true:=decide_eq_true ah;exact RQ hlen hd
 ·have aZ:i<tk.length:=ah
  have hd:decide ((tk.length:Int)<=(i:Int))=false:=av1 ah;simp(disch:=omega)only[dr,aa,simprocAttr,hlen,hd];refine uZ i (fun k=>HdG (fun T=>T 0=.slice (tk.map gL) false/\T 1=.int .i64 i/\T 7=.int .i64 (iB (tk.take k))/\(∃ b,T 17=.slice ((tk.map gL).take i) b)/\T 18=.int .i64 i/\T 19=.int .i64 k) H H.length) ?_ 0 _ (Nat.zero_le _) ?_
  ·rintro k s hk hs
   obtain⟨T,g,rfl,h0,h1,h7,⟨b,h17⟩,h18,h19⟩:=hs.out;simp(disch:=omega)only[dr,aa,simprocAttr,h18,h19];refine jt ?_ ?_<;>intro h
   ·have tF:k<i:=ah
    have hx:=auS (show k<tk.length by omega)
    generalize tk[k]=x at hx;have hr:((tk.map gL).take i)[k]?=some ([.str x.1,.str x.2]:List AV):=by rw[List.getElem?_take_of_lt tF];exact bU k x hx
    have hte:iB (tk.take (k+1))=iB (tk.take k)+(x.2.length+x.1.length):=by
     rw[awj,rr,hx];simp[iB]
    have hle:iB (tk.take (k+1))<=iB tk:=by
     have:=rr (tk.take (k+1)) (tk.drop (k+1))
     simp_all
    generalize iB (tk.take (k+1))=m' at hte hle;generalize iB (tk.take k)=m at h7 hte;simp(disch:=omega)only[aO,aa,simprocAttr,h0,h1,h7,h17,h18,h19,hr]
    grind
   ·have:k=i:=ah
    subst this;have hx:=auS aZ;have hp:ou tk k en=iB (tk.take k)+tk[k].2.length:=by unfold ou;rw[hx]
    have hle:iB (tk.take k)+tk[k].2.length<=iB tk:=by
     have:=rr (tk.take (k+1)) (tk.drop (k+1))
     rw[awB,awj,rr,hx] at this;simp[iB] at this;omega
    rw[hp];generalize tk[k]=x at hx hle;generalize iB (tk.take k)=m at h7 hle;have hr:=bU k x hx;exact vK4 h0 h1 h7 hr
  ·simp(disch:=omega)only[dr,aa,simprocAttr]
   exact⟨rfl,⟨false,rfl⟩,by rw[avK,hlen,axu ah]⟩
noncomputable def wq:ax:=by
 apply (fun{x:ax}(_:bo pT [3,4,5,6,7,9,10,13,15,16,17,18,19,20,21,22,45,50,56,68,78,84,109,113,120,129,147,158,181,186,193,199,30,33,95,138,700002,700008,700012,700014] [2,8,12,14,82,999999] [19,158,165,186,189,777777] Tryz.f8=some x)=>x);apply qM Tryz.f8 rfl rfl ?_ ?_ rfl rfl
 repeat' first|apply fX|apply dB|apply cK|apply dC|apply cM
 all_goals try(conv=>lhs;cbv)
 all_goals rfl
section
def pF:aH->aH
 | .seq a _=>a
 | c=>c
def pS:aH->aH
 | .seq _ b=>b
 | c=>c
def uQ:aH:=wq.body
def xL:aH:=pS uQ
def xM:aH:=pS xL
def yZ:aH:=pS xM
def zl:aH:=pS yZ
def zm:aH:=pS zl
def zo:aH:=pS zm
def zp:aH:=pS zo
def wx:aH:=pS zp
def Bp:aH:=pS wx
def nZ:aH:=pS Bp
def qf:aH:=pS nZ
def qK:aH:=pS qf
def qg:aH:=pS qK
def uR:aH:=pS qg
def vQ:aH:=pS uR
def yY:aH:=pS vQ
def afi:aH:=pS yY
def afj:aH:=pS afi
def aj6:aH:=pS afj
def Dn(P:AS->Prop):bJ->AS->Prop
 | .normal,s=>P s
 | _,_=>False
def xP{B:AP}{a b:aH}{s:AS}{Q:bJ->AS->Prop}{P:AS->Prop}(h1:W B a s (Dn P))(h2:∀ s',P s'->W B b s' Q):W B (.seq a b) s Q:=by
 rw[Wm];refine uc h1 fun e s' hs=>?_
 cases e with
 | normal=>exact h2 s' hs
 | _=>exact hs.elim
def PL(n:Nat):AP:={ fns:=fun f=>match f with|8=>some wq|_=>none,ov:=fun f=>match f with|8=>none|27=>some (lZ (Fc n))|f=>some (aj A f),aW:=xN }
def cL{n:Nat}(h:(PL n).ov f=some (aj A f)){H:ae}{r:AV × Option fR}(hr:aj A f args H=some r)(hn:args.all vw=true:=by rfl):aj (PL n) f args H=some r:=fZ (g:=aj A f) h hr hn
def ahJ{n:Nat}{tk:List Tk}{s s':PS}{H:ae}{f:Fm}(h:jn tk pl s H)(hn:n<=1000000)(he:tB (az tk) n (pE (az tk) n 0) s=some (f,s')):aj (PL n) 27 [.ref pl 0] H=some (.agg (bZ f),some ⟨aI tk pl s' H,pl⟩) :=
 fZ (g:=lZ (Fc n)) rfl (pK (fun _ hy=>Rc (.mk h hn he) hy) (.mk h hn he))
def abX:bM->Bool
 | .bV _=>false
 | _=>true
def aT(rows:List (List AV)):ae:=match rows with|[]=>[]|_=>List.replicate (rows.length-1) .dead++[.box bE rows.flatten]
def aA(base z:Nat)(rows:List (List AV)):AV:=match rows with|[]=>.aq|_=>.sref (base+rows.length) 0 rows.length z
def aci : (aT rows).length=rows.length:=by cases rows<;>simp[aT]
def WQ : ∀ o∈aT rows,abX o=true:=by
 intro o ho;cases rows with
 | nil=>simp[aT] at ho
 | cons r rows =>
  rcases auY.1 ho with h|h
  ·rw[(List.mem_replicate.1 h).2];rfl
  ·rw[ava.1 h];rfl
def WL(h:rows≠[]):(aT rows)[rows.length-1]?=some (.box bE rows.flatten):=by
 cases rows with
 | nil=>exact absurd rfl h
 | cons r rows=>simp[aT]
def acj{GW:List (List AV)}(h:rows≠[])(hl:GW.length=rows.length):(aT rows).set (rows.length-1) (.box bE GW.flatten)=aT GW:=by
 cases rows with
 | nil=>exact absurd rfl h
 | cons r rows =>
  cases GW with
  | nil=>simp at hl
  | cons r' GW =>
   have:GW.length=rows.length:=cT hl
   simp[aT,this]
def WM(h:rows≠[]):(aT rows).set (rows.length-1) .dead++[.box bE (rows.flatten++r)]=aT (rows++[r]):=by
 cases rows with
 | nil=>exact absurd rfl h
 | cons q rows =>
  have:(aT (q :: rows)).set ((q :: rows).length-1) .dead=List.replicate (rows.length+1) .dead:=by
   simp[aT,List.replicate_succ']
  rw[this];simp[aT]
def Bv{base:Nat}(h:rows≠[]):aA base z rows=.sref (base+rows.length) 0 rows.length z:=by
 cases rows with
 | nil=>exact absurd rfl h
 | cons r rows=>rfl
def pP(tk:List Tk)(H:ae)(s:PS)(D:List (List AV)):ae:=H++nC tk s :: aT D
section
variable {tk:List Tk}{H:ae}{s s' : PS}{D D' : List (List AV)}
def No:(pP tk H s D).length=H.length+1+D.length:=by simp[pP,aci];omega
def GO:(pP tk H s D)[H.length]?=some (nC tk s):=by simp[pP]
def OY(hD:D≠[]):(pP tk H s D)[H.length+D.length]?=some (.box bE D.flatten):=by
 have:0<D.length:=awo.2 hD
 rw[pP,List.getElem?_append_right ah,show H.length+D.length-H.length=(D.length-1)+1 by omega,avy]
 exact WL hD
def nO:aI tk H.length s' (pP tk H s D)=pP tk H s' D:=by
 unfold aI;rw[pP,List.set_append_right _ _ ah,awG,axh];rfl
def YZ(hD:D≠[])(h:D'.length=D.length):(pP tk H s D).set (H.length+D.length) (.box bE D'.flatten)=pP tk H s D':=by
 have:0<D.length:=awo.2 hD
 rw[pP,List.set_append_right _ _ ah,show H.length+D.length-H.length=(D.length-1)+1 by omega,aw1,acj hD h,pP]
def GN:PQ H.length (pP tk H s D):=by
 refine⟨by rw[No];omega,fun j cs hj hc=>?_⟩
 exfalso;rw[pP,List.getElem?_append_right hj] at hc
 match tU:j-H.length with
 | 0=>rw[tU] at hc;cases hc
 | m+1 =>
  rw[tU,avy] at hc;have:=WQ _ (au0 hc)
  simp[abX] at this
def aff(hb:Bu tk)(hs:s.i<=tk.length):jn tk H.length s (pP tk H s D):=⟨GN,GO,hb,hs⟩
theorem afg{B:AP}{t:Nat}(hw:∀ q∈D,q.length=14)(hr:r.length=14)(hp:r.all AV.plain=true)(hD:D.length<=100000) :
  Wr B 14 248 (aA H.length 14 D) (.slice [r] o) t os T (pP tk H s D) H.length gen K=WO B os ⟨T.put t (.sref (H.length+(D++[r]).length) 0 (D++[r]).length 14),pP tk H s (D++[r]),H.length,gen⟩ K:=by
 have fg:dZ [r]=true:=by unfold dZ;simp only[List.all_cons,List.all_nil,hp,Bool.and_self]
 have hlen:=No (tk:=tk) (H:=H) (s:=s) (D:=D);have hb:∀ x,Nat.blt (H.length+x) H.length=false:=fun x=>by
  cases h:Nat.blt (H.length+x) H.length with
  | true=>have:=avS h;omega
  | false=>rfl
 cases D with
 | nil =>
  show Wr B 14 248 .aq _ t os T _ _ gen K=_
  rw[acm (by unfold cE;simp[gF,hr]) fg,hlen]
  simp only[List.length_nil,au7];rw[hb];simp only[cond_false,pP,aT,List.append_nil,au8,avU,avM,List.length_nil,avt,avo,av8,List.length_cons,awG,axO]
 | cons q D =>
  show Wr B 14 248 (.sref (H.length+(q :: D).length) 0 (q :: D).length 14) _ t os T _ _ gen K=_
  have w9:(q :: D).flatten.length=(q :: D).length*14:=nV hw;rw[N1 (OY ag) w9 (by simp only[List.length_cons,List.length_nil] at hD ⊢;omega) (by simp only[List.length_cons,List.length_nil] at hD ⊢;omega) (by unfold gF;simp[hr]) fg,hlen]
  have qc:(pP tk H s (q :: D)).set (H.length+(q :: D).length) .dead++[.box bE ((q :: D).flatten++[r].flatten)]=pP tk H s ((q :: D)++[r]):=by
   have h1:=WM (rows:=q :: D) (r:=r) ag;rw[pP,List.set_append_right _ _ ah,show H.length+(q :: D).length-H.length=((q :: D).length-1)+1 by simp,aw1,pP,<- h1]
   grind
  have j7:=hb (q :: D).length
  grind
end
def mb(l:List Tok):List Tk:=l.map fun t=>(t.text,t.before)
def SV : fV l=(mb l).map gL:=by
 unfold fV mb;rw[avT];rfl
def WG:PS:=⟨0,false⟩
def psN(tk:List Tk):PS:=(aL (az tk) (aY (az tk) jW WG)).2
def nmN(tk:List Tk):aB:=(aL (az tk) (aY (az tk) jW WG)).1
def z5:List AV:=[.str [],.aq,.aq,.aq,.str []]
section
variable {n:Nat}{H:ae}{s fin:aB}{sc:List Tok}{tk:List Tk}{Q:bJ->AS->Prop}
def aj7(hs:s.length<=4611686018427387904)(hsc:cN s=(sc,fin, -1))(mO:tk=mb sc)(hb:Bu tk)
  (hQ:∀ T,T 0=.str s->T 2=.lbox 0 z5->T 3=.int .i64 0->T 4=.slice (tk.map gL) false->T 5=.str fin->T 7=.ref H.length 0->T 8=.lbox 1 [.str (nmN tk),.aq,.aq,.aq,.str []]->T 9=.slice [] true->W (PL n) wx ⟨T,pP tk H (psN tk) [],H.length,2⟩ Q) :
  W (PL n) uQ ⟨fm [.str s],H,H.length,0⟩ Q:=by
 have MN:uQ=.seq (pF uQ) (.seq (pF xL) (.seq (pF xM) (.seq (pF yZ) (.seq (pF zl) (.seq (pF zm) (.seq (pF zo) (.seq (pF zp) wx))))))):=rfl;rw[MN];have T3:∀ K,aj (PL n) 23 [.str s] K=some (.tuple [.slice (tk.map gL) false,.str fin,.int .i64 (-1)],none):=fun K=>by
  refine cL rfl ?_;rw[O5 s K hs,hsc,mO,<- SV]
 have aZ:∀ K:ae,(bif decide (K.length<K.length) then K.length else K.length)=K.length:=fun K=>ag
 have Lx:H++[.box 74 [.slice (tk.map gL) false,.int .i64 0,.bool false]]=pP tk H WG []:=rfl;have hw:aj (PL n) 24 [.ref H.length 0,.str [109,111,100,117,108,101]] (pP tk H WG [])=some (.tuple [],some ⟨pP tk H (aY (az tk) jW WG) [],H.length⟩):=by
  refine cL rfl ?_;have:=DX (K:=pP tk H WG []) GN hb (s:=WG) (w:=[109,111,100,117,108,101]) ag (Nat.zero_le _)
  rw[nO,nO] at this;exact this
 have sJ:aj (PL n) 25 [.ref H.length 0] (pP tk H (aY (az tk) jW WG) [])=some (.str (nmN tk),some ⟨pP tk H (psN tk) [],H.length⟩):=by
  refine cL rfl ?_;have:=vu (K:=pP tk H WG []) GN hb (s:=aY (az tk) jW WG) (gA a8 (Nat.zero_le _))
  rw[nO,nO] at this;exact this
 have oT:(bif decide (H.length<H.length) then H.length else H.length)=H.length:=ag
 simp(disch:=omega)only[jV,aa,simprocAttr,uQ,xL,xM,yZ,zl,zm,zo,zp,pF,pS,wq,T3,Lx,hw,sJ];refine hQ _ ?_ ?_ ?_ ?_ ?_ ?_ ?_ ?_<;>simp(disch:=omega)only[jV,aa,simprocAttr]
 all_goals rfl
end
end
end Go.Proofs.YtnhpoddlmjpapaaGreatDoor
end
