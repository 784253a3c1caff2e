/-
  A part of the proof of PrintLossless: UQ31, UQ32, U54, U55, U56, U53, U57, U58, U59, U60, UQ33, UQ34, UQ35, UQ36, UQ37, UQ38, UQ39, UQ40, UQ41, UQ42, UQ43.
-/
import Derived.Test.YtnhpoddlmjpapaaGreatDoorQ12
set_option linter.unusedSimpArgs false
set_option linter.unusedVariables false
set_option linter.defProp false
set_option maxHeartbeats 4000000
set_option maxRecDepth 100000
noncomputable section
namespace Go.Proofs.YtnhpoddlmjpapaaGreatDoor
open Go Go.Abs Go.Proofs
variable {st:AS}{b:Bool}{least:Int}{ks:List Tm}{r:List Tm × PS}{L jq l tx:List aB}{d f g i k:Nat}{s':PS}{β:Type}{w:aB}{Hx K:ae}{o:bM}
section
def pB:aH->aH
 | .block _ a=>a
 | .loop a=>a
 | c=>c
structure PT (s fin:aB) (tk:List Tk) (H:ae) (T:aD):Prop where
 t0:T 0=.str s
 t2:T 2=.lbox 0 z5
 t3:T 3=.int .i64 0
 t4:T 4=.slice (tk.map gL) false
 t5:T 5=.str fin
 t7:T 7=.ref H.length 0
def uC(l:List aB):AV:=match l with|[]=>.aq|_=>.slice (strs l) true
def nJ{a:aB} : strs l++[[.str a]]=strs (l++[a]):=by simp[strs]
def uX : (strs l).length=l.length:=by simp[strs]
section
variable {n:Nat}{H:ae}{s fin nm:aB}{tk:List Tk}{Q:bJ->AS->Prop}
def Us(s fin nm:aB)(tk:List Tk)(H:ae)(us:List aB)(s1:PS)(st:AS):Prop:=∃ T,st=⟨T,pP tk H s1 [],H.length,2⟩/\PT s fin tk H T/\T 8=.lbox 1 [.str nm,uC us,.aq,.aq,.str []]/\T 9=.slice [] true
def agv(hb:Bu tk){r:List aB × PS}{us:List aB}{s1:PS}(hk:us.length+k<=1000000)(qa:s1.i<=tk.length)(hr:rQ (az tk) k us s1=some r)(gZ:Us s fin nm tk H us s1 st) :
  W (PL n) (pF wx) st (Dn fun wB=>Us s fin nm tk H r.1 r.2 wB/\r.2.i<=tk.length/\r.1.length<=1000000):=by
 have hp:pF wx=.block 0 (.loop (pB (pB (pF wx)))):=rfl;rw[hp];rw[IN];refine oD 0 (fun k st=>∃ us s1,Us s fin nm tk H us s1 st/\us.length+k<=1000000/\s1.i<=tk.length/\rQ (az tk) k us s1=some r) (fun wB=>Us s fin nm tk H r.1 r.2 wB/\r.2.i<=tk.length/\r.1.length<=1000000) (fun _=>False) ?_ ?_ (fun _ h=>h.elim) k st ⟨us,s1,gZ,hk,qa,hr⟩
 ·rintro k st ⟨us,s1,⟨T,rfl,hT,e8,e9⟩,hk,qa,hr⟩
  have a0:=hT.t0;have a2:=hT.t2;have a3:=hT.t3;have a4:=hT.t4;have a5:=hT.t5;have a7:=hT.t7;have gb:=GO (tk:=tk) (H:=H) (s:=s1) (D:=[]);unfold nC at gb
  match k with
  | 0=>cases hr
  | k+1 =>
   unfold rQ at hr;cases jo:s1.bad with
   | true =>
    rw[jo] at hr;simp only[avW,avk,cond_false,auR] at hr;subst hr;rw[jo] at gb;simp(disch:=omega)only[jV,aa,simprocAttr,wq,wx,zp,zo,zm,zl,yZ,xM,xL,uQ,pF,pS,pB,a7,gb,bS,ab];exact⟨⟨_,rfl,⟨cz a0,cz a2,cz a3,cz a4,cz a5,cz a7⟩,cz e8,cz e9⟩,qa,ah⟩
   | false =>
    rw[jo] at hr gb;simp only[av5,avv] at hr;cases hw:(pk (az tk) s1==Au) with
    | false =>
     rw[hw,cond_false,auR] at hr;subst hr;have OB:aj (PL n) 26 [.ref H.length 0,.str [117,115,101]] (pP tk H s1 [])=some (.bool false,none):=by
      have:=Kk (K:=pP tk H s1 []) GN hb (w:=Au) qa hw
      rw[nO] at this;exact cL rfl this
     simp(disch:=omega)only[jV,aa,simprocAttr,wq,wx,zp,zo,zm,zl,yZ,xM,xL,uQ,pF,pS,pB,a7,gb,bS,ab,OB];exact⟨⟨_,rfl,⟨cz a0,cz a2,cz a3,cz a4,cz a5,cz a7⟩,cz e8,cz e9⟩,qa,ah⟩
    | true =>
     rw[hw,cond_true] at hr;have OB:aj (PL n) 26 [.ref H.length 0,.str [117,115,101]] (pP tk H s1 [])=some (.bool true,some ⟨pP tk H s1.up [],H.length⟩):=by
      have:=Kl (K:=pP tk H s1 []) GN hb (w:=Au) a8 hw
      rw[nO,nO] at this;exact cL rfl this
     have MO:=lk (w:=Au) a8 hw;have sJ:aj (PL n) 25 [.ref H.length 0] (pP tk H s1.up [])=some (.str (aL (az tk) s1.up).1,some ⟨pP tk H (aL (az tk) s1.up).2 [],H.length⟩):=by
      have:=vu (K:=pP tk H s1.up []) GN hb (s:=s1.up) MO
      rw[nO,nO] at this;exact cL rfl this
     have oT:(bif decide (H.length<H.length) then H.length else H.length)=H.length:=ag
     have uF:=jQ (s:=s1.up) MO;have AO:=nJ (l:=us) (a:=(aL (az tk) s1.up).1);have ri:=uX (l:=us);have HW:uC (us++[(aL (az tk) s1.up).1])=.slice (strs (us++[(aL (az tk) s1.up).1])) true:=by
      unfold uC;split
      ·rename_i h;simp at h
      ·rfl
     cases us with
     | nil =>
      have hu:uC []=.aq:=rfl;rw[hu] at e8;simp(disch:=omega)only[jV,aa,simprocAttr,wq,wx,zp,zo,zm,zl,yZ,xM,xL,uQ,pF,pS,pB,a7,e8,gb,bS,ab,cO,cJ,avp,avd,OB,sJ];refine⟨k,ah,[(aL (az tk) s1.up).1],_,⟨_,rfl,⟨cz a0,cz a2,cz a3,cz a4,cz a5,cz a7⟩,by simp(disch:=omega)only[jV,aa,simprocAttr];rfl,cz e9⟩,by simp at hk ⊢;omega,uF,hr⟩
     | cons u0 ur =>
      have hu:uC (u0 :: ur)=.slice (strs (u0 :: ur)) true:=rfl;rw[hu] at e8;simp(disch:=omega)only[jV,aa,simprocAttr,wq,wx,zp,zo,zm,zl,yZ,xM,xL,uQ,pF,pS,pB,a7,e8,gb,bS,ab,cO,cJ,avp,avd,OB,sJ];refine⟨k,ah,(u0 :: ur)++[(aL (az tk) s1.up).1],_,⟨_,rfl,⟨cz a0,cz a2,cz a3,cz a4,cz a5,cz a7⟩,by simp(disch:=omega)only[jV,aa,simprocAttr];rfl,cz e9⟩,by simp at hk ⊢;omega,uF,hr⟩
 ·intro wB h
  exact h
end
end
section
theorem Ig{tk:List Tk}{n:Nat}{E:EP}(hE:iM tk E){s:PS}{r:Fm × PS}(h:tB (az tk) n E s=some r):Lq tk s r.2:=by
 unfold tB at h;simp only at h;cases hk:decide (mP (pk (az tk) s) fI 0<0) with
 | true =>
  grind [BN]
 | false =>
  rw[hk,cond_false] at h;have BK:pk (az tk) s≠[]:=by
   intro e;rw[e] at hk;revert hk;decide
  have MO:Lq tk s s.up:=⟨fun _=>by have:=tK BK;unfold PS.up;simp only;omega,id,Nat.le_succ _⟩
  simp only[auQ] at h;obtain⟨sl,h1,h⟩:=h;have l1:Lq tk s sl.2:=MO.tr (fJ.tr ((cU ag).tr (vo ag (fun a s r he=>sQ he) h1)))
  cases h2:(decide (mP (pk (az tk) s) fI 0=0) || decide (mP (pk (az tk) s) fI 0=1)) with
  | true =>
   grind
  | false =>
   rw[h2,cond_false,auQ] at h;obtain⟨w,h3,h⟩:=h;rw[auP] at h;obtain⟨b,h4,rfl⟩:=h;exact l1.tr ((mh _ _ _ h3).tr ((cU ag).tr (hE _ _ h4)))
def eI(es:List Nat):List Int:=es.map (fun e:Nat=>(e:Int))
def Xe{es:List Nat} : ints (eI es)++[[.int .i64 (i:Int)]]=ints (eI (es++[i])):=by simp[ints,eI]
def Mf{es:List Nat} : (ints (eI es)).length=es.length:=by simp[ints,eI]
theorem BF{f:Fm} : (bZ f).length=14:=by simp[bZ]
theorem yn{fs:List Fm} : ∀ q∈fs.map bZ,q.length=14:=by
 grind [BF]
def Ge{f:Fm} : (bZ f).all AV.plain=true:=rfl
section
variable {n:Nat}{H:ae}{s fin nm:aB}{us:List aB}{tk:List Tk}{Q:bJ->AS->Prop}
def Fs(s fin nm:aB)(us:List aB)(tk:List Tk)(H:ae)(fs:List Fm)(es:List Nat)(s1:PS)(st:AS):Prop:=∃ T,st=⟨T,pP tk H s1 (fs.map bZ),H.length,2⟩/\PT s fin tk H T/\T 8=.lbox 1 [.str nm,uC us,aA H.length 14 (fs.map bZ),.aq,.str []]/\T 9=.slice (ints (eI es)) true
def acN{s1:PS}(qa:s1.i<=tk.length)(mO:tk.length<=100000)(gZ:Us s fin nm tk H us s1 st):W (PL n) (pF Bp) st (Dn (Fs s fin nm us tk H [] [s1.i] s1)):=by
 obtain⟨T,rfl,hT,e8,e9⟩:=gZ;have a0:=hT.t0;have a2:=hT.t2;have a3:=hT.t3;have a4:=hT.t4;have a5:=hT.t5;have a7:=hT.t7;have gb:=GO (tk:=tk) (H:=H) (s:=s1) (D:=[]);unfold nC at gb;simp(disch:=omega)only[jV,aa,simprocAttr,wq,Bp,wx,zp,zo,zm,zl,yZ,xM,xL,uQ,pF,pS,a7,e9,gb,bS,ab];exact⟨_,rfl,⟨cz a0,cz a2,cz a3,cz a4,cz a5,cz a7⟩,by simp(disch:=omega)only[jV,aa,simprocAttr,e8];rfl,by simp(disch:=omega)only[jV,aa,simprocAttr];rfl⟩
def XF(hb:Bu tk)(mO:tk.length<=100000)(hn:n<=1000000){r:(List Fm × List Nat) × PS}{fs:List Fm}{es:List Nat}{s1:PS}(hk:fs.length+k<=100000)(IT:es.length=fs.length+1)(qa:s1.i<=tk.length)(hr:o8 (az tk) n k (fs,es) s1=some r)(gZ:Fs s fin nm us tk H fs es s1 st) :
  W (PL n) (pF nZ) st (Dn fun wB=>Fs s fin nm us tk H r.1.1 r.1.2 r.2 wB/\r.2.i<=tk.length/\r.1.1.length<=100000/\r.1.2.length=r.1.1.length+1):=by
 have hp:pF nZ=.block 2 (.loop (pB (pB (pF nZ)))):=rfl;rw[hp];rw[IN];refine oD 2 (fun k st=>∃ fs es s1,Fs s fin nm us tk H fs es s1 st/\fs.length+k<=100000/\es.length=fs.length+1/\s1.i<=tk.length/\o8 (az tk) n k (fs,es) s1=some r) (fun wB=>Fs s fin nm us tk H r.1.1 r.1.2 r.2 wB/\r.2.i<=tk.length/\r.1.1.length<=100000/\r.1.2.length=r.1.1.length+1) (fun _=>False) ?_ ?_ (fun _ h=>h.elim) k st ⟨fs,es,s1,gZ,hk,IT,qa,hr⟩
 ·rintro k st ⟨fs,es,s1,⟨T,rfl,hT,e8,e9⟩,hk,IT,qa,hr⟩
  have a0:=hT.t0;have a2:=hT.t2;have a3:=hT.t3;have a4:=hT.t4;have a5:=hT.t5;have a7:=hT.t7;have gb:=GO (tk:=tk) (H:=H) (s:=s1) (D:=fs.map bZ);unfold nC at gb;have qq:(tk.map gL).length=tk.length:=ag;have kJ:(az tk).length=tk.length:=by simp[az]
  match k with
  | 0=>cases hr
  | k+1 =>
   unfold o8 at hr;rw[kJ] at hr;have stop:∀ (h:some ((fs,es),s1)=some r),r=((fs,es),s1):=fun h=>(avF h).symm
   cases jo:s1.bad with
   | true =>
    rw[jo] at hr;simp only[avW,avk,cond_false] at hr;obtain rfl:=stop hr;rw[jo] at gb;simp(disch:=omega)only[jV,aa,simprocAttr,wq,nZ,Bp,wx,zp,zo,zm,zl,yZ,xM,xL,uQ,pF,pS,pB,a7,gb,bS,ab];exact⟨⟨_,rfl,⟨cz a0,cz a2,cz a3,cz a4,cz a5,cz a7⟩,cz e8,cz e9⟩,qa,ah,IT⟩
   | false =>
    rw[jo] at hr gb;simp only[av5,avv] at hr;cases hw:Nat.blt s1.i tk.length with
    | false =>
     rw[hw,cond_false] at hr;obtain rfl:=stop hr;have aZ:¬ s1.i<tk.length:=by intro h;rw[show Nat.blt s1.i tk.length=true by rw[avh];exact h] at hw;cases hw
     have hle:s1.i=tk.length:=ah;simp(disch:=omega)only[jV,aa,simprocAttr,wq,nZ,Bp,wx,zp,zo,zm,zl,yZ,xM,xL,uQ,pF,pS,pB,a4,a7,gb,bS,ab,qq];exact⟨⟨_,rfl,⟨cz a0,cz a2,cz a3,cz a4,cz a5,cz a7⟩,cz e8,cz e9⟩,qa,ah,IT⟩
    | true =>
     rw[hw,cond_true,auQ] at hr;obtain⟨⟨f,s2⟩,hf,hr⟩:=hr;have aZ:s1.i<tk.length:=by rw[avh] at hw;exact hw
     have AL:=ahJ (n:=n) (aff (D:=fs.map bZ) (H:=H) hb qa) hn hf;rw[nO] at AL;have xe:s2.i<=tk.length:=(Ig (jY _ _) hf).le qa;have Qm:=GO (tk:=tk) (H:=H) (s:=s2) (D:=(fs++[f]).map bZ);unfold nC at Qm;have oT:(bif decide (H.length<H.length) then H.length else H.length)=H.length:=ag
     have vN:=fun (B:AP) (T:aD) gen t K os o=>afg (B:=B) (T:=T) (tk:=tk) (H:=H) (s:=s2) (D:=fs.map bZ) (r:=bZ f) (gen:=gen) (t:=t) (K:=K) (os:=os) (o:=o) yn BF Ge (by rw[List.length_map];omega)
     have hma:fs.map bZ++[bZ f]=(fs++[f]).map bZ:=ag;have hA' : aA H.length 14 ((fs++[f]).map bZ)=.sref (H.length+((fs++[f]).map bZ).length) 0 ((fs++[f]).map bZ).length 14:=Bv ag;have hei:∀ o,aF false 1 8 (.slice (ints (eI es)) true) (.slice [[.int .i64 (s2.i:Int)]] o)=some (.slice (ints (eI (es++[s2.i]))) true):=fun o=>by
      rw[<- Xe];exact Jc (l:=eI es) (m:=[(s2.i:Int)]) (o:=o) (by simp[eI];omega) |>.trans (by simp[ints])
     have CN:=Mf (es:=es);rw[hma,<- hA'] at vN;have hpe:=Ge (f:=f);rw[bZ] at AL vN hpe;have hD:aA H.length 14 (fs.map bZ)=.aq\/aA H.length 14 (fs.map bZ)=.sref (H.length+(fs.map bZ).length) 0 (fs.map bZ).length 14:=by
      cases fs with
      | nil=>exact .inl rfl
      | cons d ds=>exact .inr rfl
     rcases hD with hD|hD
     all_goals
      rw[hD] at e8;simp only[hD,List.length_map] at vN;simp(disch:=omega)only[jV,aa,simprocAttr,wq,nZ,Bp,wx,zp,zo,zm,zl,yZ,xM,xL,uQ,pF,pS,pB,a4,a7,e8,e9,gb,bS,ab,cO,cJ,avp,avd,qq,AL,vN,Qm,hei,hA'];refine⟨k,ah,fs++[f],es++[s2.i],_,⟨_,rfl,⟨cz a0,cz a2,cz a3,cz a4,cz a5,cz a7⟩,cz hA',wF⟩,by simp at hk ⊢;omega,by simp[IT],xe,hr⟩
 ·intro wB h
  exact h
end
end
def dE{mm:Nat}(h:PW mm K)(xs l:List aB)(b:Bool)(hx:xs.length<=1000)(hl:l.length+xs.length<=10000000):aj A 60 [.ref mm 0,.slice (strs xs) false] (cI mm l b K)=some (.undef,some ⟨cI mm (l++xs) b K,mm⟩):=by
 refine cW Yl.eq_1 ?_;have h0:=fQ (l:=l) (b:=b) h;unfold nq at h0;have a1:aF false 1 16 (.slice (strs l) true) (.slice (strs xs) false)=some (.slice (strs (l++xs)) true):=cx ah;have aZ:=h.lt;have ho:=h.open (l++xs) b;have h1:∀ x:bM,((cI mm l b K).set mm x)[mm]?=some x:=fun x=>List.getElem?_set_self (by rw[bw];exact aZ)
 simp(disch:=omega)only[aO,aa,simprocAttr,h0,h1,a1,bw,y7,List.set_set,gk,ho,cO,cJ,avd,ab]
def VZ(n:Int):0<=(da n).2/\(da n).2<=7:=by
 by_cases h:0<=n/\n<=11
 ·have:n=0\/n=1\/n=2\/n=3\/n=4\/n=5\/n=6\/n=7\/n=8\/n=9\/n=10\/n=11:=ah
  rcases this with rfl|rfl|rfl|rfl|rfl|rfl|rfl|rfl|rfl|rfl|rfl|rfl<;>decide
 ·rw[La h];decide
theorem wR:∀ (k f n:Nat) (acc:aB),n<10 ^ (k+1)->(gO f n acc).length<=acc.length+k+1
 | _,0,n,acc,_=>by rw[gO];omega
 | 0,f+1,n,acc,h=>by
  have:Nat.blt n 10=true:=by simp[avh];omega
  rw[gO,this,cond_true];simp
 | k+1,f+1,n,acc,h=>by
  rw[gO];cases hb:Nat.blt n 10 with
  | true=>simp only[cond_true,List.length_cons];omega
  | false =>
   simp only[cond_false];have h2:n / 10<10 ^ (k+1):=by rw[Nat.pow_succ] at h;omega
   have:=wR k f (n / 10) (UInt8.ofNat (48+n % 10) :: acc) h2
   grind
theorem x9{n:Nat}(h:n<=2199023255552):(lR n).length<=14:=by
 have:=wR 12 (n+1) n [] ah
 unfold lR
 grind
theorem iA{t:Tm}(h:ay t=true):cw t=true:=by
 have hO:=vy h;obtain⟨k0,k12⟩:=yW hO;have b1:=hO.b1;have b2:=hO.b2;have b3:=hO.b3;have b4:=hO.b4;have b6:=hO.b6;unfold qT nR at b1;unfold rY jC at b2;unfold rZ at b3;unfold qU at b4;unfold se at b6;unfold cw
 rcases uK t.kind with e|e|e|e|e|e|e|e|e|e|e|e|e|e
 ·rw[e,show fE 0=[110] from rfl]
  simp[e,bR] at b1 b2 b3 b4 b6;simp only[oX,show cC [110] 110=false from rfl,show cC [110] 97=true from rfl,show cC [110] 102=true from rfl,show cC [110] 116=true from rfl,show cC [110] 107=true from rfl,show cC [110] 115=true from rfl]
  simp_all
 ·rw[e,show fE 1=[110] from rfl]
  simp[e,bR] at b1 b2 b3 b4 b6;simp only[oX,show cC [110] 110=false from rfl,show cC [110] 97=true from rfl,show cC [110] 102=true from rfl,show cC [110] 116=true from rfl,show cC [110] 107=true from rfl,show cC [110] 115=true from rfl]
  simp_all
 ·rw[e,show fE 2=[97] from rfl]
  simp[e,bR] at b1 b2 b3 b4 b6;simp only[oX,show cC [97] 110=true from rfl,show cC [97] 97=false from rfl,show cC [97] 102=true from rfl,show cC [97] 116=true from rfl,show cC [97] 107=true from rfl,show cC [97] 115=true from rfl]
  simp_all
 ·rw[e,show fE 3=[97,107] from rfl]
  simp[e,bR] at b1 b2 b3 b4 b6;simp only[oX,show cC [97,107] 110=true from rfl,show cC [97,107] 97=false from rfl,show cC [97,107] 102=true from rfl,show cC [97,107] 116=true from rfl,show cC [97,107] 107=false from rfl,show cC [97,107] 115=true from rfl]
  simp_all
 ·rw[e,show fE 4=[110,107] from rfl]
  simp[e,bR] at b1 b2 b3 b4 b6;simp only[oX,show cC [110,107] 110=false from rfl,show cC [110,107] 97=true from rfl,show cC [110,107] 102=true from rfl,show cC [110,107] 116=true from rfl,show cC [110,107] 107=false from rfl,show cC [110,107] 115=true from rfl]
  grind
 ·rw[e,show fE 5=[107] from rfl]
  simp[e,bR] at b1 b2 b3 b4 b6;simp only[oX,show cC [107] 110=true from rfl,show cC [107] 97=true from rfl,show cC [107] 102=true from rfl,show cC [107] 116=true from rfl,show cC [107] 107=false from rfl,show cC [107] 115=true from rfl]
  simp_all
 ·rw[e,show fE 6=[107,115] from rfl]
  simp[e,bR] at b1 b2 b3 b4 b6;simp only[oX,show cC [107,115] 110=true from rfl,show cC [107,115] 97=true from rfl,show cC [107,115] 102=true from rfl,show cC [107,115] 116=true from rfl,show cC [107,115] 107=false from rfl,show cC [107,115] 115=false from rfl]
  simp_all
 ·rw[e,show fE 7=[97,107,115] from rfl]
  simp[e,bR] at b1 b2 b3 b4 b6;simp only[oX,show cC [97,107,115] 110=true from rfl,show cC [97,107,115] 97=false from rfl,show cC [97,107,115] 102=true from rfl,show cC [97,107,115] 116=true from rfl,show cC [97,107,115] 107=false from rfl,show cC [97,107,115] 115=false from rfl]
  simp_all
 ·rw[e,show fE 8=[97,102,107] from rfl]
  simp[e,bR] at b1 b2 b3 b4 b6;simp only[oX,show cC [97,102,107] 110=true from rfl,show cC [97,102,107] 97=false from rfl,show cC [97,102,107] 102=false from rfl,show cC [97,102,107] 116=true from rfl,show cC [97,102,107] 107=false from rfl,show cC [97,102,107] 115=true from rfl]
  simp_all
 ·rw[e,show fE 9=[97,102,107] from rfl]
  simp[e,bR] at b1 b2 b3 b4 b6;simp only[oX,show cC [97,102,107] 110=true from rfl,show cC [97,102,107] 97=false from rfl,show cC [97,102,107] 102=false from rfl,show cC [97,102,107] 116=true from rfl,show cC [97,102,107] 107=false from rfl,show cC [97,102,107] 115=true from rfl]
  simp_all
 ·rw[e,show fE 10=[97,107,115] from rfl]
  simp[e,bR] at b1 b2 b3 b4 b6;simp only[oX,show cC [97,107,115] 110=true from rfl,show cC [97,107,115] 97=false from rfl,show cC [97,107,115] 102=true from rfl,show cC [97,107,115] 116=true from rfl,show cC [97,107,115] 107=false from rfl,show cC [97,107,115] 115=false from rfl]
  simp_all
 ·rw[e,show fE 11=[116,107] from rfl]
  simp[e,bR] at b1 b2 b3 b4 b6;simp only[oX,show cC [116,107] 110=true from rfl,show cC [116,107] 97=true from rfl,show cC [116,107] 102=true from rfl,show cC [116,107] 116=false from rfl,show cC [116,107] 107=false from rfl,show cC [116,107] 115=true from rfl]
  simp_all
 ·rw[e,show fE 12=[107,115] from rfl]
  simp[e,bR] at b1 b2 b3 b4 b6;simp only[oX,show cC [107,115] 110=true from rfl,show cC [107,115] 97=true from rfl,show cC [107,115] 102=true from rfl,show cC [107,115] 116=true from rfl,show cC [107,115] 107=false from rfl,show cC [107,115] 115=false from rfl]
  simp_all
 ·omega
def Am{H:ae}{a:bM} : (cI (H.length+1) l b (H++[a,o])).take H.length=H:=by
 unfold cI;rw[s2b];exact h2t
def IK{H:ae}{a:bM} : (cI (H.length+1) l b (H++[a,o]))[H.length]?=some a:=by
 unfold cI;rw[s2b];exact h2a
def xH{H:ae}{a x:bM} : ((cI (H.length+1) l b (H++[a,o])).set (H.length+1) x).take H.length=H:=by
 unfold cI;rw[s2b,s2b];exact h2t
def zero_eq(n:aB)(ks:List Wd)(t:Tm):(pZ n ks&&gX t)=((n==[])&&(((ks.length:Int)==0)&&((t.kind==0)&&(cw t&&(t.n==0))))):=by
 have h1:((ks.length:Int)==0)=ks.isEmpty:=by cases ks<;>simp;omega
 rw[h1];unfold pZ gX;cases hk:(t.kind==0) with
 | false=>simp
 | true =>
  have e:t.kind=0:=cT hk;have hu:cw t=((t.name==[])&&((t.field==[])&&(pZ t.wn t.wk&&((t.names==[])&&t.kids.isEmpty)))):=by
   unfold cw;rw[e,show fE 0=[110] from rfl]
   simp only[oX,show cC [110] 110=false from rfl,show cC [110] 97=true from rfl,show cC [110] 102=true from rfl,show cC [110] 116=true from rfl,show cC [110] 107=true from rfl,show cC [110] 115=true from rfl,pZ]
   cases t.name==[]<;>cases t.field==[]<;>cases t.wn==[]<;>cases t.wk<;>cases t.names<;>cases t.kids<;>simp
  rw[hu];cases (n==[])<;>cases ks.isEmpty<;>cases (t.n==0)<;>simp
def ahQ:A.aW 0=[.slice (strs fI) false]:=rfl
def J5(nm:aB)(us:List aB)(x y z:AV)(sJ:nm.length<=1100000)(T6:us.length<=1100000)(hub:∀ u∈us,u.length<=1100000)(H:ae)(hhx:aX H.length x=true)(hhy:aX H.length y=true)(hhz:aX H.length z=true)(hdx:x.drop=x)(hdy:y.drop=y)(hdz:z.drop=z):aj A 29 [.agg [.str nm,.slice (strs us) false,x,y,z]] H=some (.slice (strs (ff ⟨nm,us,[],[],[]⟩)) true,none):=by
 obtain⟨K,hK⟩:∃ K,K=H++[.box 33 [.str nm,.slice (strs us) false,x,y,z],.box 115 [.aq,.bool false]]:=⟨_,rfl⟩;obtain⟨mm,AM⟩:∃ mm,mm=H.length+1:=⟨_,rfl⟩;have hKl:K.length=H.length+2:=by rw[hK];simp
 have hP:PW mm K:=⟨ah,fun j cs hj=>by
  rw[hK,AM] at *;intro e;rw[List.getElem?_append_right ah] at e
  match tU:j-H.length with
  | 0=>omega
  | 1=>rw[tU] at e;cases e
  | n+2=>rw[tU] at e;simp at e⟩
 have h0:K[mm]?=some (.box 115 [.aq,.bool false]):=by rw[hK,AM];exact h2b
 have ef:=Nw hP [[109,111,100,117,108,101]] ag h0;rw[tT] at ef;obtain⟨l1,e1,t1,n1⟩:=sU hP nm (by have:=sJ;omega) [[109,111,100,117,108,101]] false ag
 simp only[List.length_cons,List.length_nil,avP] at e1 t1 n1;have fO:∀ l b,(cI mm l b K)[H.length]?=some (.box 33 [.str nm,.slice (strs us) false,x,y,z]):=fun l b=>by rw[hK,AM];exact IK
 have tG:∀ l b,(cI mm l b K).take H.length=H:=fun l b=>by rw[hK,AM];exact Am
 have CX:∀ l b x,((cI mm l b K).set mm x).take H.length=H:=fun l b x=>by rw[hK,AM];exact xH
 have tP:decide (H.length+1<H.length)=false:=ag;have qD:decide (mm<H.length)=false:=dw;have hus:∀ i,i<=us.length->(us.take i).all isWord=(us.take i).all isWord:=fun _ _=>rfl
 have I2:=fun l b=>fQ (l:=l) (b:=b) hP
 unfold nq at I2;refine cB (fn:=HZ) rfl rfl rfl ?_;refine im 3 (fun st=>∃ T,st=⟨T,cI mm l1 (!isWord nm) K,H.length,0⟩/\T 1=.ref H.length 0/\T 3=.ref mm 0) ?_ ?_
 ·unfold HZ
  simp only[aH.pre];have hKs:H++[bM.box 33 [.str nm,.slice (strs us) false,x,y,z],.box 115 [.aq,.bool false]]=K:=hK.symm;have TK:H.length+1=mm:=AM.symm;generalize (!isWord nm)=b1 at *;simp(disch:=omega)only[aO,aa,simprocAttr,hhx,hhy,hhz,hdx,hdy,hdz,Bool.and_self,TK,hKs,ef,e1,fO,qD,au4,ab];exact⟨_,rfl,jd,jd⟩
 ·rintro st ⟨T,rfl,q1,q3⟩
  refine im 0 (fun st=>∃ T l',st=⟨T,cI mm l' (!(isWord nm&&us.all isWord)) K,H.length,0⟩/\T 3=.ref mm 0/\((isWord nm&&us.all isWord)=true->l'=heads ⟨nm,us,[],[],[]⟩)) ?_ ?_
  ·unfold HZ
   simp only[aH.post,aH.pre];simp(disch:=omega)only[aO,aa,simprocAttr,q1,fO,bG,ab];refine cj us.length 0 (fun i st=>∃ T l',st=⟨T,cI mm l' (!(isWord nm&&(us.take i).all isWord)) K,H.length,0⟩/\T 3=.ref mm 0/\T 16=.slice (strs us) false/\T 17=.int .i64 us.length/\T 18=.int .i64 i/\((isWord nm&&(us.take i).all isWord)=true->l'=[[109,111,100,117,108,101],nm]++((us.take i).map fun u=>[[117,115,101],u]).flatten)/\l'.length<=2+2*i)
    (fun st=>∃ T l',st=⟨T,cI mm l' (!(isWord nm&&us.all isWord)) K,H.length,0⟩/\T 3=.ref mm 0/\((isWord nm&&us.all isWord)=true->l'=heads ⟨nm,us,[],[],[]⟩)) (fun _=>False) ?_ (fun st h=>h) (fun _ h=>h.elim) 0 _ ah ?_
   ·rintro i st hi ⟨T,l',rfl,q3,q16,q17,q18,ht,Fu⟩
    by_cases aZ:i<us.length
    ·have hx:=auS aZ
     have hm:=avj aZ;have mO:=kg hx;generalize us[i]=u at hx hm mO;have gb:=iz hx;have asK:=hub u hm;obtain⟨l2,e2,t2,n2⟩:=A2 hP [[117,115,101]] ag l' (!(isWord nm&&(us.take i).all isWord)) ko;simp only[List.length_cons,List.length_nil] at n2;rw[orT,tT] at e2;rw[orT] at t2;obtain⟨l3,e3,t3,n3⟩:=sU hP u ah l2 (!(isWord nm&&(us.take i).all isWord)) ah;have eo:(!(isWord nm&&(us.take i).all isWord) || !isWord u)=!(isWord nm&&(us.take (i+1)).all isWord):=by
      rw[mO,awI];simp only[List.all_cons,List.all_nil,avI];cases isWord nm<;>cases (us.take i).all isWord<;>cases isWord u<;>rfl
     rw[eo] at e3 t3;have qE:(isWord nm&&(us.take (i+1)).all isWord)=true->(isWord nm&&(us.take i).all isWord)=true:=by
      rw[mO,awI];cases isWord nm<;>cases (us.take i).all isWord<;>simp
     generalize (isWord nm&&(us.take (i+1)).all isWord)=ok1 at *;generalize (isWord nm&&(us.take i).all isWord)=ok0 at *;simp(disch:=omega)only[aO,aa,simprocAttr,q3,q16,q17,q18,gb,e2,e3,qD,ab];refine⟨aZ,_,l3,rfl,?_,?_,?_,?_,fun h=>?_,ah⟩
     all_goals first|(simp(disch:=omega)only[dr,aa,simprocAttr,q3,q16,q17];done)|skip
     have h1:=qE h;rw[t3 (xD h),t2 (xD h1),ht h1,mO];simp
    ·obtain rfl:i=us.length:=ah
     rw[avr] at ht ⊢;generalize (isWord nm&&us.all isWord)=ok0 at *;simp(disch:=omega)only[aO,aa,simprocAttr,q17,q18,au4];exact⟨_,l',rfl,fY q3,fun h=>by rw[ht h];rfl⟩
   ·have e0:cI mm l1 (!isWord nm) K=cI mm l1 (!(isWord nm&&(us.take 0).all isWord)) K:=by rw[avV,List.all_nil,avI]
    refine⟨_,l1,awu (fun x=>AS.mk _ x _ _) e0,?_,?_,?_,?_,fun h=>?_,ah⟩
    all_goals first|(simp(disch:=omega)only[dr,aa,simprocAttr,q3];done)|skip
    simp only[avV,List.all_nil,avI] at h;rw[t1 (xD h)];simp
  ·rintro st ⟨T,l',rfl,q3,ht⟩
   unfold HZ;simp only[aH.post];unfold ff;cases qE:(isWord nm&&us.all isWord) with
   | true =>
    have h2:=ht qE;simp only[auT] at qE;rw[if_pos qE,h2];simp(disch:=omega)only[aO,aa,simprocAttr,q3,I2,CX,qD,cO,cJ,avd,ab]
   | false =>
    rw[if_neg (by intro h;rw[h.1,h.2] at qE;cases qE)]
    simp(disch:=omega)only[aO,aa,simprocAttr,q3,I2,tG,ma,ab]
def TE(nm:aB)(x y z:AV)(sJ:nm.length<=1100000)(H:ae)(hhx:aX H.length x=true)(hhy:aX H.length y=true)(hhz:aX H.length z=true)(hdx:x.drop=x)(hdy:y.drop=y)(hdz:z.drop=z):aj A 29 [.agg [.str nm,.aq,x,y,z]] H=some (.slice (strs (ff ⟨nm,[],[],[],[]⟩)) true,none):=by
 obtain⟨K,hK⟩:∃ K,K=H++[.box 33 [.str nm,.aq,x,y,z],.box 115 [.aq,.bool false]]:=⟨_,rfl⟩;obtain⟨mm,AM⟩:∃ mm,mm=H.length+1:=⟨_,rfl⟩;have hKl:K.length=H.length+2:=by rw[hK];simp
 have hP:PW mm K:=⟨ah,fun j cs hj=>by
  rw[hK,AM] at *;intro e;rw[List.getElem?_append_right ah] at e
  match tU:j-H.length with
  | 0=>omega
  | 1=>rw[tU] at e;cases e
  | n+2=>rw[tU] at e;simp at e⟩
 have h0:K[mm]?=some (.box 115 [.aq,.bool false]):=by rw[hK,AM];exact h2b
 have ef:=Nw hP [[109,111,100,117,108,101]] ag h0;rw[tT] at ef;obtain⟨l1,e1,t1,n1⟩:=sU hP nm (by have:=sJ;omega) [[109,111,100,117,108,101]] false ag
 simp only[List.length_cons,List.length_nil,avP] at e1 t1 n1;have fO:∀ l b,(cI mm l b K)[H.length]?=some (.box 33 [.str nm,.aq,x,y,z]):=fun l b=>by rw[hK,AM];exact IK
 have tG:∀ l b,(cI mm l b K).take H.length=H:=fun l b=>by rw[hK,AM];exact Am
 have CX:∀ l b x,((cI mm l b K).set mm x).take H.length=H:=fun l b x=>by rw[hK,AM];exact xH
 have tP:decide (H.length+1<H.length)=false:=ag;have qD:decide (mm<H.length)=false:=dw;have I2:=fun l b=>fQ (l:=l) (b:=b) hP
 unfold nq at I2;refine cB (fn:=HZ) rfl rfl rfl ?_;refine im 3 (fun st=>∃ T,st=⟨T,cI mm l1 (!isWord nm) K,H.length,0⟩/\T 1=.ref H.length 0/\T 3=.ref mm 0) ?_ ?_
 ·unfold HZ
  simp only[aH.pre];have hKs:H++[bM.box 33 [.str nm,.aq,x,y,z],.box 115 [.aq,.bool false]]=K:=hK.symm;have TK:H.length+1=mm:=AM.symm;generalize (!isWord nm)=b1 at *;simp(disch:=omega)only[aO,aa,simprocAttr,hhx,hhy,hhz,hdx,hdy,hdz,Bool.and_self,TK,hKs,ef,e1,fO,qD,au4,ab];exact⟨_,rfl,jd,jd⟩
 ·rintro st ⟨T,rfl,q1,q3⟩
  refine im 0 (fun st=>∃ T l',st=⟨T,cI mm l' (!isWord nm) K,H.length,0⟩/\T 3=.ref mm 0/\(isWord nm=true->l'=heads ⟨nm,[],[],[],[]⟩)) ?_ ?_
  ·unfold HZ
   simp only[aH.post,aH.pre];simp(disch:=omega)only[aO,aa,simprocAttr,q1,fO,ab];have ht:isWord nm=true->l1=heads ⟨nm,[],[],[],[]⟩:=fun h=>by
    rw[t1 (xD h)];rfl
   generalize isWord nm=ok0 at *;refine cj 0 0 (fun i st=>∃ T,st=⟨T,cI mm l1 (!ok0) K,H.length,0⟩/\T 3=.ref mm 0/\T 16=.aq/\T 17=.int .i64 0/\T 18=.int .i64 0)
    (fun st=>∃ T l',st=⟨T,cI mm l' (!ok0) K,H.length,0⟩/\T 3=.ref mm 0/\(ok0=true->l'=heads ⟨nm,[],[],[],[]⟩)) (fun _=>False) ?_ (fun st h=>h) (fun _ h=>h.elim) 0 _ ah ?_
   ·rintro i st hi ⟨T,rfl,q3,q16,q17,q18⟩
    simp(disch:=omega)only[aO,aa,simprocAttr,q17,q18];exact⟨_,l1,rfl,fY q3,ht⟩
   ·refine⟨_,rfl,?_,?_,?_,?_⟩
    all_goals exact fY q3
  ·rintro st ⟨T,l',rfl,q3,ht⟩
   unfold HZ;simp only[aH.post];unfold ff;cases qE:isWord nm with
   | true =>
    have h2:=ht qE;rw[if_pos ⟨rfl,rfl⟩,h2];simp(disch:=omega)only[aO,aa,simprocAttr,q3,I2,CX,qD,cO,cJ,avd,ab]
   | false =>
    rw[if_neg (by intro h;have:=h.1;cases this)]
    simp(disch:=omega)only[aO,aa,simprocAttr,q3,I2,tG,ma,ab]
section
structure WK (f:Fm):Prop where
 w:∀ H,aj A 30 [.agg (bZ f)] H=some (.slice (strs (l9 f)) true,none)
 l:(l9 f).length<=1000000
def RtE(tk:List Tk)(H:ae)(i:Nat)(st:AS):Prop:=∃ T s1 D g,st=⟨T,pP tk H s1 D,H.length,g⟩/\T 2=.lbox 0 z5/\T 3=.int .i64 (i:Int)
section
variable {n:Nat}{H:ae}{s fin nm:aB}{us:List aB}{tk:List Tk}{fs:List Fm}{es:List Nat}{s1:PS}{Q:bJ->AS->Prop}
def ahi(hb:Bu tk)(Qs:iB tk<=4611686018427387904)(mO:tk.length<=100000)(hs:s.length<=4611686018427387904)(qa:s1.i<=tk.length)(gZ:Fs s fin nm us tk H fs es s1 st)(hT:s1.bad=true->∀ wB,RtE tk H (ou tk s1.i s.length) wB->Q .ret wB)
  (hF:s1.bad=false->∀ wB,Fs s fin nm us tk H fs es s1 wB->W (PL n) qK wB Q):W (PL n) qf st Q:=by
 obtain⟨T,rfl,oF,e8,e9⟩:=gZ;have a0:=oF.t0;have a2:=oF.t2;have a3:=oF.t3;have a4:=oF.t4;have a5:=oF.t5;have a7:=oF.t7;have gb:=GO (tk:=tk) (H:=H) (s:=s1) (D:=fs.map bZ);unfold nC at gb;have MM:qf=.seq (pF qf) qK:=rfl;rw[MM];have ij:∀ K,aj (PL n) 28 [.slice (tk.map gL) false,.int .i64 s1.i,.int .i64 s.length] K=some (.int .i64 (ou tk s1.i s.length),none):=fun K=>cL rfl (O1 tk s1.i s.length K hb Qs (by omega) (by omega) hs)
 have hz:z5=[.str [],.aq,.aq,.aq,.str []]:=rfl;cases jo:s1.bad with
 | true =>
  rw[jo] at gb;simp(disch:=omega)only[jV,aa,simprocAttr,wq,qK,qf,nZ,Bp,wx,zp,zo,zm,zl,yZ,xM,xL,uQ,pF,pS,a0,a2,a4,a7,gb,bS,ab,ij,hz];exact hT jo _ ⟨_,_,_,_,rfl,by simp(disch:=omega)only[jV,aa,simprocAttr];rfl,wF⟩
 | false =>
  rw[jo] at gb;simp(disch:=omega)only[jV,aa,simprocAttr,wq,qf,nZ,Bp,wx,zp,zo,zm,zl,yZ,xM,xL,uQ,pF,pS,a7,gb,bS,ab];exact hF jo _ ⟨_,rfl,⟨cz a0,cz a2,cz a3,cz a4,cz a5,cz a7⟩,cz e8,cz e9⟩
def Gs(s fin nm:aB)(us:List aB)(tk:List Tk)(H:ae)(fs:List Fm)(es:List Nat)(s1:PS)(P:aD->Prop)(st:AS):Prop:=∃ T g,st=⟨T,pP tk H s1 (fs.map bZ),H.length,g⟩/\PT s fin tk H T/\T 8=.lbox 1 [.str nm,uC us,aA H.length 14 (fs.map bZ),.aq,.str []]/\T 9=.slice (ints (eI es)) true/\P T
def XO(sJ:nm.length<=1100000)(T6:us.length<=1100000)(hub:∀ u∈us,u.length<=1100000)(gZ:Fs s fin nm us tk H fs es s1 st) :
  W (PL n) (pF qK) st (Dn (Gs s fin nm us tk H fs es s1 fun T=>T 10=.slice (strs (ff ⟨nm,us,[],[],[]⟩)) true)):=by
 obtain⟨T,rfl,oF,e8,e9⟩:=gZ;have a0:=oF.t0;have a2:=oF.t2;have a3:=oF.t3;have a4:=oF.t4;have a5:=oF.t5;have a7:=oF.t7;have hlen:=No (tk:=tk) (H:=H) (s:=s1) (D:=fs.map bZ);have hA:aA H.length 14 (fs.map bZ)=.aq\/(aA H.length 14 (fs.map bZ)=.sref (H.length+(fs.map bZ).length) 0 (fs.map bZ).length 14):=by
  cases fs with
  | nil=>exact .inl rfl
  | cons d ds=>exact .inr rfl
 have nN:aX (pP tk H s1 (fs.map bZ)).length (aA H.length 14 (fs.map bZ))=true:=by
  rcases hA with h|h<;>rw[h]
  ·rfl
  ·show Nat.ble _ _=true
   rw[avm,hlen];omega
 have D9:(aA H.length 14 (fs.map bZ)).drop=aA H.length 14 (fs.map bZ):=by rcases hA with h|h<;>rw[h]<;>rfl
 have hX:=J5 nm us (aA H.length 14 (fs.map bZ)) .aq (.str []) sJ T6 hub (pP tk H s1 (fs.map bZ)) nN rfl rfl D9 rfl rfl;have hN:=TE nm (aA H.length 14 (fs.map bZ)) .aq (.str []) sJ (pP tk H s1 (fs.map bZ)) nN rfl rfl D9 rfl rfl;have hd5:∀ u:AV,u.drop=u->ab false true 5 0 [.str nm,u,aA H.length 14 (fs.map bZ),.aq,.str []]=some (.agg [.str nm,u,aA H.length 14 (fs.map bZ),.aq,.str []]):=fun u hu=>by
  show some (AV.agg [AV.str nm,u.drop,(aA H.length 14 (fs.map bZ)).drop,.aq,.str []])=_
  rw[hu,D9]
 cases us with
 | nil =>
  have hu:uC []=.aq:=rfl;rw[hu] at e8;have hc:=cL (n:=n) (f:=29) rfl hN rfl;have hd:=hd5 .aq rfl;simp(disch:=omega)only[jV,aa,simprocAttr,wq,qK,qf,nZ,Bp,wx,zp,zo,zm,zl,yZ,xM,xL,uQ,pF,pS,e8,hd,hc,D9];exact⟨_,_,rfl,⟨cz a0,cz a2,cz a3,cz a4,cz a5,cz a7⟩,by simp(disch:=omega)only[jV,aa,simprocAttr,e8];rfl,cz e9,wF⟩
 | cons u0 ur =>
  have hu:uC (u0 :: ur)=.slice (strs (u0 :: ur)) true:=rfl;rw[hu] at e8;have hc:=cL (n:=n) (f:=29) rfl hX rfl;have hd:ab false true 5 0 [.str nm,.slice (strs (u0 :: ur)) true,aA H.length 14 (fs.map bZ),.aq,.str []]=some (.agg [.str nm,.slice (strs (u0 :: ur)) false,aA H.length 14 (fs.map bZ),.aq,.str []]):=by
   show some (AV.agg [AV.str nm,.slice (strs (u0 :: ur)) false,(aA H.length 14 (fs.map bZ)).drop,.aq,.str []])=_
   rw[D9]
  simp(disch:=omega)only[jV,aa,simprocAttr,wq,qK,qf,nZ,Bp,wx,zp,zo,zm,zl,yZ,xM,xL,uQ,pF,pS,e8,hd,hc,D9];exact⟨_,_,rfl,⟨cz a0,cz a2,cz a3,cz a4,cz a5,cz a7⟩,by simp(disch:=omega)only[jV,aa,simprocAttr,e8];rfl,cz e9,wF⟩
end
end
section
def mL(nm:aB)(us:List aB)(fs:List Fm):List aB:=ff ⟨nm,us,[],[],[]⟩++(fs.map l9).flatten
def FO{m:List aB}{o:Bool}(h:l.length+m.length<=1099511627776):aF false 1 16 (.slice (strs l) true) (.slice (strs m) o)=some (.slice (strs (l++m)) true):=cx h
section
variable {n:Nat}{H:ae}{s fin nm:aB}{us:List aB}{tk:List Tk}{fs:List Fm}{es:List Nat}{s1:PS}{Q:bJ->AS->Prop}
theorem Mt(hw:∀ f∈fs,WK f):((fs.map l9).flatten).length<=fs.length*1000000:=by
 induction fs with
 | nil=>simp
 | cons f r ih =>
  have h1:=(hw f ag).l
  grind
def agm(hw:∀ f∈fs,WK f)(w9:fs.length<=100000)(hhl:(ff ⟨nm,us,[],[],[]⟩).length<=3000000)(gZ:Gs s fin nm us tk H fs es s1 (fun T=>T 10=.slice (strs (ff ⟨nm,us,[],[],[]⟩)) true) st) :
  W (PL n) (pF qg) st (Dn (Gs s fin nm us tk H fs es s1 fun T=>T 10=.slice (strs (mL nm us fs)) true)):=by
 obtain⟨T,g,rfl,oF,e8,e9,zg⟩:=gZ;have a0:=oF.t0;have a2:=oF.t2;have a3:=oF.t3;have a4:=oF.t4;have a5:=oF.t5;have a7:=oF.t7;have MC:=Mt hw;have MM:pF qg=.seq (pF (pF qg)) (pS (pF qg)):=rfl;have hb:pS (pF qg)=.block 4 (.loop (pB (pB (pS (pF qg))))):=rfl;rw[MM,hb];have hD:aA H.length 14 (fs.map bZ)=.aq/\fs=[]\/aA H.length 14 (fs.map bZ)=.sref (H.length+fs.length) 0 fs.length 14/\fs≠[]:=by
  cases fs with
  | nil=>exact .inl ⟨rfl,rfl⟩
  | cons d ds=>exact .inr ⟨by rw[Bv ag,List.length_map],ag⟩
 rcases hD with ⟨hD,rfl⟩|⟨hD,dp⟩
 ·rw[hD] at e8
  simp(disch:=omega)only[jV,aa,simprocAttr,wq,qg,qK,qf,nZ,Bp,wx,zp,zo,zm,zl,yZ,xM,xL,uQ,pF,pS,pB,e8,ab];refine cj 0 4 (fun i=>fun st=>i=0/\∃ T g,st=⟨T,pP tk H s1 ([].map bZ),H.length,g⟩/\PT s fin tk H T/\T 8=.lbox 1 [.str nm,uC us,.aq,.aq,.str []]/\T 9=.slice (ints (eI es)) true/\T 10=.slice (strs (ff ⟨nm,us,[],[],[]⟩)) true/\T 107=.aq/\T 108=.int .i64 0/\T 109=.int .i64 0)
   (Gs s fin nm us tk H [] es s1 fun T=>T 10=.slice (strs (mL nm us [])) true) (fun _=>False) ?_ (fun st h=>h) (fun _ h=>h.elim) 0 _ ah ?_
  ·rintro i st hi ⟨rfl,T,g,rfl,hT,e8,e9,zg,acH,SO,Xa⟩
   have a0:=hT.t0;have a2:=hT.t2;have a3:=hT.t3;have a4:=hT.t4;have a5:=hT.t5;have a7:=hT.t7;simp(disch:=omega)only[jV,aa,simprocAttr,SO,Xa];exact⟨_,_,rfl,⟨cz a0,cz a2,cz a3,cz a4,cz a5,cz a7⟩,by simp(disch:=omega)only[jV,aa,simprocAttr,e8];rfl,cz e9,by simp(disch:=omega)only[jV,aa,simprocAttr,zg];simp[mL]⟩
  ·exact⟨rfl,_,_,rfl,⟨cz a0,cz a2,cz a3,cz a4,cz a5,cz a7⟩,cz e8,cz e9,cz zg,wF,wF,wF⟩
 ·rw[hD] at e8
  have XV:=OY (tk:=tk) (H:=H) (s:=s1) (D:=fs.map bZ) (cT dp);rw[List.length_map] at XV;simp(disch:=omega)only[jV,aa,simprocAttr,wq,qg,qK,qf,nZ,Bp,wx,zp,zo,zm,zl,yZ,xM,xL,uQ,pF,pS,pB,e8,ab];refine cj fs.length 4 (fun i=>fun st=>∃ T g,st=⟨T,pP tk H s1 (fs.map bZ),H.length,g⟩/\PT s fin tk H T/\T 8=.lbox 1 [.str nm,uC us,.sref (H.length+fs.length) 0 fs.length 14,.aq,.str []]/\T 9=.slice (ints (eI es)) true/\T 10=.slice (strs (mL nm us (fs.take i))) true/\T 107=.sref (H.length+fs.length) 0 fs.length 14/\T 108=.int .i64 fs.length/\T 109=.int .i64 i)
   (Gs s fin nm us tk H fs es s1 fun T=>T 10=.slice (strs (mL nm us fs)) true) (fun _=>False) ?_ (fun st h=>h) (fun _ h=>h.elim) 0 _ ah ?_
  ·rintro i st hi ⟨T,g,rfl,hT,e8,e9,zg,acH,SO,Xa⟩
   have a0:=hT.t0;have a2:=hT.t2;have a3:=hT.t3;have a4:=hT.t4;have a5:=hT.t5;have a7:=hT.t7
   by_cases j8:i<fs.length
   ·have HM:=auS j8
    have hdm:fs[i]∈fs:=avj j8;have aiT:=kg HM;generalize fs[i]=f at HM hdm aiT;have bU:ab false true 14 (i*14) (fs.map bZ).flatten=some (.agg (bZ f)):=by
     have h1:=Qf (agg:=true) (i:=i) (j:=0) (sz:=14) (r:=bZ f) (z:=14) yn (by rw[List.getElem?_map,HM];rfl) ah ah ah
     rw[au7] at h1;rw[h1];rfl
    have hwf:=hw f hdm;have kB:∀ K,aj (PL n) 30 [.agg (bZ f)] K=some (.slice (strs (l9 f)) true,none):=fun K=>cL rfl (hwf.w K)
    have hl3:=Mt (fs:=fs.take i) (fun x hx=>hw x (avL hx))
    have XQ:(fs.take i).length=i:=by rw[avK];omega
    have qq:(mL nm us (fs.take i)).length<=3000000+i*1000000:=by unfold mL;rw[List.length_append];rw[XQ] at hl3;omega
    have hfw:=hwf.l;have vN:=FO (l:=mL nm us (fs.take i)) (m:=l9 f) (o:=true) ah;have amN:=FO (l:=mL nm us (fs.take i)) (m:=l9 f) (o:=false) ah;have htn:mL nm us (fs.take i)++l9 f=mL nm us (fs.take (i+1)):=by unfold mL;rw[aiT];simp
    rw[htn] at vN amN;have hbc:bS (some (.box bE (fs.map bZ).flatten)) true 14 (i*14)=some (.agg (bZ f)):=by simp only[bS,bU]
    rw[bZ] at hbc kB;simp(disch:=omega)only[jV,aa,simprocAttr,zg,acH,SO,Xa,XV,hbc,kB,vN,ab];refine⟨j8,_,_,rfl,⟨cz a0,cz a2,cz a3,cz a4,cz a5,cz a7⟩,cz e8,cz e9,wF,cz acH,cz SO,by simp(disch:=omega)only[jV,aa,simprocAttr];try rfl⟩
   ·have:i=fs.length:=ah
    subst this;rw[avr] at zg;simp(disch:=omega)only[jV,aa,simprocAttr,SO,Xa];exact⟨_,_,rfl,⟨cz a0,cz a2,cz a3,cz a4,cz a5,cz a7⟩,vS2 e8 hD,cz e9,cz zg⟩
  ·refine⟨_,_,rfl,⟨cz a0,cz a2,cz a3,cz a4,cz a5,cz a7⟩,cz e8,cz e9,?_,wF,wF,by simp(disch:=omega)only[jV,aa,simprocAttr];try rfl⟩
   simp(disch:=omega)only[jV,aa,simprocAttr,zg];simp[mL]
end
end
section
section
variable {n:Nat}{H:ae}{s fin nm:aB}{us:List aB}{tk:List Tk}{fs:List Fm}{es:List Nat}{s1:PS}{Q:bJ->AS->Prop}
def ahz(hb:Bu tk)(Qs:iB tk<=4611686018427387904)(mO:tk.length<=100000)(hs:s.length<=4611686018427387904)(qq:jq.length<=4611686018427387904)(gZ:Gs s fin nm us tk H fs es s1 (fun T=>T 10=.slice (strs jq) true) st)
  (hN:(∀ j,j<tk.length->jq[j]?=(az tk)[j]?)->∀ wB,Gs s fin nm us tk H fs es s1 (fun _=>True) wB->W (PL n) vQ wB Q)
  (hR:∀ i,i<tk.length->(∀ j,j<i->jq[j]?=(az tk)[j]?)->jq[i]?≠(az tk)[i]?->∀ wB,RtE tk H (ou tk i s.length) wB->Q .ret wB):W (PL n) uR st Q:=by
 obtain⟨T,g,rfl,oF,e8,e9,zg⟩:=gZ;have a0:=oF.t0;have a2:=oF.t2;have a3:=oF.t3;have a4:=oF.t4;have a5:=oF.t5;have a7:=oF.t7;have MM:uR=.seq (.seq (pF (pF uR)) (.block 6 (.loop (pB (pB (pS (pF uR))))))) vQ:=rfl;rw[MM];have HV:(tk.map gL).length=tk.length:=ag;have ri:(strs jq).length=jq.length:=uX;have hz:z5=[.str [],.aq,.aq,.aq,.str []]:=rfl;simp(disch:=omega)only[jV,aa,simprocAttr,wq,uR,qg,qK,qf,nZ,Bp,wx,zp,zo,zm,zl,yZ,xM,xL,uQ,pF,pS,pB,a4,HV];refine cj tk.length 6 (fun i=>fun st=>(∀ j,j<i->jq[j]?=(az tk)[j]?)/\∃ T g,st=⟨T,pP tk H s1 (fs.map bZ),H.length,g⟩/\PT s fin tk H T/\T 8=.lbox 1 [.str nm,uC us,aA H.length 14 (fs.map bZ),.aq,.str []]/\T 9=.slice (ints (eI es)) true/\T 10=.slice (strs jq) true/\T 118=.slice (tk.map gL) false/\T 119=.int .i64 tk.length/\T 120=.int .i64 i)
  (fun st=>(∀ j,j<tk.length->jq[j]?=(az tk)[j]?)/\Gs s fin nm us tk H fs es s1 (fun _=>True) st) (fun st=>∃ i,i<tk.length/\(∀ j,j<i->jq[j]?=(az tk)[j]?)/\jq[i]?≠(az tk)[i]?/\RtE tk H (ou tk i s.length) st) ?_ (fun st h=>hN h.1 st h.2) (fun st ⟨i,h1,h2,h3,h4⟩=>hR i h1 h2 h3 st h4) 0 _ ah ?_
 ·rintro i st hi ⟨fq,T,g,rfl,hT,e8,e9,zg,Xb,SP,Xc⟩
  have a0:=hT.t0;have a2:=hT.t2;have a3:=hT.t3;have a4:=hT.t4;have a5:=hT.t5;have a7:=hT.t7
  by_cases j8:i<tk.length
  ·have HM:=auS j8
   generalize tk[i]=t at HM;have bU:(tk.map gL)[i]?=some [.str t.1,.str t.2]:=by rw[List.getElem?_map,HM];rfl
   have htx:(az tk)[i]?=some t.1:=by unfold az;rw[List.getElem?_map,HM];rfl
   have ij:∀ K,aj (PL n) 28 [.slice (tk.map gL) false,.int .i64 i,.int .i64 s.length] K=some (.int .i64 (ou tk i s.length),none):=fun K=>cL rfl (O1 tk i s.length K hb Qs ah ah hs)
   by_cases aZ:i<jq.length
   ·have OI:=auS aZ
    generalize jq[i]=w at OI;have hsr:(strs jq)[i]?=some [.str w]:=iz OI;have Qp:¬ jq.length<=i:=ah;cases dp:(t.1==w) with
    | false =>
     simp(disch:=omega)only[jV,aa,simprocAttr,a0,a2,a4,zg,Xb,SP,Xc,bU,hsr,ri,dp,ab,ij,hz];exact⟨i,j8,fq,by rw[OI,htx];intro h;rw[avF h] at dp;simp at dp,_,_,_,_,rfl,by simp(disch:=omega)only[jV,aa,simprocAttr];rfl,wF⟩
    | true =>
     have hww:w=t.1:=(eq_of_beq dp).symm;have Tv:∀ j,j<i+1->jq[j]?=(az tk)[j]?:=fun j hj=>by
      by_cases e:j=i
      ·rw[e,OI,htx,hww]
      ·exact fq j ah
     simp(disch:=omega)only[jV,aa,simprocAttr,zg,Xb,SP,Xc,bU,hsr,ri,dp,ab];exact⟨j8,Tv,_,_,rfl,⟨cz a0,cz a2,cz a3,cz a4,cz a5,cz a7⟩,cz e8,cz e9,cz zg,cz Xb,cz SP,wF⟩
   ·have OI:jq[i]?=none:=List.getElem?_eq_none ah
    simp(disch:=omega)only[jV,aa,simprocAttr,a0,a2,a4,zg,Xb,SP,Xc,bU,ri,ab,ij,hz];exact⟨i,j8,fq,by rw[OI,htx];simp,_,_,_,_,rfl,by simp(disch:=omega)only[jV,aa,simprocAttr];rfl,wF⟩
  ·have:i=tk.length:=ah
   subst this;simp(disch:=omega)only[jV,aa,simprocAttr,SP,Xc];exact⟨fq,_,_,rfl,⟨cz a0,cz a2,cz a3,cz a4,cz a5,cz a7⟩,cz e8,cz e9,trivial⟩
 ·exact⟨fun j hj=>absurd hj ah,_,_,rfl,⟨cz a0,cz a2,cz a3,cz a4,cz a5,cz a7⟩,cz e8,cz e9,cz zg,wF,wF,by simp(disch:=omega)only[jV,aa,simprocAttr];try rfl⟩
end
end
section
def bg:aH:=pB (pF (pS (pS (pB (pB (pS (pF yY)))))))
def RB:aH:=pS (pS (pS bg))
def bg3:aH:=pS (pS (pS RB))
def lC(g:Nat)(l:List aB):AV:=match l with|[]=>.aq|_=>.lsl g (strs l)
def Yz{a:aB} : lC g (l++[a])=.lsl g (strs (l++[a])):=by
 unfold lC
 simp_all
def sH{a:aB}(h:l.length<=1000000):cE 1 16 (strs l) [[.str a]]=true:=by
 have h1:(strs l).length=l.length:=uX;have h2:gF 1 (strs l)=true:=by cases l<;>rfl
 have h3:gF 1 [[AV.str a]]=true:=rfl;unfold cE;rw[h1,h2,h3];simp only[av0,avI,auT,avm];omega
def Dh:∀ l:List aB,nb (strs l)=true
 | []=>rfl
 | a :: l=>Dh l
def od(tk:List Tk)(f k:Nat):List aB:=((tk.take k).drop f).map (·.2)
def W3{tk:List Tk} : od tk f f=[]:=by unfold od;rw[List.drop_eq_nil_of_le dw];rfl
def Sr{tk:List Tk}{t:Tk}(h:f<=k)(hk:tk[k]?=some t):od tk f (k+1)=od tk f k++[t.2]:=by
 have aZ:=(auU.1 hk).1;unfold od;rw[kg hk,awM dw];simp
def N'{tk:List Tk} : (od tk f k).length<=tk.length:=by unfold od;simp;omega
def KP(T T' : aD):Prop:=T' 0=T 0/\T' 2=T 2/\T' 3=T 3/\T' 4=T 4/\T' 5=T 5/\T' 7=T 7/\T' 8=T 8/\T' 16=T 16/\T' 17=T 17/\T' 18=T 18/\T' 145=T 145/\T' 146=T 146/\T' 147=T 147
section
variable {n:Nat}{H:ae}{tk:List Tk}{Q:bJ->AS->Prop}
def Yf{T:aD}{lo e:Nat}(mO:tk.length<=100000)(hfe:f<=e)(he:e<=tk.length)(e4:T 4=.slice (tk.map gL) false)(Ws:T 15=.int .i64 f)(e18:T 18=.int .i64 e)(D2:T 19=.aq) :
  W (PL n) (pF (pS (pS bg))) ⟨T,K,lo,g⟩ (Dn fun wB=>∃ T' g' k,wB=⟨T',K,lo,g'⟩/\KP T T'/\T' 19=lC k (od tk f e)):=by
 have MM:pF (pS (pS bg))=.seq (pF (pF (pS (pS bg)))) (.block 10 (.loop (pB (pB (pS (pF (pS (pS bg)))))))):=rfl;rw[MM];have HV:(tk.map gL).length=tk.length:=ag;simp(disch:=omega)only[jV,aa,simprocAttr,wq,yY,vQ,uR,qg,qK,qf,nZ,Bp,wx,zp,zo,zm,zl,yZ,xM,xL,uQ,pF,pS,pB,bg,Ws];refine cj e 10 (fun i=>fun st=>f<=i/\∃ T' g' k,st=⟨T',K,lo,g'⟩/\KP T T'/\T' 19=lC k (od tk f i)/\T' 20=.int .i64 i)
  (fun wB=>∃ T' g' k,wB=⟨T',K,lo,g'⟩/\KP T T'/\T' 19=lC k (od tk f e)) (fun _=>False) ?_ (fun st h=>h) (fun _ h=>h.elim) f _ hfe ?_
 ·rintro i st hi ⟨RE,T',g',k,rfl,hK,D2,e20⟩
  unfold KP at hK;obtain⟨k0,k2,k3,k4,k5,k7,k8,k16,WE,ON,Fz,FB,FC⟩:=hK;rw[e4] at k4;rw[e18] at ON
  by_cases j8:i<e
  ·have HM:=auS (show i<tk.length by omega)
   generalize tk[i]=t at HM;have bU:(tk.map gL)[i]?=some [.str t.1,.str t.2]:=by rw[List.getElem?_map,HM];rfl
   have w5:=N' (tk:=tk) (f:=f) (k:=i);have hbs:=Sr RE HM;have gS:=sH (l:=od tk f i) (a:=t.2) ah;have AO:=nJ (l:=od tk f i) (a:=t.2);have Qs:∀ k,lC k (od tk f (i+1))=.lsl k (strs (od tk f (i+1))):=fun k=>by rw[hbs];exact Yz
   rw[<- hbs] at AO;have iG:lC k (od tk f i)=.lsl k (strs (od tk f i))\/lC k (od tk f i)=.aq/\strs (od tk f i)=[]:=by
    cases od tk f i with
    | nil=>exact .inr ⟨rfl,rfl⟩
    | cons a l=>exact .inl rfl
   rcases iG with hc|⟨hc,gT⟩
   ·rw[hc] at D2
    simp(disch:=omega)only[jV,aa,simprocAttr,k4,ON,D2,e20,bU,gS,AO,Qs];exact⟨j8,ah,_,_,_,rfl,by unfold KP;simp(disch:=omega)only[jV,aa,simprocAttr,k0,k2,k3,k4,e4,k5,k7,k8,k16,WE,ON,e18,Fz,FB,FC],by simp(disch:=omega)only[jV,aa,simprocAttr];rfl,wF⟩
   ·rw[hc] at D2
    rw[gT] at gS AO;rw[avM] at AO;simp(disch:=omega)only[jV,aa,simprocAttr,k4,ON,D2,e20,bU,gS];exact⟨j8,ah,_,_,_,rfl,by unfold KP;simp(disch:=omega)only[jV,aa,simprocAttr,k0,k2,k3,k4,e4,k5,k7,k8,k16,WE,ON,e18,Fz,FB,FC],by simp(disch:=omega)only[jV,aa,simprocAttr];rw[Qs,<- AO],wF⟩
  ·have:i=e:=ah
   subst this;simp(disch:=omega)only[jV,aa,simprocAttr,ON,e20];exact⟨_,_,k,rfl,by unfold KP;simp(disch:=omega)only[jV,aa,simprocAttr,k0,k2,k3,k4,e4,k5,k7,k8,k16,WE,ON,e18,Fz,FB,FC],cz D2⟩
 ·exact⟨Nat.le_refl _,_,_,0,rfl,by unfold KP;simp(disch:=omega)only[jV,aa,simprocAttr],by simp(disch:=omega)only[jV,aa,simprocAttr,D2];rw[W3];rfl,wF⟩
end
end
section
def jJ(tk:List Tk)(fin:aB)(i:Nat):aB:=match tk[i]? with|some t=>t.2|none=>fin
def iX(es:List Nat)(i:Nat):Nat:=if i=0 then 0 else es.getD (i-1) 0
def ny(tk:List Tk)(fin:aB)(es:List Nat)(i:Nat):aB:=if i=0 then [] else (dh (jJ tk fin (es.getD (i-1) 0))).2
def ia(tk:List Tk)(fin:aB)(es:List Nat)(i:Nat):List aB:=(if i=0 then od tk (iX es i) (es.getD i 0) else (od tk (iX es i) (es.getD i 0)).set 0 (ny tk fin es i))++[(dh (jJ tk fin (es.getD i 0))).1]
def KY(f:Fm)(L:List aB):List AV:=(bZ f).set 13 (.slice (strs L) true)
def gf(tk:List Tk)(fin:aB)(es:List Nat)(fs:List Fm):Nat->List (List AV)
 | 0=>fs.map bZ
 | 1=>fs.map bZ
 | i+2=>match fs[i]? with|some f=>(gf tk fin es fs (i+1)).set i (KY f (ia tk fin es (i+1)))|none=>gf tk fin es fs (i+1)
def hdC(tk:List Tk)(fin:aB)(es:List Nat)(i:Nat):AV:=match i with|0=>.aq|_=>.slice (strs (ia tk fin es 0)) true
structure tW (tk:List Tk) (es:List Nat):Prop where
 ok:∀ i,i<es.length->iX es i<=es.getD i 0/\es.getD i 0<=tk.length/\(0<i->iX es i<es.getD i 0)
section
variable {tk:List Tk}{fin:aB}{es:List Nat}{fs:List Fm}
theorem nF:∀ i,(gf tk fin es fs i).length=fs.length
 | 0=>by simp[gf]
 | 1=>by simp[gf]
 | i+2=>by
  rw[gf];split
  ·rw[List.length_set];exact nF (i+1)
  ·exact nF (i+1)
def VG{f:Fm} : (KY f L).length=14:=by rw[KY,List.length_set];exact BF
def s9:∀ i,∀ q∈gf tk fin es fs i,q.length=14
 | 0=>yn
 | 1=>yn
 | i+2=>by
  intro q hq;rw[gf] at hq;split at hq
  ·rcases awC hq with h|h
   ·exact s9 (i+1) q h
   ·rw[h];exact VG
  ·exact s9 (i+1) q hq
def DC:∀ i j,i<=j->(gf tk fin es fs (i+1))[j]?=(fs.map bZ)[j]?
 | 0,j,_=>rfl
 | i+1,j,h=>by
  rw[gf];split
  ·rw[List.getElem?_set_ne ah];exact DC i j ah
  ·exact DC i j ah
end
section
variable {n:Nat}{H:ae}{s fin nm:aB}{us:List aB}{tk:List Tk}{fs:List Fm}{es:List Nat}{s1:PS}{Q:bJ->AS->Prop}
def Bs(s fin nm:aB)(us:List aB)(tk:List Tk)(H:ae)(fs:List Fm)(es:List Nat)(s1:PS)(i:Nat)(st:AS):Prop:=∃ T g,st=⟨T,pP tk H s1 (gf tk fin es fs i),H.length,g⟩/\PT s fin tk H T/\T 8=.lbox 1 [.str nm,uC us,aA H.length 14 (fs.map bZ),hdC tk fin es i,.str []]/\T 15=.int .i64 (iX es i)/\T 16=.str (ny tk fin es i)/\T 145=.slice (ints (eI es)) false/\T 146=.int .i64 es.length/\T 147=.int .i64 i
def bi:aH:=pF (pS (pS bg))
def bl1:aH:=pB (pB (pS (pF yY)))
def af2(mO:tk.length<=100000)(nw:fin.length<=1000000)(xJ:∀ t∈tk,t.2.length<=1000000)(IT:es.length=fs.length+1)(hef:es.length<=200000)(hE:tW tk es)(hi:i<es.length)(gZ:Bs s fin nm us tk H fs es s1 i st) :
  W (PL n) bl1 st (andThen (fun s'=>i<es.length/\Bs s fin nm us tk H fs es s1 (i+1) s') Q):=by
 obtain⟨T,g,rfl,hT,e8,Ws,RC,SQ,PN,PO⟩:=gZ;have a0:=hT.t0;have a2:=hT.t2;have a3:=hT.t3;have a4:=hT.t4;have a5:=hT.t5;have a7:=hT.t7;obtain⟨HH,AJ,hE3⟩:=hE.ok i hi;have MM:bl1=.seq (pF bl1) (.seq (pF (pS bl1)) (.seq (.block 9 (.seq (pF bg) (.seq (pF (pS bg)) (.seq bi RB)))) (pS (pS (pS bl1))))):=rfl;rw[MM];obtain⟨e,IQ⟩:∃ e,e=es.getD i 0:=⟨_,rfl⟩;have am4:es[i]?=some e:=by rw[IQ,List.getD_eq_getElem?_getD,auS hi];rfl
 have bU:(ints (eI es))[i]?=some [.int .i64 (e:Int)]:=by
  unfold ints eI;rw[List.getElem?_map,List.getElem?_map,am4];rfl
 have Qq:(ints (eI es)).length=es.length:=Mf;rw[<- IQ] at HH AJ hE3;simp(disch:=omega)only[jV,aa,simprocAttr,wq,yY,vQ,uR,qg,qK,qf,nZ,Bp,wx,zp,zo,zm,zl,yZ,xM,xL,uQ,pF,pS,pB,bl1,bg,SQ,PN,PO,bU];refine uc (Yf (f:=iX es i) (e:=e) mO HH AJ ?_ ?_ ?_ ?_) ?_
 ·exact cz a4
 ·exact cz Ws
 ·exact wF
 ·exact wF
 intro ex wB hx;cases ex with
 | exit j=>exact hx.elim
 | ret=>exact hx.elim
 | normal =>
  obtain⟨T',g',k,rfl,hK,D2⟩:=hx;unfold KP at hK;simp(disch:=omega)only[jV,aa,simprocAttr,a0,a2,a3,a4,a5,a7,e8,RC,SQ,PN,PO] at hK;obtain⟨k0,k2,k3,k4,k5,k7,k8,k16,WE,ON,Fz,FB,FC⟩:=hK;have w5:=N' (tk:=tk) (f:=iX es i) (k:=e);have an4:RB=.seq (pF RB) (.seq (pF (pS RB)) (.seq (pF (pS (pS RB))) bg3)):=rfl
  show W _ _ _ _
  rw[an4];have HV:(tk.map gL).length=tk.length:=ag;have wi:jJ tk fin e=(match tk[e]? with|some t=>t.2|none=>fin):=rfl
  have AO:=fun l a=>nJ (l:=l) (a:=a)
  have X5:∀ r:aB,r.length<=1000000->∀ K,aj (PL n) 31 [.str r] K=some (.tuple [.str (dh r).1,.str (dh r).2],none):=fun r hr K=>cL rfl (ZZ r K ah)
  cases i with
  | zero =>
   by_cases he:e<tk.length
   ·have HM:=auS he
    have hdm:tk[e]∈tk:=avj he;generalize tk[e]=t at HM hdm;have CW:(tk.map gL)[e]?=some [.str t.1,.str t.2]:=by rw[List.getElem?_map,HM];rfl
    have xe:=X5 t.2 (xJ t hdm);have MJ:jJ tk fin e=t.2:=by rw[wi,HM]
    have hL:strs (ia tk fin es 0)=strs (od tk (iX es 0) e)++[[.str (dh t.2).1]]:=by
     unfold ia;rw[if_pos rfl,<- IQ,MJ,nJ]
    have XR:iX es 1=e:=by unfold iX;rw[if_neg ah];exact IQ.symm
    have XK:ny tk fin es 1=(dh t.2).2:=by unfold ny;rw[if_neg ah];show (dh (jJ tk fin (es.getD 0 0))).2=_;rw[<- IQ,MJ]
    cases hB:od tk (iX es 0) e with
    | nil =>
     rw[hB] at D2 hL;have Fl:T' 19=.aq:=D2;have gS:=sH (l:=[]) (a:=(dh t.2).1) ag;have lV:cE 1 16 [] [[.str (dh t.2).1]]=true:=gS;have TQ:=fun (A:AP) i g t9 os T H lo gen K=>vt (A:=A) (i:=i) (g:=g) (e:=[[.str (dh t.2).1]]) (t:=t9) (os:=os) (T:=T) (H:=H) (lo:=lo) (gen:=gen) (K:=K) rfl
     simp(disch:=omega)only[jV,aa,simprocAttr,wq,yY,vQ,uR,qg,qK,qf,nZ,Bp,wx,zp,zo,zm,zl,yZ,xM,xL,uQ,pF,pS,pB,bg,RB,bg3,k4,k5,k8,WE,ON,FC,Fl,CW,HV,xe,lV,TQ];exact⟨hi,_,_,rfl,⟨cz k0,cz k2,cz k3,cz k4,cz k5,cz k7⟩,by simp(disch:=omega)only[jV,aa,simprocAttr];show AV.lbox 1 [_,_,_,.slice [[.str (dh t.2).1]] true,_]=AV.lbox 1 [_,_,_,.slice (strs (ia tk fin es 0)) true,_];rw[hL];rfl,cz XR,cz XK,cz Fz,cz FB,wF⟩
    | cons x0 xl =>
     rw[hB] at D2 hL;have Fl:T' 19=.lsl k (strs (x0 :: xl)):=D2;have gS:=sH (l:=x0 :: xl) (a:=(dh t.2).1) (by rw[<- hB];omega)
     have TQ:=fun (A:AP) i g t9 os T H lo gen K=>vt (A:=A) (i:=i) (g:=g) (e:=strs (ia tk fin es 0)) (t:=t9) (os:=os) (T:=T) (H:=H) (lo:=lo) (gen:=gen) (K:=K) (by rw[Dg];exact Dh _)
     simp(disch:=omega)only[jV,aa,simprocAttr,wq,yY,vQ,uR,qg,qK,qf,nZ,Bp,wx,zp,zo,zm,zl,yZ,xM,xL,uQ,pF,pS,pB,bg,RB,bg3,k4,k5,k8,WE,ON,FC,Fl,CW,HV,xe,gS,<- hL,TQ];exact⟨hi,_,_,rfl,⟨cz k0,cz k2,cz k3,cz k4,cz k5,cz k7⟩,by simp(disch:=omega)only[jV,aa,simprocAttr];rfl,cz XR,cz XK,cz Fz,cz FB,wF⟩
   ·have xe:=X5 fin nw
    have MJ:jJ tk fin e=fin:=by rw[wi,List.getElem?_eq_none ah]
    have hL:strs (ia tk fin es 0)=strs (od tk (iX es 0) e)++[[.str (dh fin).1]]:=by
     unfold ia;rw[if_pos rfl,<- IQ,MJ,nJ]
    have XR:iX es 1=e:=by unfold iX;rw[if_neg ah];exact IQ.symm
    have XK:ny tk fin es 1=(dh fin).2:=by unfold ny;rw[if_neg ah];show (dh (jJ tk fin (es.getD 0 0))).2=_;rw[<- IQ,MJ]
    cases hB:od tk (iX es 0) e with
    | nil =>
     rw[hB] at D2 hL;have Fl:T' 19=.aq:=D2;have gS:=sH (l:=[]) (a:=(dh fin).1) ag;have lV:cE 1 16 [] [[.str (dh fin).1]]=true:=gS;have TQ:=fun (A:AP) i g t9 os T H lo gen K=>vt (A:=A) (i:=i) (g:=g) (e:=[[.str (dh fin).1]]) (t:=t9) (os:=os) (T:=T) (H:=H) (lo:=lo) (gen:=gen) (K:=K) rfl
     simp(disch:=omega)only[jV,aa,simprocAttr,wq,yY,vQ,uR,qg,qK,qf,nZ,Bp,wx,zp,zo,zm,zl,yZ,xM,xL,uQ,pF,pS,pB,bg,RB,bg3,k4,k5,k8,WE,ON,FC,Fl, HV,xe,lV,TQ];exact⟨hi,_,_,rfl,⟨cz k0,cz k2,cz k3,cz k4,cz k5,cz k7⟩,by simp(disch:=omega)only[jV,aa,simprocAttr];show AV.lbox 1 [_,_,_,.slice [[.str (dh fin).1]] true,_]=AV.lbox 1 [_,_,_,.slice (strs (ia tk fin es 0)) true,_];rw[hL];rfl,cz XR,cz XK,cz Fz,cz FB,wF⟩
    | cons x0 xl =>
     rw[hB] at D2 hL;have Fl:T' 19=.lsl k (strs (x0 :: xl)):=D2;have gS:=sH (l:=x0 :: xl) (a:=(dh fin).1) (by rw[<- hB];omega)
     have TQ:=fun (A:AP) i g t9 os T H lo gen K=>vt (A:=A) (i:=i) (g:=g) (e:=strs (ia tk fin es 0)) (t:=t9) (os:=os) (T:=T) (H:=H) (lo:=lo) (gen:=gen) (K:=K) (by rw[Dg];exact Dh _)
     simp(disch:=omega)only[jV,aa,simprocAttr,wq,yY,vQ,uR,qg,qK,qf,nZ,Bp,wx,zp,zo,zm,zl,yZ,xM,xL,uQ,pF,pS,pB,bg,RB,bg3,k4,k5,k8,WE,ON,FC,Fl, HV,xe,gS,<- hL,TQ];exact⟨hi,_,_,rfl,⟨cz k0,cz k2,cz k3,cz k4,cz k5,cz k7⟩,by simp(disch:=omega)only[jV,aa,simprocAttr];rfl,cz XR,cz XK,cz Fz,cz FB,wF⟩
  | succ m =>
   have hm:m<fs.length:=ah;obtain⟨f,hf⟩:∃ f,fs[m]?=some f:=⟨_,auS hm⟩;have dp:fs≠[]:=by intro h;rw[h] at hm;simp at hm
   have hA:aA H.length 14 (fs.map bZ)=.sref (H.length+fs.length) 0 fs.length 14:=by rw[Bv (cT dp),List.length_map]
   rw[hA] at k8;have aZ:=hE3 ah;obtain⟨b,ade⟩:∃ b,b=ny tk fin es (m+1):=⟨_,rfl⟩;rw[<- ade] at k16;have D7:((m:Nat):Int)+1-1=(m:Int):=ah;have Qy:IntKind.i64.wrap (m:Int)=(m:Int):=wrap64 ah;have zT:=nF (tk:=tk) (fin:=fin) (es:=es) (fs:=fs) (m+1);have anX:=nF (tk:=tk) (fin:=fin) (es:=es) (fs:=fs) (m+1+1);have hrw:=s9 (tk:=tk) (fin:=fin) (es:=es) (fs:=fs) (m+1);have w9:(gf tk fin es fs (m+1)).flatten.length=fs.length*14:=by rw[nV hrw,zT]
   have XV:=OY (tk:=tk) (H:=H) (s:=s1) (D:=gf tk fin es fs (m+1)) (by intro h;rw[h] at zT;simp at zT;omega)
   rw[zT] at XV;have hra:(gf tk fin es fs (m+1))[m]?=some (bZ f):=by rw[DC m m (Nat.le_refl _),List.getElem?_map,hf];rfl
   have Bk:putAt (gf tk fin es fs (m+1)).flatten (m*14+13) [.slice (strs (ia tk fin es (m+1))) true]=(gf tk fin es fs (m+1+1)).flatten:=by
    rw[JU (cs:=[.slice (strs (ia tk fin es (m+1))) true]) hrw hra ag];have:gf tk fin es fs (m+1+1)=(gf tk fin es fs (m+1)).set m (KY f (ia tk fin es (m+1))):=by rw[gf,hf]
    rw[this];rfl
   replace Bk:List.take (m*14+13) (gf tk fin es fs (m+1)).flatten++[.slice (strs (ia tk fin es (m+1))) true]++List.drop (m*14+13+1) (gf tk fin es fs (m+1)).flatten=(gf tk fin es fs (m+1+1)).flatten:=Bk
   have qc:(pP tk H s1 (gf tk fin es fs (m+1))).set (H.length+fs.length) (.box bE (gf tk fin es fs (m+1+1)).flatten)=pP tk H s1 (gf tk fin es fs (m+1+1)):=by
    have:=YZ (tk:=tk) (H:=H) (s:=s1) (D:=gf tk fin es fs (m+1)) (D':=gf tk fin es fs (m+1+1)) (by intro h;rw[h] at zT;simp at zT;omega) (by rw[zT,anX])
    rw[zT] at this;exact this
   cases hB:od tk (iX es (m+1)) e with
   | nil =>
    exfalso;have:(od tk (iX es (m+1)) e).length=0:=by rw[hB];rfl
    unfold od at this;simp at this;omega
   | cons x0 xl =>
   rw[hB] at D2;have Fl:T' 19=.lsl k ([.str x0] :: strs xl):=D2
   by_cases he:e<tk.length
   ·have HM:=auS he
    have hdm:tk[e]∈tk:=avj he;generalize tk[e]=t at HM hdm;have CW:(tk.map gL)[e]?=some [.str t.1,.str t.2]:=by rw[List.getElem?_map,HM];rfl
    have xe:=X5 t.2 (xJ t hdm);have MJ:jJ tk fin e=t.2:=by rw[wi,HM]
    have hL:strs (ia tk fin es (m+1))=([.str b] :: strs xl)++[[.str (dh t.2).1]]:=by
     unfold ia;rw[if_neg ah,<- IQ,MJ,hB,<- ade]
     show strs ((b :: xl)++[_])=_
     rw[<- nJ];rfl
    have XR:iX es (m+1+1)=e:=by unfold iX;rw[if_neg ah];exact IQ.symm
    have XK:ny tk fin es (m+1+1)=(dh t.2).2:=by unfold ny;rw[if_neg ah];show (dh (jJ tk fin (es.getD (m+1) 0))).2=_;rw[<- IQ,MJ]
    have WB:(x0 :: xl).length<=tk.length:=by rw[<- hB];exact w5
    have gS:cE 1 16 ([.str b] :: strs xl) [[.str (dh t.2).1]]=true:=sH (l:=b :: xl) (a:=(dh t.2).1) (by simp only[List.length_cons] at WB ⊢;omega)
    have TQ:=fun (A:AP) i g t9 os T H lo gen K=>vt (A:=A) (i:=i) (g:=g) (e:=strs (ia tk fin es (m+1))) (t:=t9) (os:=os) (T:=T) (H:=H) (lo:=lo) (gen:=gen) (K:=K) (by rw[Dg];exact Dh _)
    simp(disch:=omega)only[jV,aa,simprocAttr,wq,yY,vQ,uR,qg,qK,qf,nZ,Bp,wx,zp,zo,zm,zl,yZ,xM,xL,uQ,pF,pS,pB,bg,RB,bg3,k4,k5,k8,k16,WE,ON,FC,Fl,CW,HV,xe,gS,<- hL,TQ,D7,Qy,XV,w9,Bk,qc,ab];exact⟨hi,_,_,rfl,⟨cz k0,cz k2,cz k3,cz k4,cz k5,cz k7⟩,by simp(disch:=omega)only[jV,aa,simprocAttr,k8];rw[hA];rfl,cz XR,cz XK,cz Fz,cz FB,wF⟩
   ·have xe:=X5 fin nw
    have MJ:jJ tk fin e=fin:=by rw[wi,List.getElem?_eq_none ah]
    have hL:strs (ia tk fin es (m+1))=([.str b] :: strs xl)++[[.str (dh fin).1]]:=by
     unfold ia;rw[if_neg ah,<- IQ,MJ,hB,<- ade]
     show strs ((b :: xl)++[_])=_
     rw[<- nJ];rfl
    have XR:iX es (m+1+1)=e:=by unfold iX;rw[if_neg ah];exact IQ.symm
    have XK:ny tk fin es (m+1+1)=(dh fin).2:=by unfold ny;rw[if_neg ah];show (dh (jJ tk fin (es.getD (m+1) 0))).2=_;rw[<- IQ,MJ]
    have WB:(x0 :: xl).length<=tk.length:=by rw[<- hB];exact w5
    have gS:cE 1 16 ([.str b] :: strs xl) [[.str (dh fin).1]]=true:=sH (l:=b :: xl) (a:=(dh fin).1) (by simp only[List.length_cons] at WB ⊢;omega)
    have TQ:=fun (A:AP) i g t9 os T H lo gen K=>vt (A:=A) (i:=i) (g:=g) (e:=strs (ia tk fin es (m+1))) (t:=t9) (os:=os) (T:=T) (H:=H) (lo:=lo) (gen:=gen) (K:=K) (by rw[Dg];exact Dh _)
    simp(disch:=omega)only[jV,aa,simprocAttr,wq,yY,vQ,uR,qg,qK,qf,nZ,Bp,wx,zp,zo,zm,zl,yZ,xM,xL,uQ,pF,pS,pB,bg,RB,bg3,k4,k5,k8,k16,WE,ON,FC,Fl, HV,xe,gS,<- hL,TQ,D7,Qy,XV,w9,Bk,qc,ab];exact⟨hi,_,_,rfl,⟨cz k0,cz k2,cz k3,cz k4,cz k5,cz k7⟩,by simp(disch:=omega)only[jV,aa,simprocAttr,k8];rw[hA];rfl,cz XR,cz XK,cz Fz,cz FB,wF⟩
end
end
section
def pG(tk:List Tk)(fin:aB)(es:List Nat)(fs:List Fm):List Fm:=fs.mapIdx fun j f=>{ f with layout:=ia tk fin es (j+1) }
theorem DD{tk:List Tk}{fin:aB}{es:List Nat}{fs:List Fm} : ∀ (i j:Nat) (f:Fm),j<i->i<=fs.length->fs[j]?=some f->(gf tk fin es fs (i+1))[j]?=some (KY f (ia tk fin es (j+1)))
 | 0,j,f,h,_,_=>ah
 | i+1,j,f,h,hi,hf=>by
  obtain⟨g,hg⟩:∃ g,fs[i]?=some g:=⟨_,auS ah⟩;have e:gf tk fin es fs (i+1+1)=(gf tk fin es fs (i+1)).set i (KY g (ia tk fin es (i+1))):=by rw[gf,hg]
  rw[e]
  by_cases hj:j=i
  ·grind [nF]
  ·rw[List.getElem?_set_ne (fun h=>hj h.symm)]
   exact DD i j f ah ah hf
def VF{base:Nat}{f:Fm} : ((KY f L).map fun x=>gx Hx base k x.drop)=bZ { f with layout:=L }:=by
 cases k<;>rfl
theorem VJ{tk:List Tk}{fin:aB}{es:List Nat}{fs:List Fm}{base:Nat} : ((gf tk fin es fs (fs.length+1)).map fun r=>r.map fun x=>gx Hx base k x.drop)=(pG tk fin es fs).map bZ:=by
 refine awi fun j=>?_
 rw[List.getElem?_map,List.getElem?_map,pG,axD];cases hf:fs[j]? with
 | none =>
  grind [nF]
 | some f =>
  rw[DD fs.length j f (auU.1 hf).1 (Nat.le_refl _) hf];simp only[au2,VF]
def YA{tk:List Tk}{fin:aB}{es:List Nat}{fs:List Fm} : (((pG tk fin es fs).map bZ).map fun r=>r.map n1)=(pG tk fin es fs).map bZ:=by
 rw[avT];rfl
theorem To{base l z:Nat}{R F:List (List AV)}(hb:base<=l)(hl:Hx[l]?=some o)(ho:pJ o=some R.flatten)(hR:∀ r∈R,r.length=z)(hF:(R.map fun r=>r.map fun x=>gx Hx base k x.drop)=F)(qE:∀ r∈F,r.length=z/\r.all AV.plain=true)(hz:0<z)
  (CQ:∀ r∈R,∀ x∈r,kI x=true):gx Hx base (k+1) (.sref l 0 R.length z)=.slice F false:=by
 have h1:(R.flatten.all fun x=>(gx Hx base k x.drop).plain&&kI x)=true:=by
  rw[auX];intro x hx;obtain⟨r,hr,hx⟩:=awS.1 hx;have hm:(r.map fun x=>gx Hx base k x.drop)∈F:=by rw[<- hF];exact awW (f:=fun r=>r.map fun x=>gx Hx base k x.drop) hr
  grind
 have h2:(R.flatten.map fun x=>gx Hx base k x.drop)=F.flatten:=by rw[<- hF,List.map_flatten]
 have h4:R.flatten.length=R.length*z:=nV hR;have h5:F.length=R.length:=by rw[<- hF,List.length_map]
 rw[gx];simp only[avA hb,cond_true,hl,auW,ho,h1,h2,h4,avt,List.drop_zero,avA (Nat.le_refl _),avI];rw[show Nat.blt 0 z=true by simpa [avh] using hz,cond_true,<- h5,AA (fun r hr=>(qE r hr).1)]
def Iv{tk:List Tk}{fin:aB}{es:List Nat}{fs:List Fm} : ∀ i,∀ r∈gf tk fin es fs i,∀ x∈r,kI x=true
 | 0,r,hr,x,hx=>by
  obtain⟨f,_,rfl⟩:=List.mem_map.1 hr;exact auX.1 (show (bZ f).all kI=true from rfl) x hx
 | 1,r,hr,x,hx=>by
  obtain⟨f,_,rfl⟩:=List.mem_map.1 hr;exact auX.1 (show (bZ f).all kI=true from rfl) x hx
 | i+2,r,hr,x,hx=>by
  rw[gf] at hr;split at hr
  ·rcases awC hr with h|h
   ·exact Iv (i+1) r h x hx
   ·rw[h] at hx
    exact auX.1 (show (KY _ _).all kI=true from rfl) x hx
  ·exact Iv (i+1) r hr x hx
section
variable {n:Nat}{H:ae}{s fin nm:aB}{us:List aB}{tk:List Tk}{fs:List Fm}{es:List Nat}{s1:PS}{Q:bJ->AS->Prop}
def V6(tk:List Tk)(fin nm:aB)(us:List aB)(fs:List Fm)(es:List Nat):So:=⟨nm,us,pG tk fin es fs,ia tk fin es 0,ny tk fin es es.length⟩
def aeK(mO:tk.length<=100000)(nw:fin.length<=1000000)(xJ:∀ t∈tk,t.2.length<=1000000)(IT:es.length=fs.length+1)(hef:es.length<=200000)(hE:tW tk es)(gZ:Gs s fin nm us tk H fs es s1 (fun _=>True) st)
  (hQ:∀ wB,(∃ r,finish H.length wq wB=some r/\r=(.tuple [.agg (nu (V6 tk fin nm us fs es)),.int .i64 (-1)],none))->Q .ret wB):W (PL n) vQ st Q:=by
 obtain⟨T,g,rfl,oF,e8,e9, -⟩:=gZ;have a0:=oF.t0;have a2:=oF.t2;have a3:=oF.t3;have a4:=oF.t4;have a5:=oF.t5;have a7:=oF.t7;have MM:vQ=.seq (pF vQ) (.seq (.seq (pF (pF yY)) (.block 8 (.loop bl1))) (.seq (pF afi) (.seq (pF afj) aj6))):=rfl;rw[MM];have Qq:(ints (eI es)).length=es.length:=Mf;simp(disch:=omega)only[jV,aa,simprocAttr,wq,aj6,afj,afi,yY,vQ,uR,qg,qK,qf,nZ,Bp,wx,zp,zo,zm,zl,yZ,xM,xL,uQ,pF,pS,e9,Qq];refine cj es.length 8 (Bs s fin nm us tk H fs es s1) (Bs s fin nm us tk H fs es s1 es.length) (fun _=>False) ?_ ?_ (fun _ h=>h.elim) 0 _ ah ?_
 ·intro i st hi gZ
  by_cases j8:i<es.length
  ·exact af2 mO nw xJ IT hef hE j8 gZ
  ·have:i=es.length:=ah
   subst this;have T5:=gZ;obtain⟨T,g,rfl,hT,e8,Ws,RC,SQ,PN,PO⟩:=gZ;have a0:=hT.t0;have a2:=hT.t2;have a3:=hT.t3;have a4:=hT.t4;have a5:=hT.t5;have a7:=hT.t7;simp(disch:=omega)only[jV,aa,simprocAttr,wq,yY,vQ,uR,qg,qK,qf,nZ,Bp,wx,zp,zo,zm,zl,yZ,xM,xL,uQ,pF,pS,pB,bl1,PN,PO];exact⟨_,_,rfl,⟨cz a0,cz a2,cz a3,cz a4,cz a5,cz a7⟩,cz e8,cz Ws,cz RC,cz SQ,cz PN,cz PO⟩
 ·rintro st ⟨T,g,rfl,hT,e8,Ws,RC,SQ,PN,PO⟩
  have a0:=hT.t0;have a2:=hT.t2;have a3:=hT.t3;have a4:=hT.t4;have a5:=hT.t5;have a7:=hT.t7;have hz:z5=[.str [],.aq,.aq,.aq,.str []]:=rfl;rw[hz] at a2;obtain⟨m,hm⟩:∃ m,es.length=m+1:=⟨fs.length,IT⟩;have hd:hdC tk fin es es.length=.slice (strs (ia tk fin es 0)) true:=by rw[hm];rfl
  rw[hd] at e8;have hA:aA H.length 14 (fs.map bZ)=.aq/\fs=[]\/aA H.length 14 (fs.map bZ)=.sref (H.length+fs.length) 0 fs.length 14/\fs≠[]:=by
   cases fs with
   | nil=>exact .inl ⟨rfl,rfl⟩
   | cons d ds=>exact .inr ⟨by rw[Bv ag,List.length_map],ag⟩
  have hX:(aA H.length 14 (fs.map bZ)).drop=aA H.length 14 (fs.map bZ):=by rcases hA with ⟨h,_⟩|⟨h,_⟩<;>rw[h]<;>rfl
  have hF:∀ k,n2 (gx (pP tk H s1 (gf tk fin es fs es.length)) H.length (k+1) (aA H.length 14 (fs.map bZ)))=.slice ((pG tk fin es fs).map bZ) false/\(gx (pP tk H s1 (gf tk fin es fs es.length)) H.length (k+1) (aA H.length 14 (fs.map bZ))).plain=true:=by
   intro k
   rcases hA with ⟨h,rfl⟩|⟨h,dp⟩
   ·rw[h];exact⟨rfl,rfl⟩
   ·rw[h]
    have zT:=nF (tk:=tk) (fin:=fin) (es:=es) (fs:=fs) es.length;have XV:=OY (tk:=tk) (H:=H) (s:=s1) (D:=gf tk fin es fs es.length) (by intro h;rw[h] at zT;exact dp (avc.1 zT.symm))
    rw[zT] at XV;have J' : ((gf tk fin es fs es.length).map fun r=>r.map fun x=>gx (pP tk H s1 (gf tk fin es fs es.length)) H.length k x.drop)=(pG tk fin es fs).map bZ:=by
     have:=VJ (tk:=tk) (fin:=fin) (es:=es) (fs:=fs) (Hx:=pP tk H s1 (gf tk fin es fs es.length)) (base:=H.length) (k:=k)
     rw[<- IT] at this;exact this
    have:=To (k:=k) (z:=14) (base:=H.length) (l:=H.length+fs.length) (R:=gf tk fin es fs es.length) ah XV rfl (s9 _) J' (fun r hr=>by obtain⟨f,_,rfl⟩:=List.mem_map.1 hr;exact⟨BF,rfl⟩) ah (Iv _)
    rw[zT] at this;rw[this];refine⟨?_,rfl⟩;rw[fp,YA]
  have aia:(us=[]/\uC us=.aq)\/(us≠[]/\uC us=.slice (strs us) true):=by
   cases us with
   | nil=>exact .inl ⟨rfl,rfl⟩
   | cons u r=>exact .inr ⟨ag,rfl⟩
  have hfc:aM (aA H.length 14 (fs.map bZ))=true:=by rcases hA with ⟨h,_⟩|⟨h,_⟩<;>rw[h]<;>rfl
  rcases aia with ⟨rfl,hu⟩|⟨asL,hu⟩
  ·rw[hu] at e8
   have hd5:ab false true 5 0 [.str nm,.aq,aA H.length 14 (fs.map bZ),.slice (strs (ia tk fin es 0)) true,.str (ny tk fin es es.length)]=some (.agg [.str nm,.aq,aA H.length 14 (fs.map bZ),.slice (strs (ia tk fin es 0)) false,.str (ny tk fin es es.length)]):=by
    show some (AV.agg [AV.str nm,.aq,(aA H.length 14 (fs.map bZ)).drop,.slice (strs (ia tk fin es 0)) false,.str (ny tk fin es es.length)])=_
    rw[hX]
   simp(disch:=omega)only[jV,aa,simprocAttr,a2,e8,RC,hfc,hd5];refine hQ _ ⟨_,BC (tc:=2) (tr:=3) (n:=5) (g:=0) (cs:=[.str nm,.aq,aA H.length 14 (fs.map bZ),.slice (strs (ia tk fin es 0)) false,.str (ny tk fin es es.length)]) (out:=nu (V6 tk fin nm [] fs es)) (r:=-1) rfl a8 a8 (wF) (wF) rfl rfl ?_ ?_,rfl⟩
   ·obtain⟨h1,h2⟩:=hF 2
    show (List.all [.str nm,gx _ H.length 3 (AV.drop .aq),gx _ H.length 3 (aA H.length 14 (fs.map bZ)).drop,gx _ H.length 3 (AV.slice (strs (ia tk fin es 0)) false),.str (ny tk fin es es.length)] AV.plain)=true
    rw[hX];simp only[List.all_cons,List.all_nil,h2];rfl
   ·obtain⟨h1,h2⟩:=hF 2
    show [n2 _,n2 (gx _ H.length 3 (AV.drop .aq)),n2 (gx _ H.length 3 (aA H.length 14 (fs.map bZ)).drop),n2 (AV.slice (strs (ia tk fin es 0)) false),n2 _]=_
    rw[hX,h1,fp,Dk];rfl
  ·rw[hu] at e8
   have hd5:ab false true 5 0 [.str nm,.slice (strs us) true,aA H.length 14 (fs.map bZ),.slice (strs (ia tk fin es 0)) true,.str (ny tk fin es es.length)]=some (.agg [.str nm,.slice (strs us) false,aA H.length 14 (fs.map bZ),.slice (strs (ia tk fin es 0)) false,.str (ny tk fin es es.length)]):=by
    show some (AV.agg [AV.str nm,.slice (strs us) false,(aA H.length 14 (fs.map bZ)).drop,.slice (strs (ia tk fin es 0)) false,.str (ny tk fin es es.length)])=_
    rw[hX]
   simp(disch:=omega)only[jV,aa,simprocAttr,a2,e8,RC,hfc,hd5];refine hQ _ ⟨_,BC (tc:=2) (tr:=3) (n:=5) (g:=0) (cs:=[.str nm,(.slice (strs us) false),aA H.length 14 (fs.map bZ),.slice (strs (ia tk fin es 0)) false,.str (ny tk fin es es.length)]) (out:=nu (V6 tk fin nm us fs es)) (r:=-1) rfl a8 a8 (wF) (wF) rfl rfl ?_ ?_,rfl⟩
   ·obtain⟨h1,h2⟩:=hF 2
    show (List.all [.str nm,gx _ H.length 3 (AV.drop (.slice (strs us) false)),gx _ H.length 3 (aA H.length 14 (fs.map bZ)).drop,gx _ H.length 3 (AV.slice (strs (ia tk fin es 0)) false),.str (ny tk fin es es.length)] AV.plain)=true
    rw[hX];simp only[List.all_cons,List.all_nil,h2];rfl
   ·obtain⟨h1,h2⟩:=hF 2
    show [n2 _,n2 (gx _ H.length 3 (AV.drop (.slice (strs us) false))),n2 (gx _ H.length 3 (aA H.length 14 (fs.map bZ)).drop),n2 (AV.slice (strs (ia tk fin es 0)) false),n2 _]=_
    rw[hX,h1,fp,Dk]
    show [_,n2 (AV.slice (strs us) false),_,_,_]=_
    rw[fp,Dk];rfl
 ·exact⟨_,_,rfl,⟨cz a0,cz a2,cz a3,cz a4,cz a5,cz a7⟩,by simp(disch:=omega)only[jV,aa,simprocAttr,e8];rfl,by simp(disch:=omega)only[jV,aa,simprocAttr];rfl,by simp(disch:=omega)only[jV,aa,simprocAttr];rfl,wF,wF,by simp(disch:=omega)only[jV,aa,simprocAttr];try rfl⟩
end
end
def Rm:∀ (m:Nat) (r:aB) (off:Nat),r.length<=m->(ik r off).2.2=-1->(((ik r off).1.map fun t=>t.before++t.text).flatten++(ik r off).2.1=r)/\∀ t∈(ik r off).1,1<=t.text.length:=by
 intro m
 induction m with
 | zero =>
  intro r off hm h;have:r=[]:=avc.1 ah
  subst this;rw[ik,if_pos (by rfl)] at h ⊢
  exact⟨ag,ag⟩
 | succ m ih =>
  intro r off hm h
  by_cases h1:bY false r=r.length
  ·rw[ik,if_pos h1] at h ⊢
   exact⟨ag,ag⟩
  ·by_cases h2:il (r.drop (bY false r))=0
   ·rw[ik,if_neg h1,axA h2] at h
    simp only at h;omega
   ·rw[ik,if_neg h1,axc h2] at h ⊢
    simp only at h ⊢;have hle:=BU (r.drop (bY false r));have Fw:=n9 false r;rw[avw] at hle
    by_cases hx:(ik (r.drop (bY false r+il (r.drop (bY false r)))) (off+(bY false r+il (r.drop (bY false r))))).2.2=-1
    ·rw[if_pos hx]
     obtain⟨k1,k2⟩:=ih _ _ (by rw[avw];omega) hx
     refine⟨?_,fun t ht=>?_⟩
     ·simp only[au9,avo,au8]
      rw[k1,<- av',awB,awB]
     ·rcases avi.1 ht with rfl|ht
      ·simp only[avK,avw]
       omega
      ·exact k2 t ht
    ·rw[if_neg hx] at h
     exact absurd h hx
def VV(r:aB)(off:Nat)(h:(ik r off).2.2=-1):(((ik r off).1.map fun t=>t.before++t.text).flatten++(ik r off).2.1=r)/\∀ t∈(ik r off).1,1<=t.text.length:=Rm r.length r off (Nat.le_refl _) h
def NH{s:aB}(h:(cN s).2.2=-1):s.length<=8192/\((cN s).1.map fun t=>t.before++t.text).flatten++(cN s).2.1=s/\∀ t∈(cN s).1,1<=t.text.length:=by
 unfold cN at h ⊢;split at h
 ·simp at h
 ·rename_i hs
  rw[if_neg hs];obtain⟨h1,h2⟩:=VV s 0 h;exact⟨ah,h1,h2⟩
def Gz:∀ l:List Tok,iB (mb l)=(l.map fun t=>t.before++t.text).flatten.length
 | []=>rfl
 | t :: l=>by
  show t.before.length+t.text.length+iB (mb l)=_
  rw[Gz l];simp only[au9,avo,List.length_append]
def y6{s:aB}(h:(cN s).2.2=-1):Bu (mb (cN s).1)/\iB (mb (cN s).1)<=8192/\(mb (cN s).1).length<=8192/\(cN s).2.1.length<=8192/\(∀ t∈mb (cN s).1,t.2.length<=8192):=by
 obtain⟨h1,h2,h3⟩:=NH h;have h4:iB (mb (cN s).1)+(cN s).2.1.length=s.length:=by rw[Gz,<- List.length_append,h2]
 have key:∀ l:List Tok,(∀ t∈l,1<=t.text.length)->l.length<=iB (mb l)/\∀ t∈mb l,t.1.length<=iB (mb l)/\t.2.length<=iB (mb l):=by
  intro l
  induction l with
  | nil=>intro _;exact⟨Nat.zero_le _,by simp[mb]⟩
  | cons t l ih =>
   intro hl;obtain⟨k1,k2⟩:=ih fun x hx=>hl x (xD hx)
   have k3:=hl t ag;have e:iB (mb (t :: l))=t.before.length+t.text.length+iB (mb l):=rfl;rw[e];refine⟨ko,fun x hx=>?_⟩
   rcases avi.1 (show x∈(t.text,t.before) :: mb l from hx) with rfl|hx
   ·exact⟨by simp only;omega,by simp only;omega⟩
   ·have:=k2 x hx;exact⟨ah,ah⟩
 obtain⟨k1,k2⟩:=key _ h3;have hl:(mb (cN s).1).length=(cN s).1.length:=by simp[mb]
 exact⟨⟨ah,fun x hx=>by have:=(k2 x hx).1;omega⟩,ah,ah,ah,fun t ht=>by have:=(k2 t ht).2;omega⟩
def Oq{tk:List Tk}{n m:Nat}{s:PS}{r:Fm × PS}(h:tB (az tk) n (pE (az tk) m 0) s=some r)(hb:r.2.bad=false):s.i<r.2.i:=by
 unfold tB at h;simp only at h;cases hk:decide (mP (pk (az tk) s) fI 0<0) with
 | true =>
  rw[hk,cond_true,auR] at h;subst h;cases hb
 | false =>
  rw[hk,cond_false] at h;have hE:=jY (tk:=tk) m 0;simp only[auQ] at h;obtain⟨sl,h1,h⟩:=h;have l1:Lq tk s.up sl.2:=fJ.tr ((cU ag).tr (vo ag (fun a s r he=>sQ he) h1))
  have MO:s.up.i=s.i+1:=rfl;cases h2:(decide (mP (pk (az tk) s) fI 0=0) || decide (mP (pk (az tk) s) fI 0=1)) with
  | true =>
   rw[h2,cond_true,auR] at h;subst h;have:=l1.i
   simp only;omega
  | false =>
   rw[h2,cond_false,auQ] at h;obtain⟨w,h3,h⟩:=h;rw[auP] at h;obtain⟨b,h4,rfl⟩:=h;have:=(l1.tr ((mh _ _ _ h3).tr ((cU ag).tr (hE _ _ h4)))).i
   simp only;omega
def PV{tk:List Tk}{es:List Nat}{x:Nat}(hE:tW tk es)(hl:es.getLast?=some i)(hx:i<x)(WB:x<=tk.length):tW tk (es++[x]):=by
 refine⟨fun j hj=>?_⟩
 have dp:es≠[]:=by intro h;rw[h] at hl;cases hl
 have yA:es.getD (es.length-1) 0=i:=by
  rw[List.getLast?_eq_getElem?] at hl;rw[List.getD_eq_getElem?_getD,hl];rfl
 have CT:0<es.length:=awo.2 dp;have gd:∀ k,k<es.length->(es++[x]).getD k 0=es.getD k 0:=fun k hk=>by
  rw[List.getD_eq_getElem?_getD,List.getD_eq_getElem?_getD,au3 hk]
 by_cases Bh:j<es.length
 ·have:=hE.ok j Bh
  have hf:iX (es++[x]) j=iX es j:=by
   unfold iX;split
   ·rfl
   ·exact gd _ ah
  rw[hf,gd j Bh];exact this
 ·have:j=es.length:=by simp at hj;omega
  subst this;have hf:iX (es++[x]) es.length=i:=by
   unfold iX;rw[if_neg ah,gd _ ah,yA]
  have hg:(es++[x]).getD es.length 0=x:=by
   rw[List.getD_eq_getElem?_getD,List.getElem?_append_right (Nat.le_refl _)];simp
  rw[hf,hg];exact⟨ah,WB,fun _=>hx⟩
def zI{tk:List Tk}{n:Nat} : ∀ (k:Nat) (fs:List Fm) (es:List Nat) (s1:PS) (r:(List Fm × List Nat) × PS),o8 (az tk) n k (fs,es) s1=some r->r.2.bad=false->tW tk es->es.getLast?=some s1.i->s1.i<=tk.length->tW tk r.1.2
 | 0,_,_,_,_,h,_,_,_,_=>by cases h
 | k+1,fs,es,s1,r,h,hb,hE,hl,hs=>by
  unfold o8 at h;cases hc:(!s1.bad&&Nat.blt s1.i (az tk).length) with
  | false =>
   rw[hc,cond_false,auR] at h;subst h;exact hE
  | true =>
   rw[hc,cond_true,auQ] at h;obtain⟨⟨f,s2⟩,hf,h⟩:=h;have xe:s2.i<=tk.length:=(Ig (jY _ _) hf).le hs;have j7:s2.bad=false:=by
    cases xJ:s2.bad with
    | false=>rfl
    | true =>
     have:r.2.bad=true:=by
      clear hE hl
      match k with
      | 0=>cases h
      | k+1 =>
       unfold o8 at h;simp only[xJ,avW,avk,cond_false,auR] at h;subst h;exact xJ
     rw[this] at hb;cases hb
   exact zI k _ _ _ r h hb (PV hE hl (Oq hf j7) xe) ag xe
section
def so0:So:=⟨[],[],[],[],[]⟩
def FG(tx jq:List aB):Option Nat:=(List.range tx.length).find? fun i=>jq[i]? != tx[i]?
def Dr(tk:List Tk)(fin:aB)(en:Nat)(q:(aB × List aB × List Fm × List Nat) × PS):So × Int :=
 bif q.2.bad then (so0,ou tk q.2.i en) else
 match FG (az tk) (mL q.1.1 q.1.2.1 q.1.2.2.1) with
 | some i=>(so0,ou tk i en)
 | none=>(V6 tk fin q.1.1 q.1.2.1 q.1.2.2.1 q.1.2.2.2, -1)
def qI(n:Nat)(s:aB):Option (So × Int) :=
 if (cN s).2.2=-1 then (wy (az (mb (cN s).1)) n).map (Dr (mb (cN s).1) (cN s).2.1 s.length) else some (so0,(cN s).2.2)
def UQ(h:∀ j,j<tx.length->jq[j]?=tx[j]?):FG tx jq=none:=by
 unfold FG;rw[List.find?_eq_none];intro j hj;have:=h j (awv.1 hj)
 simp[this]
def UR(hi:i<tx.length)(h:∀ j,j<i->jq[j]?=tx[j]?)(hn:jq[i]?≠tx[i]?):FG tx jq=some i:=by
 unfold FG;rw[List.find?_range_eq_some];refine⟨cT hn,awv.2 hi,fun j hj=>?_⟩
 simp[h j hj]
def Om{tk:List Tk}{H:ae}(h:RtE tk H i st):finish H.length wq st=some (.tuple [.agg (nu so0),.int .i64 (i:Int)],none):=by
 obtain⟨T,s1,D,g,rfl,h2,h3⟩:=h;exact BC (tc:=2) (tr:=3) (n:=5) (g:=0) (cs:=z5) (out:=nu so0) (r:=(i:Int)) rfl a8 a8 h2 h3 rfl rfl rfl rfl
section
variable {n:Nat}{H:ae}{s:aB}
def Wg{tk:List Tk}(hb:Bu tk):∀ (k:Nat) (us:List aB) (s1:PS) (r:List aB × PS),rQ (az tk) k us s1=some r->(∀ u∈us,u.length<=1000000)->∀ u∈r.1,u.length<=1000000
 | 0,_,_,_,h,_=>by cases h
 | k+1,us,s1,r,h,hu=>by
  unfold rQ at h;cases hc:(!s1.bad&&(pk (az tk) s1==Au)) with
  | false =>
   rw[hc,cond_false,auR] at h;subst h;exact hu
  | true =>
   rw[hc,cond_true] at h;refine Wg hb k _ _ r h fun u hm=>?_
   rcases auY.1 hm with h1|h1
   ·exact hu u h1
   ·rw[ava.1 h1];exact uO hb
def Gj{nm:aB}{us:List aB}(h:us.length<=1000000):(ff ⟨nm,us,[],[],[]⟩).length<=3000000:=by
 have key:∀ l:List aB,((l.map fun u=>[[117,115,101],u]).flatten).length=2*l.length:=by
  intro l
  induction l with
  | nil=>rfl
  | cons a l ih=>simp only[au9,avo,List.length_append,List.length_cons,List.length_nil,ih];omega
 unfold ff;split
 ·unfold heads
  simp only[List.length_append,List.length_cons,List.length_nil,key];omega
 ·simp
def ajX{Q:bJ->AS->Prop}(hs:s.length<=4611686018427387904)(mN:¬ (cN s).2.2=-1)(hQ:∀ T g,T 2=.lbox 0 z5->T 3=.int .i64 (cN s).2.2->Q .ret ⟨T,H,H.length,g⟩):W (PL n) uQ ⟨fm [.str s],H,H.length,0⟩ Q:=by
 have MN:uQ=.seq (pF uQ) (.seq (pF xL) (.seq (pF xM) yZ)):=rfl;rw[MN];have T3:∀ K,aj (PL n) 23 [.str s] K=some (.tuple [.slice (fV (cN s).1) false,.str (cN s).2.1,.int .i64 (cN s).2.2],none):=fun K=>cL rfl (O5 s K hs)
 have dp:((cN s).2.2 != -1)=true:=cT mN;have MG:((cN s).2.2==-1)=false:=cT mN;simp(disch:=omega)only[jV,aa,simprocAttr,wq,xM,xL,uQ,pF,pS,T3,dp];exact hQ _ _ (by simp(disch:=omega)only[jV,aa,simprocAttr];rfl) (by simp(disch:=omega)only[jV,aa,simprocAttr])
def Y0(hn:n<=100000)(hs:s.length<=4611686018427387904)(hw:(cN s).2.2=-1->∀ q,wy (az (mb (cN s).1)) n=some q->q.2.bad=false->∀ f∈q.1.2.2.1,WK f){r:So × Int}(h:qI n s=some r) :
  aj (PL n) 8 [.str s] H=some (.tuple [.agg (nu r.1),.int .i64 r.2],none):=by
 have key:∃ x,aj (PL n) 8 [.str s] H=some x/\x=(.tuple [.agg (nu r.1),.int .i64 r.2],none):=by
  refine FX (fn:=wq) rfl rfl rfl ?_
  show W (PL n) uQ _ _
  by_cases mN:(cN s).2.2=-1
  ·unfold qI at h
   rw[if_pos mN,auP] at h;obtain⟨q,hq,rfl⟩:=h;obtain⟨tk,mO⟩:∃ tk,tk=mb (cN s).1:=⟨_,rfl⟩;obtain⟨fin,nw⟩:∃ fin,fin=(cN s).2.1:=⟨_,rfl⟩;obtain⟨hb,Qs,qq,w9,w5⟩:=y6 mN;have hw:=hw mN;rw[<- mO] at hb Qs qq w5 hq hw ⊢;rw[<- nw] at w9 ⊢;have hw':=hw q hq;unfold wy at hq;simp only[auQ,auP] at hq;obtain⟨u,hu,d,hd,rfl⟩:=hq;simp only at hw';have hsc:cN s=((cN s).1,fin, -1):=by rw[nw,<- mN]
   refine aj7 (tk:=tk) hs hsc mO hb ?_;intro T e0 e2 e3 e4 e5 e7 e8 e9;have Lx:(psN tk).i<=tk.length:=jQ (gA a8 (Nat.zero_le _));have hU:=agv (n:=n) (H:=H) (s:=s) (fin:=fin) (nm:=nmN tk) (k:=n) (us:=[]) (s1:=psN tk) (r:=u) hb dw Lx hu (st:=⟨T,pP tk H (psN tk) [],H.length,2⟩) ⟨T,rfl,⟨e0,e2,e3,e4,e5,e7⟩,e8,e9⟩;have hub:=Wg hb n [] (psN tk) u hu ag
   show W (PL n) (.seq (pF wx) Bp) _ _
   refine xP hU ?_
   rintro V7 ⟨an6,I1,X7⟩
   show W (PL n) (.seq (pF Bp) nZ) _ _
   refine xP (acN I1 ah an6) ?_;intro Ai T5
   show W (PL n) (.seq (pF nZ) qf) _ _
   refine xP (XF hb ah ah (k:=n) dw ag I1 hd T5) ?_
   rintro st3 ⟨an7,zP,hd2,hd3⟩
   have kJ:(az tk).length=tk.length:=by simp[az]
   refine ahi hb ah ah hs zP an7 ?_ ?_
   ·intro jo st4 adW
    refine⟨_,Om adW,?_⟩;unfold Dr;simp only[jo,cond_true]
   ·intro jo st4 adW
    have Qy:=hw' jo;have uF:(nmN tk).length<=1000000:=uO hb
    show W (PL n) (.seq (pF qK) qg) _ _
    refine xP (XO ah ah (fun x hx=>by have:=hub x hx;omega) adW) ?_
    intro st5 an8
    show W (PL n) (.seq (pF qg) uR) _ _
    refine xP (agm Qy hd2 (Gj X7) an8) ?_;intro st6 an9;have MC:=Mt Qy;have hhl:=Gj (nm:=nmN tk) X7;refine ahz hb ah ah hs (by unfold mL;rw[List.length_append];omega) an9 ?_ ?_
    ·intro fq st7 adX
     have Lr:tW tk [u.2.i]:=⟨fun i hi=>by
      have:i=0:=by simp at hi;omega
      subst this;exact⟨Nat.zero_le _,I1,fun h=>absurd h ah⟩⟩
     have hE:=zI n [] [u.2.i] u.2 d hd jo Lr rfl I1;refine aeK ah ah (fun t ht=>by have:=w5 t ht;omega) hd3 ah hE adX ?_
     rintro st8 ⟨x,nN,D9⟩
     refine⟨x,nN,?_⟩;rw[D9];unfold Dr;have hm:FG (az tk) (mL (nmN tk) u.1 d.1.1)=none:=UQ (fun j hj=>fq j (by rw[kJ] at hj;exact hj))
     have RL:FG (az tk) (mL (aL (az tk) (aY (az tk) jW ⟨0,false⟩)).1 u.1 d.1.1)=none:=hm;simp only[jo,cond_false,RL];rfl
    ·intro i hi fq dp st7 adX
     refine⟨_,Om adX,?_⟩;unfold Dr;have RL:FG (az tk) (mL (aL (az tk) (aY (az tk) jW ⟨0,false⟩)).1 u.1 d.1.1)=some i:=UR (by rw[kJ];exact hi) fq dp
     simp only[jo,cond_false,RL]
  ·unfold qI at h
   rw[if_neg mN,auR] at h;subst h;refine ajX hs mN fun T g h2 h3=>?_
   exact⟨_,BC (tc:=2) (tr:=3) (n:=5) (g:=0) (cs:=z5) (out:=nu so0) (r:=(cN s).2.2) rfl a8 a8 h2 h3 rfl rfl rfl rfl,rfl⟩
 obtain⟨x,h1,rfl⟩:=key;exact h1
end
end
section
section
variable {tk:List Tk}
def mu(tk:List Tk)(s:PS):Nat:=bif s.bad then 0 else tk.length-s.i
def iN{s:PS}(h:Lq tk s s'):mu tk s'<=mu tk s:=by
 unfold mu;cases hb:s.bad with
 | true=>rw[h.bad hb];exact Nat.le_refl _
 | false =>
  cases iJ:s'.bad with
  | true=>exact Nat.zero_le _
  | false=>have:=h.i;simp only[cond_false];omega
theorem lX{s:PS}(hw:w≠[])(e:(pk (az tk) s==w)=true):mu tk s.up+1<=mu tk s:=by
 have hp:pk (az tk) s≠[]:=by rw[eq_of_beq e];exact hw
 have hl:=tK hp;have hb:s.bad=false:=by
  cases h:s.bad with
  | false=>rfl
  | true=>unfold pk at hp;rw[h,cond_true] at hp;exact absurd rfl hp
 unfold mu PS.up
 grind
def tY(tk:List Tk)(E:EP)(M:Nat):Prop:=∀ s,mu tk s<=M->∃ r,E s=some r
def di{α:Type}{x y:Option α}(h1:b=true->∃ r,x=some r)(h2:b=false->∃ r,y=some r):∃ r,(bif b then x else y)=some r:=by
 cases b with
 | true=>exact h1 rfl
 | false=>exact h2 rfl
theorem jM{α:Type}{x:Option α}{f:α->Option β}(h1:∃ a,x=some a)(h2:∀ a,x=some a->∃ r,f a=some r):∃ r,x.bind f=some r:=by
 grind
def jx{α:Type}{x:Option α}{f:α->β}(h1:∃ a,x=some a):∃ r,x.map f=some r:=by
 obtain⟨a,ha⟩:=h1;rw[ha];exact⟨_,rfl⟩
def vL:∀ (n:Nat) (s:PS),mu tk s+1<=n->∃ r,pX (az tk) n s=some r
 | 0,s,h=>ah
 | n+1,s,h=>by
  unfold pX;refine di (fun _=>⟨_,rfl⟩) fun _=>di (fun _=>⟨_,rfl⟩) fun _=>di (fun e=>jx ?_) fun _=>⟨_,rfl⟩
  have h1:=lX a8 e;have h2:=iN (cU (tk:=tk) (s:=s.up) (w:=[40]) ag);exact vL n _ ah
def Da{α:Type}{elem:α->PS->Option (α × PS)}{fin:aB}{M:Nat}(he:∀ a s,mu tk s<=M->∃ r,elem a s=some r)(hq:∀ a s r,elem a s=some r->Lq tk s r.2) :
  ∀ (k:Nat) (a:α) (s:PS),mu tk s<=M->mu tk s+1<=k->∃ r,uM (az tk) elem fin k a s=some r
 | 0,a,s,_,h=>ah
 | k+1,a,s,hM,h=>by
  unfold uM;refine jM (he a s hM) fun r hr=>di (fun e=>?_) fun _=>⟨_,rfl⟩
  simp only[auT] at e;have h1:=lX (s:=r.2) (w:=[44]) ag e.2;have h2:=iN (hq a s r hr);exact Da he hq k _ _ ah ah
def vm{α:Type}{elem:α->PS->Option (α × PS)}{fin:aB}{M:Nat}(he:∀ a s,mu tk s<=M->∃ r,elem a s=some r)(hq:∀ a s r,elem a s=some r->Lq tk s r.2){a:α}{s:PS}(hM:mu tk s<=M)(hk:mu tk s+1<=k) :
  ∃ r,tI (az tk) elem fin k a s=some r:=by
 unfold tI;exact di (fun _=>⟨_,rfl⟩) fun _=>Da he hq k a s hM hk
section
variable {E B:EP}{M:Nat}
def rq(hE:tY tk E M){s:PS}(h:mu tk s<=M):∃ r,uJ E ks s=some r:=jx (hE s h)
def nB(hE:tY tk E M)(hw:w≠[]){s:PS}(h:mu tk s<=M):∃ r,oI (az tk) E w ks s=some r:=by
 unfold oI;refine di (fun _=>⟨_,rfl⟩) fun _=>rq hE ?_
 have:=iN (cU (tk:=tk) (s:=s) hw)
 omega
def QN(hE:tY tk E M){a:List aB × List Tm}{s:PS}(h:mu tk s<=M):∃ r,FD (az tk) E a s=some r:=by
 unfold FD;refine jx (rq hE ?_);have:=iN ((fJ (tk:=tk) (s:=s)).tr (cU (w:=[61]) ag))
 omega
def P9(hE:tY tk E M)(gE:iM tk E){s:PS}(hB:∃ r,B s=some r)(hM:mu tk s<=M+1):∃ r,uu (az tk) E B s=some r:=by
 unfold uu;refine di (fun e=>?_) fun _=>di (fun e=>?_) fun _=>di (fun e=>?_) fun _=>hB
 ·have h1:=lX a8 e
  refine jM (rq hE ah) fun a ha=>jM (nB hE a8 ?_) fun b hb=>jx (nB hE a8 ?_)
  ·have:=iN (mg gE ha);omega
  ·have:=iN ((mg gE ha).tr (kF gE a8 hb));omega
 ·have h1:=lX a8 e
  have h2:=iN (fJ (tk:=tk) (s:=s.up));refine jM (nB hE ag ah) fun a ha=>jx (nB hE a8 ?_)
  have:=iN (kF gE ag ha);omega
 ·have h1:=lX a8 e
  have h2:=iN (Ku (tk:=tk) (s:=s.up));refine jM (nB hE ag ah) fun a ha=>jM (nB hE a8 ?_) fun b hb=>jx (nB hE a8 ?_)
  ·have:=iN (kF gE ag ha);omega
  ·have:=iN ((kF gE ag ha).tr (kF gE a8 hb));omega
def AW(hE:tY tk E M)(gE:iM tk E):∀ (k:Nat) (a:List aB × List Tm) (s:PS),mu tk s<=M->mu tk s+1<=k->∃ r,qG (az tk) E k a s=some r
 | 0,a,s,_,h=>ah
 | k+1,a,s,hM,h=>by
  unfold qG;have hl:=(fJ (tk:=tk) (s:=s)).tr (fJ.tr (cU (w:=[45,62]) ag));have h0:=iN hl;refine jM (hE _ ah) fun r hr=>di (fun e=>?_) fun _=>⟨_,rfl⟩
  simp only[auT] at e;have h1:=lX (s:=r.2) (w:=[44]) ag e.2;have h2:=iN (gE _ _ hr);exact AW hE gE k _ _ ah ah
def M'(hE:tY tk E M)(gE:iM tk E){n:Nat}{s:PS}(hM:mu tk s<=M)(hn:mu tk s+1<=n):∃ r,sR (az tk) n E s=some r:=by
 unfold sR;have hl:=(jZ (tk:=tk) (s:=s)).tr (cU (w:=[40]) ag);have h0:=iN hl;refine jM (hE _ ah) fun r hr=>jx (AW hE gE n _ _ ?_ ?_)
 all_goals
  have:=iN ((gE _ _ hr).tr ((cU (w:=[41]) ag).tr (cU (w:=[123]) ag)))
  omega
def KA(hE:tY tk E M){nm:aB}{s:PS}(hM:mu tk s<=M):∃ r,xx (az tk) E nm s=some r:=by
 unfold xx;have h0:=iN (fJ (tk:=tk) (s:=s));refine di (fun e=>jx (hE _ ?_)) fun _=>jx (hE _ ?_)
 ·have:=lX (s:=(aL (az tk) s).2) (w:=[91]) ag e;omega
 ·have:=iN (cU (tk:=tk) (s:=(aL (az tk) s).2) (w:=[40]) ag);omega
def Nd(hE:tY tk E M)(gE:iM tk E){n:Nat}{s:PS}(hM:mu tk s<=M+1)(hn:mu tk s<=n):∃ r,qH (az tk) n E s=some r:=by
 unfold qH;have h0:=iN (jZ (tk:=tk) (s:=s));simp only;refine di (fun e=>?_) fun _=>di (fun e=>?_) fun _=>di (fun e=>?_) fun _=>di (fun _=>⟨_,rfl⟩) fun _=>⟨_,rfl⟩
 ·have h1:=lX (s:=(aR (az tk) s).2) (w:=[40]) ag e
  exact jx (vm (M:=M) (fun a s' h=>rq hE h) (fun a s' r h=>mg gE h) ah ah)
 ·have h1:=lX (s:=(aR (az tk) s).2) (w:=[123]) ag e
  exact jx (vm (M:=M) (fun a s' h=>QN hE h) (fun a s' r h=>BO gE h) ah ah)
 ·have h1:=lX (s:=(aR (az tk) s).2) (w:=[58]) ag e
  exact KA hE ah
def Px(hE:tY tk E M)(gE:iM tk E){n:Nat}{s:PS}(hM:mu tk s<=M+1)(hn:mu tk s<=n):∃ r,qi (az tk) n E s=some r:=by
 unfold qi;refine di (fun _=>⟨_,rfl⟩) fun _=>di (fun _=>⟨_,rfl⟩) fun _=>di (fun _=>⟨_,rfl⟩) fun _=>di (fun _=>⟨_,rfl⟩) fun _=>di (fun e=>?_) fun _=>di (fun e=>?_) fun _=>di (fun e=>?_) fun _=>Nd hE gE hM hn
 ·have h1:=lX (s:=s) (w:=[40]) ag e
  exact jx (hE _ ah)
 ·have h1:=lX a8 e
  have h2:=iN (cU (tk:=tk) (s:=s.up) (w:=[40]) ag);refine jM (jx (vL n _ ah)) fun w hw=>jx (vm (M:=M) (fun a s' h=>rq hE h) (fun a s' r h=>mg gE h) ?_ ?_)
  all_goals
   have:=iN ((xr hw).tr (cU (w:=[91]) ag))
   omega
 ·have h1:=lX a8 e
  exact M' hE gE ah ah
def FT(hB:tY tk B M)(gB:iM tk B){lv:Int} : ∀ (k:Nat) (t:Tm) (s:PS),mu tk s<=M+1->mu tk s+1<=k->∃ r,xV (az tk) B lv k t s=some r
 | 0,t,s,_,h=>ah
 | k+1,t,s,hM,h=>by
  unfold xV;refine di (fun _=>⟨_,rfl⟩) fun hb=>?_
  split
  ·exact⟨_,rfl⟩
  ·rename_i o l ho
   refine di (fun _=>?_) fun _=>⟨_,rfl⟩
   have dp:pk (az tk) s≠[]:=by
    intro e;rw[e] at ho;have:Bo []=none:=a8
    rw[this] at ho;cases ho
   have h1:=lX (tk:=tk) (s:=s) (w:=pk (az tk) s) dp ag;refine jM (hB _ ah) fun r hr=>di (fun _=>⟨_,rfl⟩) fun _=>?_
   have h2:=iN (gB _ _ hr);exact FT hB gB k _ _ ah ah
end
def Vb{n l:Nat}{s:PS}(h1:1<=l)(h6:l<=6):pE L (n+1) l s=(pE L n (l+1) s).bind fun r=>xV L (pE L n (l+1)) l n r.1 r.2:=by
 have:l=1\/l=2\/l=3\/l=4\/l=5\/l=6:=ah
 rcases this with rfl|rfl|rfl|rfl|rfl|rfl<;>rfl
def sY:∀ (n l:Nat) (s:PS),l<=7->9*mu tk s+(8-l)+1<=n->∃ r,pE (az tk) n l s=some r
 | 0,l,s,_,h=>ah
 | n+1,l,s,hl,h=>by
  have g0:=jY (tk:=tk) n 0;have ab0:∀ M,9*M+9<=n->tY tk (pE (az tk) n 0) M:=fun M hM s hs=>sY n 0 s ah ah
  by_cases hl0:l=0
  ·subst hl0
   show ∃ r,uu (az tk) (pE (az tk) n 0) (pE (az tk) n 1) s=some r
   have hB:=sY n 1 s ah ah
   by_cases hz:mu tk s=0
   ·unfold uu
    refine di (fun e=>?_) fun _=>di (fun e=>?_) fun _=>di (fun e=>?_) fun _=>hB
    all_goals
     have:=lX a8 e
     omega
   ·exact P9 (ab0 (mu tk s-1) ah) g0 hB ah
  by_cases hl7:l=7
  ·subst hl7
   show ∃ r,(bif pk (az tk) s==vU then (pE (az tk) n 7 s.up).map fun r=>(.mk 4 9 [] [] [] [] [r.1] [],r.2)
    else bif pk (az tk) s==xQ then (pE (az tk) n 7 s.up).map fun r=>(.mk 4 11 [] [] [] [] [r.1] [],r.2)
    else qi (az tk) n (pE (az tk) n 0) s)=some r
   refine di (fun e=>?_) fun _=>di (fun e=>?_) fun _=>?_
   ·have:=lX a8 e
    exact jx (sY n 7 _ ah ah)
   ·have:=lX a8 e
    exact jx (sY n 7 _ ah ah)
   ·by_cases hz:mu tk s=0
    ·have mH:∀ s',mu tk s'=0->∀ w,w≠[]->(pk (az tk) s'==w)=true->False:=fun s' h0 w hw e=>by
      have:=lX hw e;omega
     unfold qi;refine di (fun _=>⟨_,rfl⟩) fun _=>di (fun _=>⟨_,rfl⟩) fun _=>di (fun _=>⟨_,rfl⟩) fun _=>di (fun _=>⟨_,rfl⟩) fun _=>di (fun e=>(mH s hz _ ag e).elim) fun _=>di (fun e=>(mH s hz _ a8 e).elim) fun _=>di (fun e=>(mH s hz _ a8 e).elim) fun _=>?_
     unfold qH;simp only;have hq:mu tk (aR (az tk) s).2=0:=by have:=iN (jZ (tk:=tk) (s:=s));omega
     exact di (fun e=>(mH _ hq _ ag e).elim) fun _=>di (fun e=>(mH _ hq _ ag e).elim) fun _=>di (fun e=>(mH _ hq _ ag e).elim) fun _=>di (fun _=>⟨_,rfl⟩) fun _=>⟨_,rfl⟩
    ·exact Px (ab0 (mu tk s-1) ah) g0 ah ah
  rw[Vb ah ah];have hB:=sY n (l+1) s ah ah;refine jM hB fun r hr=>?_
  have h2:=iN (jY (tk:=tk) n (l+1) _ _ hr)
  by_cases hz:mu tk s=0
  ·match n,h with
   | 0,h=>omega
   | n+1,h =>
    unfold xV;refine di (fun _=>⟨_,rfl⟩) fun hb=>?_
    split
    ·exact⟨_,rfl⟩
    ·rename_i o q ho
     exfalso;have dp:pk (az tk) r.2≠[]:=by
      intro e;rw[e] at ho;have:Bo []=none:=a8
      rw[this] at ho;cases ho
     have h1:=lX (tk:=tk) (s:=r.2) (w:=pk (az tk) r.2) dp ag;omega
  ·exact FT (M:=mu tk s-1) (fun s' wj=>sY n (l+1) s' ah ah) (jY (tk:=tk) n (l+1)) n _ _ ah ah
def Rp{n:Nat}{kd:Int}{a:List Fd}{s:PS}(h:mu tk s+1<=n):∃ r,rM (az tk) n kd a s=some r:=by
 unfold rM;refine jx (vL n _ ?_);have:=iN (fJ (tk:=tk) (s:=s))
 omega
def Qg{n:Nat}{s:PS}(h:9*mu tk s+10<=n):∃ r,tB (az tk) n (pE (az tk) n 0) s=some r:=by
 unfold tB;simp only;refine di (fun _=>⟨_,rfl⟩) fun hk=>?_
 have BK:pk (az tk) s≠[]:=by
  intro e;rw[e] at hk;revert hk;decide
 have h1:=lX (tk:=tk) (s:=s) (w:=pk (az tk) s) BK ag;have h2:=iN ((fJ (tk:=tk) (s:=s.up)).tr (cU (w:=[40]) ag));refine jM (vm (M:=mu tk s) (fun a s' h'=>Rp ah) (fun a s' r h'=>sQ h') ah ah) fun sl ri=>di (fun _=>⟨_,rfl⟩) fun _=>?_
 have h3:=iN (vo (tk:=tk) ag (fun a s' r h'=>sQ h') ri)
 refine jM (vL n _ ah) fun w hw=>jx (sY n 0 _ ah ?_)
 have h4:=iN ((mh _ _ _ hw).tr (cU (w:=[61]) ag));omega
def Ha:∀ (k:Nat) (us:List aB) (s:PS),mu tk s+1<=k->∃ r,rQ (az tk) k us s=some r
 | 0,_,s,h=>ah
 | k+1,us,s,h=>by
  unfold rQ;refine di (fun e=>?_) fun _=>⟨_,rfl⟩
  simp only[auT] at e;have h1:=lX a8 e.2;have h2:=iN (fJ (tk:=tk) (s:=s.up));exact Ha k _ _ ah
def F6{n:Nat} : ∀ (k:Nat) (a:List Fm × List Nat) (s:PS),mu tk s+1<=k->9*mu tk s+10<=n->∃ r,o8 (az tk) n k a s=some r
 | 0,_,s,h,_=>ah
 | k+1,a,s,h,hn=>by
  unfold o8;refine di (fun e=>jM (Qg hn) fun r hr=>?_) fun _=>⟨_,rfl⟩
  simp only[auT,avg] at e;have kJ:(az tk).length=tk.length:=by simp[az]
  have aZ:s.i<tk.length:=by have:=e.2;rw[kJ,avh] at this;exact this
  have hm:mu tk r.2+1<=mu tk s:=by
   unfold mu;rw[e.1];cases hb:r.2.bad with
   | true=>simp only[cond_true,cond_false];omega
   | false=>have:=Oq hr hb;simp only[cond_false];omega
  exact F6 k _ _ ah ah
theorem yQ:∀ (k:Nat) (us:List aB) (s:PS) (r:List aB × PS),rQ (az tk) k us s=some r->Lq tk s r.2
 | 0,_,_,_,h=>by cases h
 | k+1,us,s,r,h=>by
  unfold rQ at h;cases hc:(!s.bad&&(pk (az tk) s==Au)) with
  | false =>
   grind [Lq.ZJ]
  | true =>
   rw[hc,cond_true] at h;simp only[auT] at hc;exact (kG a8 hc.2).tr (fJ.tr (yQ k _ _ r h))
def Q9{n:Nat}(h:9*tk.length+10<=n):∃ r,wy (az tk) n=some r:=by
 unfold wy;have h0:=iN ((cU (tk:=tk) (s:=⟨0,false⟩) (w:=jW) a8).tr fJ);have h1:mu tk ⟨0,false⟩=tk.length:=rfl;refine jM (Ha n _ _ ah) fun u hu=>jx (F6 n _ _ ?_ ?_)
 all_goals
  have:Lq tk (aL (az tk) (aY (az tk) jW ⟨0,false⟩)).2 u.2:=yQ _ _ _ _ hu
  have:=iN this
  omega
def Np{n:Nat}{s:aB}(h:73738<=n):∃ r,qI n s=some r:=by
 unfold qI;split
 ·rename_i mN
  obtain⟨_,_,h2,_⟩:=y6 mN;exact jx (Q9 ah)
 ·exact⟨_,rfl⟩
end
end
section
theorem G0(k:Int):∀ r:aB,dH k r=r.length->∀ b∈r,b.toNat≠46
 | [],_,b,hb=>by cases hb
 | c :: r,h,b,hb=>by
  have hle:=tu k r;simp only[dH,List.length_cons] at h;split at h
  ·rename_i hc
   rcases avi.1 hb with rfl|hb
   ·intro e
    have e2:b=46:=aw0.1 e;subst e2;revert hc;rw[show kindOf 46=0 from by decide]
    omega
   ·exact G0 k r ah b hb
  ·omega
theorem tv(h:isWord w=true):∀ b∈w,b.toNat≠46:=by
 cases w with
 | nil=>intro b hb;cases hb
 | cons a r =>
  simp only[isWord,auT,au1] at h;obtain⟨⟨h1,_⟩,h2⟩:=h;have e:il (a :: r)=if 0<kindOf a then (if 16<1+dH (kindOf a) r then 0 else 1+dH (kindOf a) r) else if 1<=r.length/\mq ((a :: r).take 2)=true then 2 else if mq [a]=true then 1 else 0:=rfl
  rw[e,if_pos ah] at h2;split at h2
  ·simp at h2
  ·intro b hb
   rcases avi.1 hb with rfl|hb
   ·intro e
    have e2:b=46:=aw0.1 e;subst e2;rw[show kindOf 46=0 from by decide] at h1
    omega
   ·grind [G0]
def ux:∀ {w:aB},(∀ b∈w,b.toNat≠46)->aV w=(w,[],false)
 | [],_=>rfl
 | b :: r,h=>by
  have h1:=ux (w:=r) fun x hx=>h x (xD hx)
  rw[aV,if_neg (h b ag),h1]
theorem zM:∀ {w v:aB},(∀ b∈w,b.toNat≠46)->aV (w++46 :: v)=(w,v,true)
 | [],v,_=>by rw[avM,aV,if_pos a8]
 | b :: r,v,h=>by
  have h1:=zM (w:=r) (v:=v) fun x hx=>h x (xD hx)
  rw[avU,aV,if_neg (h b ag),h1]
def Q7(h:isWord w=true):gV w=true:=by
 unfold gV;rw[ux (tv h)];simp[h]
theorem Vo{v:aB}(h:isWord w=true)(h2:isWord v=true):gV (w++46 :: v)=true:=by
 unfold gV
 grind [zM,tv]
section
variable {tk:List Tk}
theorem fu{s:PS}(h:(aY (az tk) w s).bad=false):s.bad=false/\(pk (az tk) s==w)=true:=by
 unfold aY at h;cases hc:(pk (az tk) s==w) with
 | true=>rw[hc,cond_true] at h;exact⟨h,rfl⟩
 | false=>rw[hc,cond_false] at h;cases h
theorem Pf{s:PS}(h:(aY (az tk) w s).bad=false):aY (az tk) w s=s.up:=by
 have:=(fu h).2
 unfold aY;rw[this,cond_true]
theorem jD{s:PS}(h:(aY (az tk) w s).bad=false):(aY (az tk) w s).i=s.i+1:=by rw[Pf h];rfl
def mw{s:PS}(h:(aL (az tk) s).2.bad=false):(aL (az tk) s).2.i=s.i+1:=by
 unfold aL at h ⊢;cases hc:isWord (pk (az tk) s) with
 | true=>rfl
 | false=>rw[hc,cond_false] at h;cases h
def U6{s:PS}(h:(jR (az tk) least s).2.bad=false):(jR (az tk) least s).2.i=s.i+1:=by
 unfold jR at h ⊢;cases hc:decide (fL (pk (az tk) s)<least) with
 | true=>rw[hc,cond_true] at h;cases h
 | false=>rfl
def iK{s:PS}(h:(aL (az tk) s).2.bad=false):s.bad=false/\isWord (aL (az tk) s).1=true/\(aL (az tk) s).1=pk (az tk) s:=by
 unfold aL at h ⊢;cases hc:isWord (pk (az tk) s) with
 | true=>rw[hc,cond_true] at h;exact⟨h,hc,rfl⟩
 | false=>rw[hc,cond_false] at h;cases h
theorem Nj{s:PS}(h1:0<=least)(h:(jR (az tk) least s).2.bad=false):least<=(jR (az tk) least s).1/\(jR (az tk) least s).1<=1099511627776:=by
 unfold jR at h ⊢;cases hc:decide (fL (pk (az tk) s)<least) with
 | true=>rw[hc,cond_true] at h;cases h
 | false =>
  simp only[cond_false];refine⟨cT hc,?_⟩;unfold fL
  grind
def y4{s:PS}(h:(aR (az tk) s).2.bad=false):gV (aR (az tk) s).1=true:=by
 unfold aR at h ⊢;cases hc:(!(aL (az tk) s).2.bad&&(pk (az tk) (aL (az tk) s).2==[46])) with
 | false =>
  rw[hc,cond_false] at h;simp only[cond_false];exact Q7 (iK h).2.1
 | true =>
  rw[hc,cond_true] at h;simp only[cond_true];simp only at h;simp only[auT,avg] at hc;exact Vo (iK hc.1).2.1 (iK h).2.1
theorem sZ{s:PS}(h:(aR (az tk) s).2.bad=false):(aJ (aR (az tk) s).1).length+s.i<=(aR (az tk) s).2.i:=by
 unfold aR at h ⊢;cases hc:(!(aL (az tk) s).2.bad&&(pk (az tk) (aL (az tk) s).2==[46])) with
 | false =>
  rw[hc,cond_false] at h;simp only[cond_false];unfold aJ;rw[ux (tv (iK h).2.1),mw h]
  grind
 | true =>
  rw[hc,cond_true] at h;simp only[cond_true];simp only at h;simp only[auT,avg] at hc;unfold aJ;rw[zM (tv (iK hc.1).2.1),mw h];have:=mw hc.1
  simp only[awE,List.length_cons,List.length_nil,PS.up];omega
theorem IL:∀ (n:Nat) (s:PS) (r:Wd × PS),pX (az tk) n s=some r->r.2.bad=false->(bQ r.1).length+s.i<=r.2.i
 | 0,_,_,h,_=>by cases h
 | n+1,s,r,h,hb=>by
  unfold pX at h;cases h1:(pk (az tk) s==ua) with
  | true =>
   rw[h1,cond_true,auR] at h;subst h
   show (bQ (.mk ua [])).length+s.i<=s.i+1
   rw[show (bQ (.mk ua [])).length=1 by decide];omega
  | false =>
   rw[h1,cond_false] at h;cases h2:(pk (az tk) s==oZ) with
   | true =>
    rw[h2,cond_true,auR] at h;subst h
    show (bQ (.mk oZ [])).length+s.i<=s.i+1
    rw[show (bQ (.mk oZ [])).length=1 by decide];omega
   | false =>
    rw[h2,cond_false] at h;cases h3:(pk (az tk) s==ki) with
    | true =>
     rw[h3,cond_true,auP] at h;obtain⟨q,hq,rfl⟩:=h;have CU:=(fu hb).1;have ih:=IL n _ q hq CU;have e1:=jD hb;have I2:(aY (az tk) [40] s.up).bad=false:=by
      cases hx:(aY (az tk) [40] s.up).bad with
      | false=>rfl
      | true=>rw[(mh _ _ _ hq).bad hx] at CU;cases CU
     have e2:=jD I2;have e3:s.up.i=s.i+1:=rfl;have ew:bQ (.mk ki [q.1])=[cS,[40]]++bQ q.1++[[41]]:=by rw[bQ,if_pos a8]
     grind
    | false =>
     rw[h3,cond_false,auR] at h;subst h;have hq:=y4 hb;have hi:=sZ hb;have hl:(aR (az tk) s).1≠cS:=by
      intro e;rw[e] at hq;revert hq;decide
     have ew:(bQ (.mk (aR (az tk) s).1 [])).length<=(aJ (aR (az tk) s).1).length:=by
      rw[bQ]
      ·split
       ·unfold aJ;split<;>simp
       ·exact Nat.le_refl _
      ·simp
     grind
theorem PU{n:Nat}{s:PS}{r:Wd × PS}(h:lS (az tk) n s=some r)(hb:r.2.bad=false):(bQ r.1).length+2+s.i<=r.2.i:=by
 unfold lS at h;rw[auP] at h;obtain⟨q,hq,rfl⟩:=h;have CU:=(fu hb).1;have ih:=IL n _ q hq CU;have e1:=jD hb;have I2:(aY (az tk) [40] s).bad=false:=by
  cases hx:(aY (az tk) [40] s).bad with
  | false=>rfl
  | true=>rw[(mh _ _ _ hq).bad hx] at CU;cases CU
 grind [jD]
theorem BX:∀ (n:Nat) (s:PS) (r:Wd × PS),pX (az tk) n s=some r->r.2.bad=false->bX r.1=true
 | 0,_,_,h,_=>by cases h
 | n+1,s,r,h,hb=>by
  unfold pX at h;cases h1:(pk (az tk) s==ua) with
  | true=>rw[h1,cond_true,auR] at h;subst h;exact (by decide:bX (.mk ua [])=true)
  | false =>
   rw[h1,cond_false] at h;cases h2:(pk (az tk) s==oZ) with
   | true=>rw[h2,cond_true,auR] at h;subst h;exact (by decide:bX (.mk oZ [])=true)
   | false =>
    rw[h2,cond_false] at h;cases h3:(pk (az tk) s==ki) with
    | true =>
     rw[h3,cond_true,auP] at h;obtain⟨q,hq,rfl⟩:=h;have:=BX n _ q hq (fu hb).1
     show (if ki=cS then bX q.1 else false)=true
     rw[if_pos a8];exact this
    | false =>
     rw[h3,cond_false,auR] at h;subst h;have hq:=y4 hb;have hl:(aR (az tk) s).1≠cS:=by
      intro e;rw[e] at hq;revert hq;decide
     show (if (aR (az tk) s).1=cS then false else _)=true
     grind
theorem Mi{n:Nat}{s:PS}{r:Wd × PS}(h:lS (az tk) n s=some r)(hb:r.2.bad=false):bX r.1=true:=by
 unfold lS at h;rw[auP] at h;obtain⟨q,hq,rfl⟩:=h
 grind [BX,fu]
section
variable {α:Type}{elem:α->PS->Option (α × PS)}{fin:aB}{P Q F:α->PS->Prop}(he:∀ a s r,elem a s=some r->r.2.bad=false->P a s->Q r.1 r.2)(MO:∀ a s,Q a s->P a s.up)(hF:∀ a s,Q a s->F a s.up)(jo:∀ a s r,elem a s=some r->s.bad=true->r.2.bad=true)
include he MO hF jo
theorem Ks:∀ (k:Nat) (a:α) (s:PS) (r:α × PS),uM (az tk) elem fin k a s=some r->r.2.bad=false->P a s->F r.1 r.2/\s.bad=false
 | 0,_,_,_,h,_,_=>by cases h
 | k+1,a,s,r,h,hb,hP=>by
  unfold uM at h;rw[auQ] at h;obtain⟨q,hq,h⟩:=h;have hs:q.2.bad=false->s.bad=false:=fun h=>by
   grind
  cases hc:(!q.2.bad&&(pk (az tk) q.2==[44])) with
  | true =>
   rw[hc,cond_true] at h;simp only[auT,avg] at hc;exact⟨(Ks k _ _ r h hb (MO _ _ (he a s q hq hc.1 hP))).1,hs hc.1⟩
  | false =>
   grind [Pf]
def BL{a:α}{s:PS}{r:α × PS}(h:tI (az tk) elem fin k a s=some r)(hb:r.2.bad=false)(hP:P a s)(h0:F a s.up):F r.1 r.2/\s.bad=false:=by
 unfold tI at h;cases hc:(pk (az tk) s==fin) with
 | true =>
  rw[hc,cond_true,auR] at h;subst h;exact⟨h0,hb⟩
 | false =>
  rw[hc,cond_false] at h;exact Ks he MO hF jo k a s r h hb hP
end
def wS(ks:List Tm):Nat:=(ks.map fun t=>(af t).length+1).sum
def An:wS []=0:=rfl
theorem Pe{t:Tm} : wS (ks++[t])=wS ks+((af t).length+1):=by unfold wS;simp
theorem BV{t:Tm} : wS (t :: ks)=((af t).length+1)+wS ks:=by unfold wS;simp
theorem Ys(p:List aB × Int)(k:Int):p.1.length<=(gH p k).length:=by
 unfold gH
 grind
theorem zZ(p:List aB × Int){k l:Int}(h:k<=l):(gH p k).length<=(gH p l).length:=by
 unfold gH
 grind
def Yr(p:List aB × Int){k:Int}(h:k<=p.2):gH p k=p.1:=by unfold gH;rw[if_neg ah]
def Lp(tk:List Tk)(l:Int)(E:EP):Prop:=∀ s r,E s=some r->r.2.bad=false->ay r.1=true/\(gH (af r.1,bH r.1) l).length+s.i<=r.2.i
def Lp.ge{l:Int}{E:EP}(h:Lp tk l E){s:PS}{r:Tm × PS}(hr:E s=some r)(hb:r.2.bad=false):ay r.1=true/\(af r.1).length+s.i<=r.2.i :=
 ⟨(h s r hr hb).1,avx (awT (Ys (af r.1,bH r.1) l) _) (h s r hr hb).2⟩
section
variable {E B:EP}
theorem yK(hE:Lp tk 0 E){s:PS}(h:uJ E ks s=some r)(hb:r.2.bad=false):∃ t,r.1=ks++[t]/\(ay t=true/\(af t).length+s.i<=r.2.i):=by
 unfold uJ at h;rw[auP] at h;obtain⟨q,hq,rfl⟩:=h;exact⟨q.1,rfl,hE.ge hq hb⟩
theorem sP(hE:Lp tk 0 E){s:PS}(h:oI (az tk) E w ks s=some r)(hb:r.2.bad=false):(∃ t,r.1=ks++[t]/\(ay t=true/\(af t).length+1+s.i<=r.2.i))/\s.bad=false:=by
 unfold oI at h
 grind [yK,jD,fu]
end
def PK(d:Nat)(c:Nat)(ks:List Tm)(s:PS):Prop:=ks.all ay=true/\wS ks+d*ks.length+c<=s.i
def QK(d:Nat)(c:Nat)(ks:List Tm)(s:PS):Prop:=ks.all ay=true/\wS ks+d*ks.length+c<=s.i+1
def FK(d:Nat)(c:Nat)(ks:List Tm)(s:PS):Prop:=ks.all ay=true/\wS ks+d*ks.length-1+1+c<=s.i
theorem PK.snoc{c:Nat}{t:Tm}{s:PS}(h:PK d c ks s)(ht:ay t=true/\(af t).length+d+s.i<=s'.i):QK d c (ks++[t]) s':=by
 unfold PK QK at *;refine⟨?_,?_⟩
 ·grind
 ·rw[Pe,List.length_append,List.length_cons,List.length_nil,Nat.mul_add];omega
def QK.up{c:Nat}{s:PS}(h:QK d c ks s):PK d c ks s.up:=by
 unfold PK QK at *;exact⟨h.1,by have:s.up.i=s.i+1:=rfl;omega⟩
def QK.fin{c:Nat}{s:PS}(h:QK d c ks s)(h0:c<=s.i):FK d c ks s.up:=by
 unfold FK QK at *;exact⟨h.1,by have:s.up.i=s.i+1:=rfl;omega⟩
def Db:∀ (xs:List (List aB)),(av xs).length<=(xs.map fun x=>x.length+1).sum-1
 | []=>by simp[av]
 | [a]=>by simp[av]
 | a :: b :: r=>by
  have ih:=Db (b :: r);simp only[av,au9,aw7,List.length_append,List.length_cons,List.length_nil] at ih ⊢;omega
def ry{xs:List (List aB)}{n:Nat}(h:(xs.map fun x=>x.length+1).sum<=n):(av xs).length<=n-1:=by have:=Db xs;omega
def GA(ks:List Tm):(av (ks.map af)).length<=wS ks-1:=by
 refine ry ?_
 induction ks with
 | nil=>simp[wS]
 | cons t ks ih=>rw[BV];simp only[au9,aw7] at ih ⊢;omega
def agH(ns:List aB)(ks:List Tm):(av (List.zipWith (fun s (x:List aB × Int)=>[s,[61]]++x.1) ns (ks.map fun t=>(af t,bH t)))).length<=wS ks+2*ks.length-1:=by
 refine ry ?_
 induction ks generalizing ns with
 | nil=>cases ns<;>simp
 | cons t ks ih =>
  cases ns with
  | nil=>simp
  | cons n ns =>
   have:=ih ns
   rw[BV];simp only[au9,aw5,aw7,List.length_append,List.length_cons,List.length_nil] at this ⊢;omega
def WU(ks:List Tm)(ns:List aB):(av (jl ns (ks.map fun t=>(af t,bH t)))).length<=wS ks+3*ks.length-1:=by
 refine ry ?_
 induction ks generalizing ns with
 | nil=>match ns with
  | []=>simp[jl]
  | [_]=>simp[jl]
  | _ :: _ :: _=>simp[jl]
 | cons t ks ih =>
  match ns with
  | []=>simp[jl]
  | [_]=>simp[jl]
  | p :: q :: ns =>
   have:=ih ns
   rw[BV];simp only[au9,jl,aw7,List.length_append,List.length_cons,List.length_nil] at this ⊢;omega
theorem Yw(p:List aB × Int)(k:Int):(gH p k).length<=p.1.length+2:=by
 unfold gH
 grind
end
end
end Go.Proofs.YtnhpoddlmjpapaaGreatDoor
end
