/-
  A part of the proof of SyntaxLossless: UQ44, UW1, UW2, UW3, UW4, UW5, V15, Y1.
-/
import Derived.Test.YtkoebdjmmgckdaaGreatDoorQ13
set_option linter.unusedSimpArgs false
set_option linter.unusedVariables false
set_option linter.defProp false
set_option maxHeartbeats 2000000
set_option maxRecDepth 100000
noncomputable section
namespace Go.Proofs.YtkoebdjmmgckdaaGreatDoor
open Go Go.Abs Go.Proofs
variable {u:Fd}{k kd l lv o:Int}{ts:List av}{mm:Nat}{tb:Nat->List av}{K:aa}{s:av}
section
section
variable {tk:List Tk}{E B:EP}
section
variable {n:Int}{a f p q:av}{wn:av}{wk:List Wd}{ns:List av}{ks:List Tm}{x y z:Tm}
def Ov(s:av):0<(aL s).length:=by unfold aL;split<;>simp
theorem alZ:(ag (.mk 5 n a f wn wk [x,y,z] ns)).length=(ag x).length+(ag y).length+(ag z).length+3:=by
 rw[bC];show ([[105,102]]++ag x++[[116,104,101,110]]++ag y++[[101,108,115,101]]++ag z).length=_
 grind
theorem al0:(ag (.mk 6 n a f wn wk [x,y] [p])).length=(ag x).length+(ag y).length+4:=by
 rw[bC];show ([[108,101,116],p,[61]]++ag x++[[105,110]]++ag y).length=_
 grind
def agI:(ag (.mk 12 n a f wn wk [x,y,z] [p,q])).length=(ag x).length+(ag y).length+(ag z).length+7:=by
 rw[bC];show ([[102,111,108,100],p,[44],q,[61]]++ag y++[[111,118,101,114]]++ag x++[[100,111]]++ag z).length=_
 exact iA
theorem agG:(ag (.mk 10 n a f wn wk (x :: ks) ns)).length<=(aL a).length+(ag x).length+5+(wS ks+3*ks.length-1):=by
 have:=YD ks ns
 rw[bC];show ([[109,97,116,99,104]]++aL a++[[40]]++ag x++[[41]]++[[123]]++ar (ig ns (ks.map fun t=>(ag t,bo t)))++[[125]]).length<=_
 grind
theorem al1:(ag (.mk 7 n a f wn wk ks ns)).length<=(aL a).length+2+(wS ks+2*ks.length-1):=by
 have:=aiN ns ks
 rw[bC];show (aL a++[[123]]++ar (List.zipWith (fun s (x:List av × Int)=>[s,[61]]++x.1) ns (ks.map fun t=>(ag t,bo t)))++[[125]]).length<=_
 grind
theorem alX:(ag (.mk 3 n a f wn wk ks ns)).length<=(aL a).length+2+(wS ks-1):=by
 have:=Hf ks
 rw[bC];show (fK 3 n a f (.mk wn wk) ns (ks.map fun t=>(ag t,bo t))).length<=_
 rw[b3,List.map_map,show ((fun x:List av × Int=>x.1) ∘ fun t=>(ag t,bo t))=ag from rfl]
 grind
theorem agH:(ag (.mk 11 n a f wn wk ks ns)).length<=(bM (.mk wn wk)).length+5+(wS ks-1):=by
 have:=Hf ks
 rw[bC];show (fK 11 n a f (.mk wn wk) ns (ks.map fun t=>(ag t,bo t))).length<=_
 rw[b11,List.map_map,show ((fun x:List av × Int=>x.1) ∘ fun t=>(ag t,bo t))=ag from rfl]
 grind
theorem al2:(ag (.mk 8 n a f wn wk [x] ns)).length=(aL a).length+(ag x).length+4:=by
 rw[bC];show (aL a++[[58],f]++[[91]]++ag x++[[93]]).length=_
 grind
theorem al3:(ag (.mk 9 n a f wn wk [x] ns)).length=(aL a).length+(ag x).length+4:=by
 rw[bC];show (aL a++[[58],f]++[[40]]++ag x++[[41]]).length=_
 grind
theorem adG:(ag (.mk 4 n a f wn wk [x] ns)).length=(fV (ag x,bo x) 7).length+1:=by
 rw[bC];show ([(cD n).1]++fV (ag x,bo x) 7).length=_
 grind
theorem alY:(ag (.mk 4 n a f wn wk [x,y] ns)).length=(fV (ag x,bo x) (if (cD n).2=3 then 4 else (cD n).2)).length+(fV (ag y,bo y) ((cD n).2+1)).length+1:=by
 rw[bC];show (fV (ag x,bo x) (if (cD n).2=3 then 4 else (cD n).2)++[(cD n).1]++fV (ag y,bo y) ((cD n).2+1)).length=_
 grind
def JK{t:Tm}{a b:Nat}(h:k<=bo t)(h2:(ag t).length+a<=b):(fV (ag t,bo t) k).length+a<=b:=by rw[Z9 _ h];exact h2
def adE:(ag (.mk 0 n a f wn wk ks ns)).length=if n<0 then 2 else 1:=by
 rw[bC];show (fK 0 n a f (.mk wn wk) ns _).length=_
 rw[b0];split<;>rfl
def adF:(ag (.mk 1 n a f wn wk ks ns)).length=1:=by rw[bC];rfl
def alW:(ag (.mk 2 n a f wn wk ks ns)).length=1:=by rw[bC];rfl
end
def Ze(hE:Mp tk 0 E)(hB:Mp tk 1 B):Mp tk 0 (ow (aq tk) E B):=by
 intro s r h hb;unfold ow at h;cases h1:(pk (aq tk) s==JZ) with
 | true =>
  rw[h1,cond_true,aw1] at h;obtain⟨a,ha,h⟩:=h;rw[aw1] at h;obtain⟨b,kG,h⟩:=h;rw[aw0] at h;obtain⟨c,hc,rfl⟩:=h;obtain⟨⟨z,ez,pz,lz⟩,bb⟩:=tE hE hc hb;obtain⟨⟨y,ey,py,ly⟩,ba⟩:=tE hE kG bb;obtain⟨x,ex,px,lx⟩:=zq hE ha ba;have NI:s.up.i=s.i+1:=rfl;refine⟨?_,JK (azT (0:Int)) (by show (ag (.mk 5 0 [] [] [] [] c.1 [])).length+s.i<=c.2.i;rw[ez,ey,ex];show (ag (.mk 5 0 [] [] [] [] [x,y,z] [])).length+s.i<=c.2.i;rw[alZ];omega)⟩
  show ax (.mk 5 0 [] [] [] [] c.1 [])=true
  rw[ez,ey,ex,Qm rfl rfl]
  show (true&&List.all ([]++[x]++[y]++[z]) ax)=true
  simp[px,py,pz]
 | false =>
  rw[h1,cond_false] at h;cases h2:(pk (aq tk) s==Bk) with
  | true =>
   rw[h2,cond_true,aw1] at h;obtain⟨a,ha,h⟩:=h;rw[aw0] at h;obtain⟨c,hc,rfl⟩:=h;obtain⟨⟨y,ey,py,ly⟩,ba⟩:=tE hE hc hb;obtain⟨⟨x,ex,px,lx⟩,bn⟩:=tE hE ha ba;have hn:=(iJ bn).2.1;have NI:s.up.i=s.i+1:=rfl;have hni:=mH bn;refine⟨?_,JK (azT (0:Int)) (by show (ag (.mk 6 0 [] [] [] [] c.1 [(aE (aq tk) s.up).1])).length+s.i<=c.2.i;rw[ey,ex];show (ag (.mk 6 0 [] [] [] [] [x,y] [(aE (aq tk) s.up).1])).length+s.i<=c.2.i;rw[al0];omega)⟩
   show ax (.mk 6 0 [] [] [] [] c.1 [(aE (aq tk) s.up).1])=true
   rw[ey,ex,Qn rfl rfl]
   show (true&&List.all [(aE (aq tk) s.up).1] isWord&&List.all ([]++[x]++[y]) ax)=true
   simp[px,py,hn]
  | false =>
   rw[h2,cond_false] at h;cases h3:(pk (aq tk) s==uG) with
   | true =>
    rw[h3,cond_true,aw1] at h;obtain⟨a,ha,h⟩:=h;rw[aw1] at h;obtain⟨b,kG,h⟩:=h;rw[aw0] at h;obtain⟨c,hc,rfl⟩:=h;obtain⟨⟨z,ez,pz,lz⟩,bb⟩:=tE hE hc hb;obtain⟨⟨y,ey,py,ly⟩,ba⟩:=tE hE kG bb;obtain⟨⟨x,ex,px,lx⟩,bn⟩:=tE hE ha ba;have hf:∃ u v,(nu (aq tk) s.up).1=[u,v]/\isWord u=true/\isWord v=true/\s.up.i+3<=(nu (aq tk) s.up).2.i:=by
     unfold nu at bn ⊢;cases gC:(aN (aq tk) [44] (aE (aq tk) s.up).2).bad with
     | true=>rw[gC,cond_true] at bn;rw[gC] at bn;cases bn
     | false =>
      rw[gC,cond_false] at bn;have i1:=mH bn;have i2:=jF gC;have i3:=mH (dV gC).1;exact⟨_,_,rfl,(iJ (dV gC).1).2.1,(iJ bn).2.1,by simp only[cond_false];omega⟩
    obtain⟨u,v,ef,pu,pv,lf⟩:=hf;have NI:s.up.i=s.i+1:=rfl;have Zy:c.2.bad=false:=hb;refine⟨?_,JK (azT (0:Int)) (by show (ag (.mk 12 0 [] [] [] [] (bif c.2.bad then c.1 else FI c.1) (nu (aq tk) s.up).1)).length+s.i<=c.2.i;rw[Zy,cond_false,ez,ey,ex,ef];show (ag (.mk 12 0 [] [] [] [] [y,x,z] [u,v])).length+s.i<=c.2.i;rw[agI];omega)⟩
    show ax (.mk 12 0 [] [] [] [] (bif c.2.bad then c.1 else FI c.1) (nu (aq tk) s.up).1)=true
    have Zy:c.2.bad=false:=hb;rw[Zy,cond_false,ez,ey,ex,ef,Jd rfl rfl]
    show (true&&List.all [u,v] isWord&&List.all [y,x,z] ax)=true
    simp[px,py,pz,pu,pv]
   | false =>
    rw[h3,cond_false] at h;exact⟨(hB s r h hb).1,axx (ay3 (AL _ aB) _) (hB s r h hb).2⟩
theorem Hi(hE:Mp tk 0 E)(gE:gR tk E){c d:Nat} : ∀ (k:Nat) (a:List av × List Tm) (s:PS) (r:(List av × List Tm) × PS),lR (aq tk) E k a s=some r->r.2.bad=false->(a.1.all isWord=true/\(a.2.all ax=true/\wS a.2+3*a.2.length+c<=s.i+d)/\a.1.length+2=2*a.2.length) ->
  (r.1.1.all isWord=true/\(r.1.2.all ax=true/\wS r.1.2+3*r.1.2.length+c<=r.2.i+1+d)/\r.1.1.length+2=2*r.1.2.length/\2<=r.1.2.length)/\s.bad=false
 | 0,_,_,_,h,_,_=>by cases h
 | k+1,a,s,r,h,hb,hP=>by
  unfold lR at h;rw[aw1] at h;obtain⟨q,hq,h⟩:=h;have step:q.2.bad=false->((a.1++[(aE (aq tk) s).1,(aE (aq tk) (aE (aq tk) s).2).1]).all isWord=true/\((a.2++[q.1]).all ax=true/\wS (a.2++[q.1])+3*(a.2++[q.1]).length+c<=q.2.i+1+d)/\(a.1++[(aE (aq tk) s).1,(aE (aq tk) (aE (aq tk) s).2).1]).length+2=2*(a.2++[q.1]).length/\2<=(a.2++[q.1]).length)/\s.bad=false:=fun DG=>by
   have b0:(aN (aq tk) [45,62] (aE (aq tk) (aE (aq tk) s).2).2).bad=false:=by
    cases hx:(aN (aq tk) [45,62] (aE (aq tk) (aE (aq tk) s).2).2).bad with
    | false=>rfl
    | true=>rw[(gE _ _ hq).bad hx] at DG;cases DG
   have n2:=iJ (dV b0).1;have n1:=iJ n2.1;obtain⟨p1,p2,p3⟩:=hP;have i1:=jF b0;have i2:=mH (dV b0).1;have i3:=mH n2.1;obtain⟨h1,h2⟩:=hE.ge hq DG
   grind [QE]
  cases hc:(!q.2.bad&&(pk (aq tk) q.2==[44])) with
  | true =>
   simp only[hc,cond_true] at h;simp only[aw4,axq] at hc;obtain⟨⟨t1,t2,t3,t4⟩,t5⟩:=step hc.1;exact⟨(Hi hE gE k _ _ r h hb ⟨t1,⟨t2.1,by have:q.2.up.i=q.2.i+1:=rfl;have:=t2.2;simp only at this ⊢;omega⟩,t3⟩).1,t5⟩
  | false =>
   grind
theorem Wj(hE:Mp tk 0 E)(gE:gR tk E){n:Nat} : ∀ s r,mG (aq tk) n E s=some r->r.2.bad=false->ax r.1=true/\(fV (ag r.1,bo r.1) 7).length+s.i<=r.2.i+1:=by
 intro s r h hb;unfold mG at h;rw[aw1] at h;obtain⟨q,hq,h⟩:=h;rw[aw0] at h;obtain⟨m,hm,rfl⟩:=h;have hmb:=(dV hb).1;have hs:(aN (aq tk) [123] (aN (aq tk) [41] q.2)).bad=false:=by
  cases hx:(aN (aq tk) [123] (aN (aq tk) [41] q.2)).bad with
  | false=>rfl
  | true=>rw[(rY gE n _ _ _ hm).bad hx] at hmb;cases hmb
 have DG:=(dV (dV hs).1).1;have h0:(aN (aq tk) [40] (aJ (aq tk) s).2).bad=false:=by
  cases hx:(aN (aq tk) [40] (aJ (aq tk) s).2).bad with
  | false=>rfl
  | true=>rw[(gE _ _ hq).bad hx] at DG;cases DG
 have hqn:=zJ (dV h0).1;have i1:=jF h0;have i2:=tM (dV h0).1;have i3:=jF (dV hs).1;have i4:=jF hs;have i5:=jF hb;obtain⟨h1,h2⟩:=hE.ge hq DG;obtain⟨⟨t1,t2,t3,t4⟩, -⟩:=Hi hE gE (c:=(aN (aq tk) [123] (aN (aq tk) [41] q.2)).i) (d:=(ag q.1).length+4) n ([],[q.1]) _ m hm hmb ⟨rfl,⟨by simp[h1],by rw[show wS [q.1]=(ag q.1).length+1 from rfl];simp only[List.length_cons,List.length_nil];omega⟩,rfl⟩
 obtain⟨t2,t2l⟩:=t2;refine⟨?_,?_⟩
 ·show ax (.mk 10 0 (aJ (aq tk) s).1 [] [] [] m.1.2 m.1.1)=true
  rw[Fg rfl rfl]
  show (decide (2<=m.1.2.length)&&decide ((m.1.1.length:Int)=2*((m.1.2.length:Int)-1))&&m.1.1.all isWord&&gK (aJ (aq tk) s).1&&m.1.2.all ax)=true
  grind
 ·refine JK (show (7:Int)<=8 by decide) ?_
  show (ag (.mk 10 0 (aJ (aq tk) s).1 [] [] [] m.1.2 m.1.1)).length+s.i<=(aN (aq tk) [125] m.2).i+1
  generalize m.1.2=ks at *;cases ks with
  | nil=>simp at t4
  | cons x ks =>
   grind [agG,CO]
theorem V4(hE:Mp tk 0 E)(gE:gR tk E){c:Nat}{a:List av × List Tm}{s:PS}{r:(List av × List Tm) × PS}(h:wH (aq tk) E a s=some r)(hb:r.2.bad=false)(hP:a.1.all isWord=true/\PK 2 c a.2 s/\a.1.length=a.2.length):r.1.1.all isWord=true/\QK 2 c r.1.2 r.2/\r.1.1.length=r.1.2.length:=by
 unfold wH at h;rw[aw0] at h;obtain⟨q,hq,rfl⟩:=h;have b0:(aN (aq tk) [61] (aE (aq tk) s).2).bad=false:=by
  cases hx:(aN (aq tk) [61] (aE (aq tk) s).2).bad with
  | false=>rfl
  | true =>
   have iG:q.2.bad=false:=hb;rw[(iH gE hq).bad hx] at iG;cases iG
 have n1:=iJ (dV b0).1;obtain⟨t,et,pt,lt⟩:=zq hE hq hb;have i1:=jF b0;have i2:=mH (dV b0).1;obtain⟨p1,p2,p3⟩:=hP;refine⟨?_,?_,?_⟩
 ·grind
 ·show QK 2 c q.1 q.2
  rw[et];exact p2.snoc ⟨pt,af⟩
 ·grind
theorem Ww(hE:Mp tk 0 E)(gE:gR tk E){n:Nat} : Mp tk 7 (kW (aq tk) n E):=by
 intro s r h hb;unfold kW at h;simp only at h;have qn:(aJ (aq tk) s).2.bad=false->gK (aJ (aq tk) s).1=true:=zJ;have upb:∀ {w:av} {p:PS},p.up.bad=false->p.bad=false:=fun h=>h
 cases h1:(pk (aq tk) (aJ (aq tk) s).2==[40]) with
 | true =>
  rw[h1,cond_true,aw0] at h;obtain⟨q,hq,rfl⟩:=h;obtain⟨⟨p1,p1l⟩,p2⟩:=CD (P:=PK 0 (aJ (aq tk) s).2.up.i) (Q:=fun ks s'=>QK 0 (aJ (aq tk) s).2.up.i ks s'/\(aJ (aq tk) s).2.up.i<=s'.i) (F:=FK 0 (aJ (aq tk) s).2.up.i) (fun a s r he hb hP=>by obtain⟨t,et,pt,lt⟩:=zq hE he hb;rw[et];exact⟨hP.snoc ⟨pt,af⟩,by have:=hP.2;omega⟩) (fun _ _ h=>h.1.up) (fun _ _ h=>h.1.fin h.2) (fun a s r he=>(iH gE he).bad) hq hb ⟨rfl,by rw[Bc];simp only[List.length_nil];omega⟩ ⟨rfl,by rw[Bc];simp only[List.length_nil,PS.up];omega⟩
  have i1:=tM (tk:=tk) p2;have i2:(aJ (aq tk) s).2.up.i=(aJ (aq tk) s).2.i+1:=rfl;have i3:=Ov (aJ (aq tk) s).1;refine⟨?_,JK (show (7:Int)<=8 by decide) (by
   show (ag (.mk 3 0 (aJ (aq tk) s).1 [] [] [] q.1 [])).length+s.i<=q.2.i
   have:=alX (n:=0) (a:=(aJ (aq tk) s).1) (f:=[]) (wn:=[]) (wk:=[]) (ns:=[]) (ks:=q.1)
   omega)⟩
  show ax (.mk 3 0 (aJ (aq tk) s).1 [] [] [] q.1 [])=true
  rw[adP rfl rfl]
  show (gK (aJ (aq tk) s).1&&q.1.all ax)=true
  rw[qn p2,p1];rfl
 | false =>
  rw[h1,cond_false] at h;cases h2:(pk (aq tk) (aJ (aq tk) s).2==[123]) with
  | true =>
   rw[h2,cond_true,aw0] at h;obtain⟨q,hq,rfl⟩:=h;obtain⟨⟨p1,⟨p3,p3l⟩,p4⟩,p2⟩:=CD (P:=fun (a:List av × List Tm) s'=>a.1.all isWord=true/\PK 2 (aJ (aq tk) s).2.up.i a.2 s'/\a.1.length=a.2.length) (Q:=fun (a:List av × List Tm) s'=>a.1.all isWord=true/\QK 2 (aJ (aq tk) s).2.up.i a.2 s'/\a.1.length=a.2.length/\(aJ (aq tk) s).2.up.i<=s'.i) (F:=fun (a:List av × List Tm) s'=>a.1.all isWord=true/\FK 2 (aJ (aq tk) s).2.up.i a.2 s'/\a.1.length=a.2.length) (fun a s r he hb hP=>by have h1:=V4 hE gE he hb hP;have h2:=(vR gE he).i;have h3:=hP.2.1.2;exact⟨h1.1,h1.2.1,h1.2.2,af⟩) (fun _ _ h=>⟨h.1,h.2.1.up,h.2.2.1⟩) (fun _ _ h=>⟨h.1,h.2.1.fin h.2.2.2,h.2.2.1⟩) (fun a s r he=>(vR gE he).bad) hq hb ⟨rfl,⟨rfl,by rw[Bc];simp only[List.length_nil];omega⟩,rfl⟩ ⟨rfl,⟨rfl,by rw[Bc];simp only[List.length_nil,PS.up];omega⟩,rfl⟩
   have i1:=tM (tk:=tk) p2;have i2:(aJ (aq tk) s).2.up.i=(aJ (aq tk) s).2.i+1:=rfl;refine⟨?_,JK (show (7:Int)<=8 by decide) (by
    show (ag (.mk 7 0 (aJ (aq tk) s).1 [] [] [] q.1.2 q.1.1)).length+s.i<=q.2.i
    have:=al1 (n:=0) (a:=(aJ (aq tk) s).1) (f:=[]) (wn:=[]) (wk:=[]) (ns:=q.1.1) (ks:=q.1.2)
    have i3:=Ov (aJ (aq tk) s).1;omega)⟩
   show ax (.mk 7 0 (aJ (aq tk) s).1 [] [] [] q.1.2 q.1.1)=true
   rw[Qo rfl rfl]
   show (decide ((q.1.1.length:Int)=q.1.2.length)&&q.1.1.all isWord&&gK (aJ (aq tk) s).1&&q.1.2.all ax)=true
   simp_all
  | false =>
   rw[h2,cond_false] at h;cases h3:(pk (aq tk) (aJ (aq tk) s).2==[58]) with
   | true =>
    rw[h3,cond_true] at h;unfold oP at h;cases h4:(pk (aq tk) (aE (aq tk) (aJ (aq tk) s).2.up).2==[91]) with
    | true =>
     rw[h4,cond_true,aw0] at h;obtain⟨q,hq,rfl⟩:=h;have qb:=(dV hb).1;have nb:(aE (aq tk) (aJ (aq tk) s).2.up).2.bad=false:=by
      cases hx:(aE (aq tk) (aJ (aq tk) s).2.up).2.bad with
      | false=>rfl
      | true=>rw[(gE _ _ hq).bad hx] at qb;cases qb
     have n1:=iJ nb;obtain⟨h1,h2⟩:=hE.ge hq qb;have i1:=tM (tk:=tk) (s:=s) n1.1;have i2:(aJ (aq tk) s).2.up.i=(aJ (aq tk) s).2.i+1:=rfl;have i3:=mH nb;have i4:=jF hb;have i5:(aE (aq tk) (aJ (aq tk) s).2.up).2.up.i=(aE (aq tk) (aJ (aq tk) s).2.up).2.i+1:=rfl;refine⟨?_,JK (show (7:Int)<=8 by decide) (by
      show (ag (.mk 8 0 (aJ (aq tk) s).1 (aE (aq tk) (aJ (aq tk) s).2.up).1 [] [] [q.1] [])).length+s.i<=(aN (aq tk) [93] q.2).i
      rw[al2];omega)⟩
     show ax (.mk 8 0 (aJ (aq tk) s).1 (aE (aq tk) (aJ (aq tk) s).2.up).1 [] [] [q.1] [])=true
     rw[LR rfl rfl]
     show (true&&gK (aJ (aq tk) s).1&&isWord (aE (aq tk) (aJ (aq tk) s).2.up).1&&List.all [q.1] ax)=true
     rw[qn n1.1,n1.2.1];simp[h1]
    | false =>
     rw[h4,cond_false,aw0] at h;obtain⟨q,hq,rfl⟩:=h;have qb:=(dV hb).1;have nb:(aN (aq tk) [40] (aE (aq tk) (aJ (aq tk) s).2.up).2).bad=false:=by
      cases hx:(aN (aq tk) [40] (aE (aq tk) (aJ (aq tk) s).2.up).2).bad with
      | false=>rfl
      | true=>rw[(gE _ _ hq).bad hx] at qb;cases qb
     have n1:=iJ (dV nb).1;obtain⟨h1,h2⟩:=hE.ge hq qb;have i1:=tM (tk:=tk) (s:=s) n1.1;have i2:(aJ (aq tk) s).2.up.i=(aJ (aq tk) s).2.i+1:=rfl;have i3:=mH (dV nb).1;have i4:=jF hb;have i5:=jF nb;refine⟨?_,JK (show (7:Int)<=8 by decide) (by
      show (ag (.mk 9 0 (aJ (aq tk) s).1 (aE (aq tk) (aJ (aq tk) s).2.up).1 [] [] [q.1] [])).length+s.i<=(aN (aq tk) [41] q.2).i
      rw[al3];omega)⟩
     show ax (.mk 9 0 (aJ (aq tk) s).1 (aE (aq tk) (aJ (aq tk) s).2.up).1 [] [] [q.1] [])=true
     rw[LS rfl rfl]
     show (true&&gK (aJ (aq tk) s).1&&isWord (aE (aq tk) (aJ (aq tk) s).2.up).1&&List.all [q.1] ax)=true
     rw[qn n1.1,n1.2.1];simp[h1]
   | false =>
    rw[h3,cond_false] at h;cases h4:decide (0<=cw 46 0 (aJ (aq tk) s).1) with
    | true =>
     rw[h4,cond_true,aw2] at h;subst h;cases hb
    | false =>
     rw[h4,cond_false,aw2] at h;subst h;have hq:=qn hb;have i1:=tM (tk:=tk) (s:=s) hb;have i2:=Ov (aJ (aq tk) s).1;refine⟨?_,JK (show (7:Int)<=8 by decide) (by
      show (ag (.mk 2 0 (aJ (aq tk) s).1 [] [] [] [] [])).length+s.i<=(aJ (aq tk) s).2.i
      rw[alW];omega)⟩
     have hix:=AH (aJ (aq tk) s).1 0
     show ax (.mk 2 0 (aJ (aq tk) s).1 [] [] [] [] [])=true
     rw[adO rfl rfl]
     show isWord (aJ (aq tk) s).1=true
     cases hd:(aU (aJ (aq tk) s).1).2.2 with
     | true =>
      grind
     | false =>
      unfold gK at hq
      grind [uT]
theorem YG(hE:Mp tk 0 E)(gE:gR tk E){n:Nat} : Mp tk 7 (lN (aq tk) n E):=by
 intro s r h hb;unfold lN at h;cases h1:decide (0<=dE (pk (aq tk) s)) with
 | true =>
  rw[h1,cond_true,aw2] at h;subst h;have:=Od af hb
  have i1:=WC hb;refine⟨?_,JK (show (7:Int)<=8 by decide) (by show (ag (.mk 0 (iE (aq tk) 0 s).1 [] [] [] [] [] [])).length+s.i<=(iE (aq tk) 0 s).2.i;rw[adE,if_neg af];omega)⟩
  show ax (.mk 0 (iE (aq tk) 0 s).1 [] [] [] [] [] [])=true
  rw[WR rfl rfl]
  show decide (-1099511627776<=(iE (aq tk) 0 s).1/\(iE (aq tk) 0 s).1<=1099511627776)=true
  rw[decide_eq_true];omega
 | false =>
 rw[h1,cond_false] at h;cases h2:(pk (aq tk) s==[45]) with
 | true =>
  rw[h2,cond_true,aw2] at h;subst h;have:=Od af hb
  have i1:=WC hb;have i2:s.up.i=s.i+1:=rfl;refine⟨?_,JK (show (7:Int)<=8 by decide) (by show (ag (.mk 0 (-(iE (aq tk) 1 s.up).1) [] [] [] [] [] [])).length+s.i<=(iE (aq tk) 1 s.up).2.i;rw[adE,if_pos af];omega)⟩
  show ax (.mk 0 (-(iE (aq tk) 1 s.up).1) [] [] [] [] [] [])=true
  rw[WR rfl rfl]
  show decide (-1099511627776<=-(iE (aq tk) 1 s.up).1/\-(iE (aq tk) 1 s.up).1<=1099511627776)=true
  rw[decide_eq_true];omega
 | false =>
 rw[h2,cond_false] at h;cases h3:(pk (aq tk) s==xt) with
 | true =>
  rw[h3,cond_true,aw2] at h;subst h;exact⟨(by decide:ax (.mk 1 1 [] [] [] [] [] [])=true),JK (show (7:Int)<=8 by decide) (by show (ag (.mk 1 1 [] [] [] [] [] [])).length+s.i<=s.i+1;rw[adF];omega)⟩
 | false =>
 rw[h3,cond_false] at h;cases h4:(pk (aq tk) s==sQ) with
 | true =>
  rw[h4,cond_true,aw2] at h;subst h;exact⟨(by decide:ax (.mk 1 0 [] [] [] [] [] [])=true),JK (show (7:Int)<=8 by decide) (by show (ag (.mk 1 0 [] [] [] [] [] [])).length+s.i<=s.i+1;rw[adF];omega)⟩
 | false =>
 rw[h4,cond_false] at h;cases h5:(pk (aq tk) s==[40]) with
 | true =>
  rw[h5,cond_true,aw0] at h;obtain⟨q,hq,rfl⟩:=h;obtain⟨h1,h2⟩:=hE.ge hq (dV hb).1;have i1:=jF hb;have i2:s.up.i=s.i+1:=rfl
  grind [aaf]
 | false =>
 rw[h5,cond_false] at h;cases h6:(pk (aq tk) s==jr) with
 | true =>
  rw[h6,cond_true,aw1] at h;obtain⟨w,hw,h⟩:=h;rw[aw0] at h;obtain⟨q,hq,rfl⟩:=h;obtain⟨⟨p1,p1l⟩,p2⟩:=CD (P:=PK 0 (aN (aq tk) [91] w.2).i) (Q:=fun ks s'=>QK 0 (aN (aq tk) [91] w.2).i ks s'/\(aN (aq tk) [91] w.2).i<=s'.i) (F:=FK 0 (aN (aq tk) [91] w.2).i) (fun a s r he hb hP=>by obtain⟨t,et,pt,lt⟩:=zq hE he hb;rw[et];exact⟨hP.snoc ⟨pt,af⟩,by have:=hP.2;omega⟩) (fun _ _ h=>h.1.up) (fun _ _ h=>h.1.fin h.2) (fun a s r he=>(iH gE he).bad) hq hb ⟨rfl,by rw[Bc];simp only[List.length_nil];omega⟩ ⟨rfl,by rw[Bc];simp only[List.length_nil,PS.up];omega⟩
  have pw:=M8 hw (dV p2).1;have i1:=Re hw (dV p2).1;have i2:=jF p2;have i3:s.up.i=s.i+1:=rfl;have hwk:(bM (.mk w.1.name w.1.kids)).length=(bM w.1).length:=by cases w.1;rfl
  refine⟨?_,JK (show (7:Int)<=8 by decide) (by
   show (ag (.mk 11 0 [] [] w.1.name w.1.kids q.1 [])).length+s.i<=q.2.i
   have:=agH (n:=0) (a:=[]) (f:=[]) (wn:=w.1.name) (wk:=w.1.kids) (ns:=[]) (ks:=q.1)
   omega)⟩
  show ax (.mk 11 0 [] [] w.1.name w.1.kids q.1 [])=true
  rw[Oo rfl rfl]
  show (bD (.mk w.1.name w.1.kids)&&q.1.all ax)=true
  have:Wd.mk w.1.name w.1.kids=w.1:=by cases w.1;rfl
  rw[this,pw,p1];rfl
 | false =>
 rw[h6,cond_false] at h;cases h7:(pk (aq tk) s==qF) with
 | true =>
  rw[h7,cond_true] at h;obtain⟨h1,h2⟩:=Wj hE gE _ _ h hb;have i1:s.up.i=s.i+1:=rfl;exact⟨h1,af⟩
 | false =>
  rw[h7,cond_false] at h;exact Ww hE gE _ _ h hb
def aml{w:av}(h:wL w=some (o,l)):0<=o/\o<=11/\(cD o).2≠7/\(cD o).2=l:=by
 unfold wL at h;rw[aw1] at h;obtain⟨r,hr,h⟩:=h;have hm:=List.mem_of_find?_eq_some hr;simp only[mZ,axs,axR,ays] at hm
 rcases hm with rfl|rfl|rfl|rfl|rfl|rfl|rfl|rfl|rfl|rfl
 all_goals
  simp only[aw2,aw6] at h;obtain⟨rfl,rfl⟩:=h
  decide
theorem al4{a f wn:av}{wk:List Wd}{ks:List Tm}{ns:List av}(h:(cD o).2=l)(hl:decide (l=lv)=true):lv<=bo (.mk 4 o a f wn wk ks ns):=by
 show lv<=(cD o).2
 grind
theorem O7(hB:Mp tk (lv+1) B)(gB:gR tk B){c:Nat} : ∀ (k:Nat) (t:Tm) (s:PS) (r:Tm × PS),rJ (aq tk) B lv k t s=some r->r.2.bad=false->ax t=true/\(fV (ag t,bo t) (if lv=3 then 4 else lv)).length+c<=s.i->ax r.1=true/\(fV (ag r.1,bo r.1) lv).length+c<=r.2.i
 | 0,_,_,_,h,_,_=>by cases h
 | k+1,t,s,r,h,hb,ht=>by
  have ht0:ax t=true/\(fV (ag t,bo t) lv).length+c<=s.i:=⟨ht.1,axx (ay3 (AL _ (by split<;>omega)) _) ht.2⟩
  unfold rJ at h;cases hs:s.bad with
  | true=>rw[hs,cond_true,aw2] at h;subst h;exact ht0
  | false =>
   rw[hs,cond_false] at h;split at h
   ·grind
   ·rename_i o l ho
    cases hl:decide (l=lv) with
    | false=>rw[hl,cond_false,aw2] at h;subst h;exact ht0
    | true =>
     rw[hl,cond_true,aw1] at h;obtain⟨q,hq,h⟩:=h;obtain⟨o1,o2,o3,o4⟩:=aml ho;have mk:q.2.bad=false->ax (.mk 4 o [] [] [] [] [t,q.1] [])=true/\(ag (.mk 4 o [] [] [] [] [t,q.1] [])).length+c<=q.2.i:=fun DG=>by
      obtain⟨h1,h2⟩:=hB _ _ hq DG;have i1:s.up.i=s.i+1:=rfl;have uu:l=lv:=cJ hl;subst uu;refine⟨?_,(by rw[alY,o4];have:=ht.2;omega)⟩
      rw[Fh rfl rfl]
      show (decide (0<=o/\o<=11)&&iD (.mk 4 o [] [] [] [] [t,q.1] []) (if (cD o).2=7 then 1 else 2) 0&&List.all [t,q.1] ax)=true
      rw[if_neg o3,decide_eq_true ⟨o1,o2⟩];simp[ht.1,h1,iD,Tm.kids,Tm.names]
     cases h3:decide (lv=3) with
     | true =>
      rw[h3,cond_true,aw2] at h;subst h;exact⟨(mk hb).1,JK (al4 o4 hl) (mk hb).2⟩
     | false =>
      rw[h3,cond_false] at h;have DG:q.2.bad=false:=by
       cases hx:q.2.bad with
       | false=>rfl
       | true=>rw[(tI gB k _ _ _ h).bad hx] at hb;cases hb
      exact O7 hB gB k _ _ r h hb ⟨(mk DG).1,by rw[if_neg (cJ h3)];exact JK (al4 o4 hl) (mk DG).2⟩
def Hu:∀ (n l:Nat),l<=7->Mp tk l (pE (aq tk) n l)
 | 0,l,_=>fun s r h=>by cases h
 | n+1,l,hl=>by
  have h0:=Hu n 0 af;have g0:=iN (tk:=tk) n 0
  by_cases hl0:l=0
  ·subst hl0
   exact Ze h0 (Hu n 1 af)
  by_cases hl7:l=7
  ·subst hl7
   intro s r h hb
   replace h:(bif pk (aq tk) s==rC then (pE (aq tk) n 7 s.up).map fun r=>(.mk 4 9 [] [] [] [] [r.1] [],r.2)
    else bif pk (aq tk) s==ua then (pE (aq tk) n 7 s.up).map fun r=>(.mk 4 11 [] [] [] [] [r.1] [],r.2)
    else lN (aq tk) n (pE (aq tk) n 0) s)=some r:=h
   cases h1:(pk (aq tk) s==rC) with
   | true =>
    rw[h1,cond_true,aw0] at h;obtain⟨q,hq,rfl⟩:=h;have:=Hu n 7 af _ _ hq hb
    have i1:s.up.i=s.i+1:=rfl;refine⟨?_,JK (show (7:Int)<=7 by decide) (by show (ag (.mk 4 9 [] [] [] [] [q.1] [])).length+s.i<=q.2.i;rw[adG];have h2:(fV (ag q.1,bo q.1) 7).length+s.up.i<=q.2.i:=this.2;omega)⟩
    show ax (.mk 4 9 [] [] [] [] [q.1] [])=true
    rw[Fh rfl rfl]
    show (true&&true&&List.all [q.1] ax)=true
    simp[this.1]
   | false =>
    rw[h1,cond_false] at h;cases h2:(pk (aq tk) s==ua) with
    | true =>
     rw[h2,cond_true,aw0] at h;obtain⟨q,hq,rfl⟩:=h;have:=Hu n 7 af _ _ hq hb
     have i1:s.up.i=s.i+1:=rfl;refine⟨?_,JK (show (7:Int)<=7 by decide) (by show (ag (.mk 4 11 [] [] [] [] [q.1] [])).length+s.i<=q.2.i;rw[adG];have h2:(fV (ag q.1,bo q.1) 7).length+s.up.i<=q.2.i:=this.2;omega)⟩
     show ax (.mk 4 11 [] [] [] [] [q.1] [])=true
     rw[Fh rfl rfl]
     show (true&&true&&List.all [q.1] ax)=true
     simp[this.1]
    | false =>
     rw[h2,cond_false] at h;exact YG h0 g0 _ _ h hb
  intro s r h hb;rw[Oh af af,aw1] at h;obtain⟨q,hq,h⟩:=h;have hB:=Hu n (l+1) af;have gB:=iN (tk:=tk) n (l+1);have DG:q.2.bad=false:=by
   cases hx:q.2.bad with
   | false=>rfl
   | true=>rw[(tI gB n _ _ _ h).bad hx] at hb;cases hb
  exact O7 hB gB n _ _ r h hb ⟨(hB _ _ hq DG).1,axx (ay3 (AL _ (by split<;>omega)) _) (hB _ _ hq DG).2⟩
structure OkF (f:Fm):Prop where
 k:0<=f.kind/\f.kind<=5
 p:gb f=true
 l:f.layout=[]
 n:(dD f).length<=8192
def sL(kd:Int)(l:List Fd):Nat:=(l.map fun u=>(bU kd u).length+1).sum
def abu{l:List Fd} : sL kd (l++[u])=sL kd l+((bU kd u).length+1):=by unfold sL;simp
theorem XE{n:Nat}{a:List Fd}{s:PS}{r:List Fd × PS}(h:mV (aq tk) n kd a s=some r)(hb:r.2.bad=false){c:Nat}(hP:a.all (dP kd)=true/\sL kd a+c<=s.i):r.1.all (dP kd)=true/\sL kd r.1+c<=r.2.i+1:=by
 unfold mV at h;rw[aw0] at h;obtain⟨w,hw,h⟩:=h;have core:∀ (m:Int) (z:Nat),w.2.bad=false->0<=m->m<=1099511627776->(kd=4\/m=0)->(if kd=4 then z=w.2.i+1 else z=w.2.i)->(a++[(⟨(aE (aq tk) s).1,w.1.name,w.1.kids,m⟩:Fd)]).all (dP kd)=true/\sL kd (a++[(⟨(aE (aq tk) s).1,w.1.name,w.1.kids,m⟩:Fd)])+c<=z+1:=fun m z NK h1 h2 h3 hz=>by
  obtain⟨hP,hPl⟩:=hP;have hn:(aE (aq tk) s).2.bad=false:=by
   cases hx:(aE (aq tk) s).2.bad with
   | false=>rfl
   | true=>rw[(iY _ _ _ hw).bad hx] at NK;cases NK
  have pw:=CQ n _ w hw NK;have:Wd.mk w.1.name w.1.kids=w.1:=by cases w.1;rfl
  have i1:=mH hn;have i2:=JA n _ w hw NK;refine⟨?_,(by
   rw[abu];unfold bU;rw[this];split at hz
   ·rename_i h4
    rw[if_pos h4];exact iA
   ·rename_i h4
    rw[if_neg h4];simp only[List.length_append,List.length_cons,List.length_nil];omega)⟩
  rw[ayS,hP];simp only[axF,List.all_cons,List.all_nil,axX];unfold dP;simp only[(iJ hn).2.1,this,pw,axF]
  grind
 cases h4:decide (kd=4) with
 | true =>
  rw[h4,cond_true] at h;subst h;have hk:kd=4:=cJ h4;obtain⟨n1,n2⟩:=Od af hb;have NK:w.2.bad=false:=by
   cases hx:w.2.bad with
   | false=>rfl
   | true=>rw[(AO (tk:=tk) af).bad hx] at hb;cases hb
  exact core _ _ NK n1 n2 (.inl hk) (by rw[if_pos hk];exact WC hb)
 | false =>
  rw[h4,cond_false] at h;subst h
  simp_all
theorem Zp{n:Nat}{s:PS}{r:Fm × PS}(h:lW (aq tk) n (pE (aq tk) n 0) s=some r)(hb:r.2.bad=false):(dD r.1).length+s.i<=r.2.i/\(r.2.i<=8192->OkF r.1):=by
 suffices hx:(dD r.1).length+s.i<=r.2.i/\(0<=r.1.kind/\r.1.kind<=5)/\gb r.1=true/\r.1.layout=[] from ⟨hx.1,fun NF=>⟨hx.2.1,hx.2.2.1,hx.2.2.2,by have:=hx.1;omega⟩⟩
 unfold lW at h;simp only at h;have hk5:kR (pk (aq tk) s) cG 0<=5:=by
  have key:∀ (w:av) (l:List av) (i:Nat),kR w l i<(i:Int)+l.length:=by
   intro w l
   induction l with
   | nil=>intro i;unfold kR;simp;omega
   | cons a l ih =>
    intro i;unfold kR
    grind
  have:=key (pk (aq tk) s) cG 0
  have hl:cG.length=6:=rfl;rw[hl] at this;omega
 cases hk:decide (kR (pk (aq tk) s) cG 0<0) with
 | true =>
  rw[hk,cond_true,aw2] at h;subst h;cases hb
 | false =>
  rw[hk,cond_false] at h;have zZ:0<=kR (pk (aq tk) s) cG 0:=cJ hk;generalize kR (pk (aq tk) s) cG 0=k at *;simp only[aw1] at h;obtain⟨sl,qu,h⟩:=h;have slp:sl.2.bad=false->sl.1.all (dP k)=true/\isWord (aE (aq tk) s.up).1=true/\sL k sl.1-1+4+s.i<=sl.2.i:=fun kG=>by
   obtain⟨⟨p1,p1l⟩,p2⟩:=CD (P:=fun (a:List Fd) s'=>a.all (dP k)=true/\sL k a+(aN (aq tk) [40] (aE (aq tk) s.up).2).i<=s'.i) (Q:=fun (a:List Fd) s'=>(a.all (dP k)=true/\sL k a+(aN (aq tk) [40] (aE (aq tk) s.up).2).i<=s'.i+1)/\(aN (aq tk) [40] (aE (aq tk) s.up).2).i<=s'.i) (F:=fun (a:List Fd) s'=>a.all (dP k)=true/\sL k a-1+1+(aN (aq tk) [40] (aE (aq tk) s.up).2).i<=s'.i) (fun a s r he hb hP=>⟨XE he hb hP,by have:=(pd he).i;have:=hP.2;omega⟩) (fun a s h=>⟨h.1.1,by have:s.up.i=s.i+1:=rfl;have:=h.1.2;omega⟩) (fun a s h=>⟨h.1.1,by have:s.up.i=s.i+1:=rfl;have h1:=h.1.2;have h2:=h.2;omega⟩) (fun a s r he=>(pd he).bad) qu kG ⟨rfl,by simp[sL]⟩ ⟨rfl,by simp[sL,PS.up];omega⟩
   have i1:=jF p2;have i2:=mH (dV p2).1;have i3:s.up.i=s.i+1:=rfl;exact⟨p1,(iJ (dV p2).1).2.1,af⟩
  cases h2:(decide (k=0) || decide (k=1)) with
  | true =>
   rw[h2,cond_true,aw2] at h;subst h;obtain⟨p1,p2,p3⟩:=slp hb;refine⟨(by
    have hl:=rX (xs:=sl.1.map (bU k)) (n:=sL k sl.1) (by rw[List.map_map];exact Nat.le_refl _)
    have h01:k=0\/k=1:=cJ h2;unfold dD
    show ([_,_,[40]]++ar (sl.1.map (bU k))++[[41]]++(if k=0\/k=1 then [] else _)).length+s.i<=sl.2.i
    rw[if_pos h01];simp only[List.length_append,List.length_cons,List.length_nil];omega),⟨zZ,hk5⟩,?_,rfl⟩
   show (isWord (aE (aq tk) s.up).1&&sl.1.all (dP k)&&bif decide (k=0) || decide (k=1) then oG [] []&&gG tm0 else _)=true
   rw[h2,p1,p2];rfl
  | false =>
   rw[h2,cond_false,aw1] at h;obtain⟨w,hw,h⟩:=h;rw[aw0] at h;obtain⟨b,vK,rfl⟩:=h;have Gl:(aN (aq tk) [61] w.2).bad=false:=by
    cases hx:(aN (aq tk) [61] w.2).bad with
    | false=>rfl
    | true =>
     have iG:b.2.bad=false:=hb;rw[(iN (tk:=tk) n 0 _ _ vK).bad hx] at iG;cases iG
   have NK:=(dV Gl).1;have aqf:sl.2.bad=false:=by
    cases hx:sl.2.bad with
    | false=>rfl
    | true=>rw[(iY _ _ _ hw).bad hx] at NK;cases NK
   obtain⟨p1,p2,p3⟩:=slp aqf;have pw:=CQ n _ w hw NK;have pb:=(Hu n 0 af).ge vK hb;have:Wd.mk w.1.name w.1.kids=w.1:=by cases w.1;rfl
   have i1:=JA n _ w hw NK;have i2:=jF Gl;have h01:¬ (k=0\/k=1):=cJ h2;refine⟨(by
    have hl:=rX (xs:=sl.1.map (bU k)) (n:=sL k sl.1) (by rw[List.map_map];exact Nat.le_refl _)
    unfold dD
    show ([_,_,[40]]++ar (sl.1.map (bU k))++[[41]]++(if k=0\/k=1 then [] else bM (.mk w.1.name w.1.kids)++[[61]]++ag b.1)).length+s.i<=b.2.i
    rw[if_neg h01,this];have yZ:=pb.2;simp only[List.length_append,List.length_cons,List.length_nil];omega),⟨zZ,hk5⟩,?_,rfl⟩
   show (isWord (aE (aq tk) s.up).1&&sl.1.all (dP k)&&bif decide (k=0) || decide (k=1) then _ else bD (.mk w.1.name w.1.kids)&&ax b.1)=true
   grind
def Fit(fs:List Fm)(es:List Nat):Prop:=es.length=fs.length+1/\∀ i (f:Fm),fs[i]?=some f->(dD f).length+es.getD i 0<=es.getD (i+1) 0
theorem Fit.snoc{fs:List Fm}{es:List Nat}{f:Fm}{e:Nat}(h:Fit fs es)(hf:(dD f).length+es.getD fs.length 0<=e):Fit (fs++[f]) (es++[e]):=by
 obtain⟨h1,h2⟩:=h;refine⟨by simp[h1],fun i g hg=>?_⟩
 grind
theorem Pb{n:Nat} : ∀ (k:Nat) (a:List Fm × List Nat) (s:PS) (r:(List Fm × List Nat) × PS),lU (aq tk) n k a s=some r->r.2.bad=false->s.i<=tk.length->Fit a.1 a.2/\(tk.length<=8192->∀ f∈a.1,OkF f)/\a.2.getD a.1.length 0=s.i->Fit r.1.1 r.1.2/\(tk.length<=8192->∀ f∈r.1.1,OkF f)/\r.1.2.getD r.1.1.length 0=r.2.i/\tk.length<=r.2.i
 | 0,_,_,_,h,_,_,_=>by cases h
 | k+1,a,s,r,h,hb,hsi,hP=>by
  unfold lU at h;cases hc:(!s.bad&&Nat.blt s.i (aq tk).length) with
  | false =>
   rw[hc,cond_false,aw2] at h;subst h;refine⟨hP.1,hP.2.1,hP.2.2,?_⟩;have hbs:s.bad=false:=hb;rw[hbs] at hc
   simpa [aq,<- aze,axp] using hc
  | true =>
   rw[hc,cond_true,aw1] at h;obtain⟨⟨f,s2⟩,hf,h⟩:=h;have kG:s2.bad=false:=by
    cases vK:s2.bad with
    | false=>rfl
    | true =>
     match k with
     | 0=>cases h
     | k+1 =>
      unfold lU at h
      grind
   have hle:=(CG (iN (tk:=tk) n 0) hf).le hsi;obtain⟨f1,f2⟩:=Zp hf kG;refine Pb k _ _ r h hb hle ⟨hP.1.snoc (by rw[hP.2.2];exact f1),fun qO g hg=>?_,?_⟩
   ·grind
   ·show (a.2++[s2.i]).getD (a.1++[f]).length 0=s2.i
    rw[List.getD_eq_getElem?_getD,show (a.1++[f]).length=a.2.length by rw[hP.1.1];simp,List.getElem?_append_right (Nat.le_refl _),ayQ]
    rfl
def L1{n:Nat}{q:(av × List av × List Fm × List Nat) × PS}(h:qS (aq tk) n=some q)(hb:q.2.bad=false):Fit q.1.2.2.1 q.1.2.2.2/\(tk.length<=8192->∀ f∈q.1.2.2.1,OkF f)/\q.1.2.2.2.getD q.1.2.2.1.length 0=q.2.i/\tk.length<=q.2.i:=by
 unfold qS at h;simp only[aw1,aw0] at h;obtain⟨u,hu,d,hd,rfl⟩:=h;exact Pb n _ _ d hd hb (((bH aB).tr (dv.tr (qQ _ _ _ _ hu))).le (axh _)) ⟨⟨rfl,fun i f hf=>by simp at hf⟩,fun _ f hf=>(by cases hf),rfl⟩
def abm{n:Nat}(qO:tk.length<=8192){q:(av × List av × List Fm × List Nat) × PS}(h:qS (aq tk) n=some q)(hb:q.2.bad=false):∀ f∈q.1.2.2.1,OkF f:=(L1 h hb).2.1 qO
end
end
def yz(mm:Nat)(K:aa)(f:FuncId)(args:List AV)(jo:List av):Prop :=
 ∀ l,l.length+jo.length<=9000000->ai A f args (ct mm l false K)=some (.undef,some ⟨ct mm (l++jo) false K,mm⟩)
def nf(t:Tm):Prop:=ax t=true/\∀ (mm:Nat) (K:aa),PW mm K->yz mm K 70 [.ref mm 0,.agg (aK t)] (ag t)
def ank{f:FuncId}{args:List AV}{jo:List av}{n:Nat}(h:rB mm K f args true jo n)(hn:n<=jo.length+1000000):yz mm K f args jo:=by
 intro l hl;obtain⟨l',e,t1,n1⟩:=h l false af;rw[t1 rfl] at e;exact e
def NS{t:Tm}(ht:nf t)(least:Int)(hP:PW mm K):yz mm K 133 [.ref mm 0,.agg (aK t),.int .i64 least] (fV (ag t,bo t) least):=by
 intro l hl;obtain⟨hp,ht⟩:=ht;have uu:=fun K=>Wf t K
 have RN:=N0 hp;unfold yz at ht;rw[aj] at uu ht ⊢;obtain⟨K1,fj,cY,fm,hT,hO⟩:=oZ hP t;have aP:=hP.lt;unfold fV at hl ⊢;simp only at hl ⊢;rw[<- RN] at hl ⊢
 by_cases hc:DT t<least
 ·rw[if_pos hc] at hl ⊢
  simp only[List.length_append,List.length_cons,List.length_nil] at hl;have e1:=di fj [[40]] l false ae iA;have e2:=ht mm K1 fj (l++[[40]]) iA;have e3:=di fj [[41]] (l++[[40]]++ag t) false ae iA;rw[uz] at e1 e3;have ho:=hO (l++[[40]]++ag t++[[41]]) false;rw[show l++([[40]]++ag t++[[41]])=l++[[40]]++ag t++[[41]] by simp]
  refine cW VN.eq_1 ?_;exact l9 cY fm uu e1 e2 (j5 e3 hT ho @Nat.lt_irrefl @bf) tv
 ·rw[if_neg hc] at hl ⊢
  have e2:=ht mm K1 fj l hl;have ho:=hO (l++ag t) false;refine cW VN.eq_1 ?_;exact l9 cY fm uu e2 hT (j3 ho @Nat.lt_irrefl @bf) tv
def Sg:∀ (xs:List (List av)) (y:List av),(ar xs).length<=(ar (xs++[y])).length:=by
 intro xs y;rw[jJ];split
 ·rename_i h;rw[h];simp[ar]
 ·simp
def adA{ks:List Tm} : ∀ (d i:Nat),(ar (ve tb ks i)).length<=(ar (ve tb ks (i+d))).length
 | 0,i=>Nat.le_refl _
 | d+1,i=>axx (adA d i) (by rw[show i+(d+1)=i+d+1 by omega,DP];exact Sg _ _)
def QN(mm:Nat)(K:aa)(fb:FuncId)(cs:List AV)(i:Nat)(jo:List av):Prop :=
 ∀ l,l.length+jo.length<=9000000->∃ c,ai A fb (.int .i64 i :: cs) (ct mm l false K)=some (.undef,c)/\(c=some ⟨ct mm (l++jo) false K,mm⟩\/c=none/\jo=[])
def CI{ks:List Tm}{fb:FuncId}{cs:List AV}(hP:PW mm K)(fU:∀ u∈ks,nf u)(Gf:ks.length<=9000000)(zZ:0<ks.length)(hb:∀ i,i<ks.length->QN mm K fb cs i (tb i)) :
  yz mm K 109 [.ref mm 0,.slice (aF ks) false,.func (.func fb) [] cs] (ar (ve tb ks ks.length)):=by
 intro l hl;have aP:=hP.lt;refine cW VH.eq_1 ?_;refine qx @cx @bf ?_;refine bK ks.length 0 (fun i s=>∃ T lo g,s=⟨T,ct mm (l++ar (ve tb ks i)) false K,lo,g⟩/\(lo=mm\/lo=K.length)/\(i=0\/lo=mm)/\T 0=.ref mm 0/\T 2=.func (.func fb) [] cs/\T 8=.slice (aF ks) false/\T 9=.int .i64 ks.length/\T 10=.int .i64 i)
  (fun s=>∃ T g,s=⟨T,ct mm (l++ar (ve tb ks ks.length)) false K,mm,g⟩) (fun _=>False) ?_ ?_ (fun _ h=>h.elim) 0 _ af ?_
 ·rintro i s hi ⟨T,lo,g,rfl,yp,rf,q0,q2,q8,q9,JV⟩
  by_cases B6:i<ks.length
  ·have hx:=aw3 B6
   have hm:=axn B6;have IF:ks.getD i qt=ks[i]:=by rw[List.getD,hx];rfl
   have hle:(ar (ve tb ks (i+1))).length<=(ar (ve tb ks ks.length)).length:=by
    have:=adA (tb:=tb) (ks:=ks) (ks.length-(i+1)) (i+1)
    rwa [show i+1+(ks.length-(i+1))=ks.length by omega] at this
   rw[DP,IF] at hle ⊢;generalize ks[i]=u at hx hm hle;have ft:=BT hx;obtain⟨-,hT⟩:=fU u hm;unfold yz at hT;rw[aj] at hT ft;have RM:(bif decide (mm<lo) then mm else lo)=mm:=by
    rcases yp with rfl|rfl
    ·simp
    ·simp[aP]
   have BB:(bif decide (mm<mm) then mm else mm)=mm:=ae
   have IH:(ve tb ks i).length=i:=PY
   by_cases h0:i=0
   ·have Ye:ve tb ks i=[]:=by rw[h0];rfl
    rw[Ye] at hle ⊢;have hl0:ar ([]:List (List av))=[]:=rfl;have PD:ar ([]++[tb i++ag u])=tb i++ag u:=rfl;rw[PD] at hle ⊢;rw[hl0,List.append_nil];simp only[List.length_append] at hle;obtain⟨c2,e2,gC⟩:=hb i B6 l af;have e3:=hT mm K hP (l++tb i) (by rw[List.length_append];omega)
    rw[<- axf]
    rcases gC with rfl|⟨rfl,h2⟩
    ·refine l8 q0 q2 q8 q9 JV (j5 ft e2 e3 RM @Nat.lt_irrefl) ?_
     refine⟨B6,_,mm,_,rfl,.inl rfl,.inr rfl,?_,?_,?_,?_,?_⟩
     all_goals exact vO4 q0 q2 q8 q9
    ·rw[h2,List.append_nil] at e3 ⊢
     refine l8 q0 q2 q8 q9 JV (j4 ft e2 e3 RM) ?_;refine⟨B6,_,mm,_,rfl,.inl rfl,.inr rfl,?_,?_,?_,?_,?_⟩
     all_goals exact vO4 q0 q2 q8 q9
   ·rw[jJ,if_neg (fun h=>by have:=ayj List.length h;rw[IH] at this;simp at this;omega)] at hle ⊢
    simp only[List.length_append,List.length_cons,List.length_nil] at hle;have ec:=di hP [[44]] (l++ar (ve tb ks i)) false ae iA;rw[uz] at ec;obtain⟨c2,e2,gC⟩:=hb i B6 (l++ar (ve tb ks i)++[[44]]) iA;have e3:=hT mm K hP (l++ar (ve tb ks i)++[[44]]++tb i) iA;rw[show l++(ar (ve tb ks i)++[[44]]++(tb i++ag u))=l++ar (ve tb ks i)++[[44]]++tb i++ag u by simp]
    rcases gC with rfl|⟨rfl,h2⟩
    ·refine l8 q0 q2 q8 q9 (j2 JV ft) (j5 ec e2 e3 RM @Nat.lt_irrefl) ?_
     refine⟨B6,_,mm,_,rfl,.inl rfl,.inr rfl,?_,?_,?_,?_,?_⟩
     all_goals exact vO4 q0 q2 q8 q9
    ·rw[h2,List.append_nil] at e3 ⊢
     refine l8 q0 q2 q8 q9 (j2 JV ft) (j5 ec e2 e3 RM @Nat.lt_irrefl) ?_;refine⟨B6,_,mm,_,rfl,.inl rfl,.inr rfl,?_,?_,?_,?_,?_⟩
     all_goals exact vO4 q0 q2 q8 q9
  ·obtain rfl:i=ks.length:=af
   have hlm:lo=mm:=by
    rcases rf with h2|h2
    ·omega
    ·exact h2
   subst hlm;refine ry q9 JV @Nat.lt_irrefl ?_;exact⟨_,_,rfl⟩
 ·rintro s ⟨T,g,rfl⟩
  have ho:=hP.open (l++ar (ve tb ks ks.length)) false;exact qx @fF ho tv
 ·have e0:ct mm l false K=ct mm (l++ar (ve tb ks 0)) false K:=by rw[show ar (ve tb ks 0)=[] from rfl,List.append_nil]
  refine⟨_,K.length,_,ayj (fun x=>AS.mk _ x _ _) e0,.inr rfl,.inl rfl,?_,?_,?_,?_,?_⟩
  all_goals exact dS
def adQ{ks:List Tm} : ∀ (d i:Nat),(AZ ts ks i).length<=(AZ ts ks (i+d)).length
 | 0,i=>Nat.le_refl _
 | d+1,i=>axx (adQ d i) (by rw[show i+(d+1)=i+d+1 by omega,LU,List.length_append];omega)
theorem Fc{ks:List Tm}(hP:PW mm K)(fU:∀ u∈ks,nf u)(Gf:ks.length<=10)(zZ:0<ks.length)(qO:ts.length=ks.length) :
  yz mm K 112 [.ref mm 0,.slice (aF ks) false,.slice (strs ts) false] (AZ ts ks ks.length):=by
 intro l hl;have aP:=hP.lt;refine cW adm.eq_1 ?_;refine qx @cx @bf ?_;refine bK ks.length 0 (fun i s=>∃ T lo g,s=⟨T,ct mm (l++AZ ts ks i) false K,lo,g⟩/\(lo=mm\/lo=K.length)/\(i=0\/lo=mm)/\T 0=.ref mm 0/\T 2=.slice (strs ts) false/\T 8=.slice (aF ks) false/\T 9=.int .i64 ks.length/\T 10=.int .i64 i)
  (fun s=>∃ T g,s=⟨T,ct mm (l++AZ ts ks ks.length) false K,mm,g⟩) (fun _=>False) ?_ ?_ (fun _ h=>h.elim) 0 _ af ?_
 ·rintro i s hi ⟨T,lo,g,rfl,yp,rf,q0,q2,q8,q9,JV⟩
  by_cases B6:i<ks.length
  ·have hx:=aw3 B6
   have hm:=axn B6;have IF:ks.getD i qt=ks[i]:=by rw[List.getD,hx];rfl
   have hle:(AZ ts ks (i+1)).length<=(AZ ts ks ks.length).length:=by
    have:=adQ (ts:=ts) (ks:=ks) (ks.length-(i+1)) (i+1)
    grind
   rw[LU,IF] at hle ⊢;generalize ks[i]=u at hx hm hle;have ft:=BT hx;have gP:=iu (l:=ts) (i:=i) af;generalize ts.getD i []=tk at gP hle;obtain⟨-,hT⟩:=fU u hm;unfold yz at hT;rw[aj] at hT ft;have RM:(bif decide (mm<lo) then mm else lo)=mm:=by
    grind
   have BB:(bif decide (mm<mm) then mm else mm)=mm:=ae
   simp only[List.length_append,List.length_cons,List.length_nil] at hle;have e1:=di hP [tk] (l++AZ ts ks i) false ae iA;rw[uz] at e1;have e3:=hT mm K hP (l++AZ ts ks i++[tk]) iA;rw[show l++(AZ ts ks i++([tk]++ag u))=l++AZ ts ks i++[tk]++ag u by simp]
   refine l8 q0 q2 q8 q9 (j2 JV ft) (j5 gP e1 e3 RM @Nat.lt_irrefl) ?_;refine⟨B6,_,mm,_,rfl,.inl rfl,.inr rfl,?_,?_,?_,?_,?_⟩
   all_goals exact vO4 q0 q2 q8 q9
  ·obtain rfl:i=ks.length:=af
   have hlm:lo=mm:=by
    grind
   subst hlm;refine ry q9 JV @Nat.lt_irrefl ?_;exact⟨_,_,rfl⟩
 ·rintro s ⟨T,g,rfl⟩
  have ho:=hP.open (l++AZ ts ks ks.length) false;exact qx @fF ho tv
 ·have e0:ct mm l false K=ct mm (l++AZ ts ks 0) false K:=by rw[show AZ ts ks 0=[] from rfl,List.append_nil]
  refine⟨_,K.length,_,ayj (fun x=>AS.mk _ x _ _) e0,.inr rfl,.inl rfl,?_,?_,?_,?_,?_⟩
  all_goals exact dS
theorem w6(h:PW mm K)(hw:isWord s=true)(hs:s.length<=1100000)(l:List av)(hl:l.length<=9000000):ai A 65 [.ref mm 0,.str s] (ct mm l false K)=some (.undef,some ⟨ct mm (l++[s]) false K,mm⟩):=by
 obtain⟨l',e,t1,n1⟩:=tJ h s af l false af
 grind
theorem Fj(h:PW mm K)(hw:gK s=true)(hs:s.length<=1100000)(l:List av)(hl:l.length<=9000000):ai A 102 [.ref mm 0,.str s] (ct mm l false K)=some (.undef,some ⟨ct mm (l++aL s) false K,mm⟩):=by
 obtain⟨l',e,t1,n1⟩:=LX h s af l false af
 grind
theorem Hr(i:Nat):QN mm K 106 [] i []:=by
 intro l hl;obtain⟨l',c,e,h,t1,n1⟩:=Sm (mm:=mm) (K:=K) i l false (by simp at hl;omega)
 grind
theorem aep{n:Nat}{t:Tm}(h:TyH mm t n K)(i:Nat)(hi:i<t.names.length)(DE:∀ s∈t.names,s.length<=1100000)(hw:isWord (t.names.getD i [])=true):QN mm K 135 [.ref n 0,.ref (n+1) 0] i [t.names.getD i [],[61]]:=by
 intro l hl;obtain⟨l',c,e,hc,t1,n1⟩:=aeo h i hi DE l false (by simp only[List.length_cons,List.length_nil] at hl;omega)
 grind
theorem aen{n:Nat}{t:Tm}(h:TyH mm t n K)(i:Nat)(hi:2*i+1<t.names.length)(u9:t.names.length<=20000000)(DE:∀ s∈t.names,s.length<=1100000)(hw:t.names.all isWord=true) :
  QN mm K 134 [.ref n 0,.ref (n+1) 0] i [t.names.getD (2*i) [],t.names.getD (2*i+1) [],[45,62]]:=by
 intro l hl;have ft:=iu (show 2*i<t.names.length by omega)
 have RF:=iu hi;have qu:=nw DE (2*i);have aqe:=nw DE (2*i+1);have CB:isWord (t.names.getD (2*i) [])=true:=by
  grind
 have RU:isWord (t.names.getD (2*i+1) [])=true:=by
  grind
 generalize t.names.getD (2*i) []=s at ft qu CB hl ⊢;generalize t.names.getD (2*i+1) []=s2 at RF aqe RU hl ⊢;simp only[List.length_cons,List.length_nil] at hl;have e1:=w6 h.p CB af l af;have e2:=w6 h.p RU af (l++[s]) iA;have e3:=di h.p [[45,62]] (l++[s]++[s2]) false ae iA;rw[uz] at e3;refine⟨_,?_,.inl rfl⟩;rw[show l++[s,s2,[45,62]]=l++[s]++[s2]++[[45,62]] by simp]
 refine cW adw.eq_1 ?_;have hwv:=h.w;have ht:=h.t;have aP:=h.p.lt;have ho:=h.p.open (l++[s]++[s2]++[[45,62]]) false;have en:asNat (.int .i64 (2*(i:Int)))=some (2*i):=by rw[gf af];congr 1
 have en2:asNat (.int .i64 (2*(i:Int)+1))=some (2*i+1):=by rw[gf af];congr 1
 exact l9 hwv ht ft RF (j4 en en2 e1 e2) (j5 e3 @fF ho @Nat.lt_irrefl @bf) tv
theorem yX(h:PW mm K){t:Tm}{a b:Int}(hh:iD t a b=true)(l:List av):ai A 111 [.ref mm 0,.agg (aK t),.int .i64 a,.int .i64 b] (ct mm l false K)=some (.bool true,some ⟨ct mm l false K,mm⟩):=by
 grind [ae4]
theorem abW(s:av):fW s<=16:=by
 cases s with
 | nil=>simp[fW]
 | cons b r =>
  rw[fW]
  grind
theorem lL(h:isWord s=true):s.length<=16:=by
 cases s with
 | nil=>simp
 | cons b r =>
  simp only[isWord,aw4,aw'] at h
  grind [abW]
theorem Dx:∀ s:av,s.length<=(aU s).1.length+(aU s).2.1.length+1/\((aU s).2.2=false->s.length<=(aU s).1.length)
 | []=>ae
 | b :: r=>by
  have ih:=Dx r;unfold aU
  grind
theorem wm(h:gK s=true):s.length<=33:=by
 unfold gK at h
 grind [lL,Dx]
def Je(hP:PW mm K)(t:Tm):∃ K1,TyH mm t K.length K1 /\
  (∀ l,ct mm l false K++[.box 123 [.ref mm 0],.box 83 [.int .i64 t.kind,.int .i64 t.n,.str t.name,.str t.field,.str t.wn,.slice (aM t.wk) false,.slice (aF t.kids) false,.slice (strs t.names) false]]=ct mm l false K1) /\
  (∀ l,(ct mm l false K1).take K.length=ct mm l false K)/\(∀ l,mc K.length mm (ct mm l false K1)=true) :=
 ⟨_,⟨hP.amt (fun cs e=>by cases e) (fun cs e=>by cases e),fun _ _=>abx hP,fun _ _=>aby hP⟩,fun _=>sw hP,fun _=>ql hP,fun l=>hP.Qf l false⟩
def ab0{t:Tm}(hk:t.kind=8)(hp:ax t=true)(fU:∀ u∈t.kids,nf u)(hP:PW mm K):yz mm K 113 [.ref mm 0,.agg (aK t)] (ag t):=by
 intro l hl;have hu:=gM hp;have cu:=LR hk hu;rw[hp] at cu;have cu:=cu.symm;simp only[aw4,aw'] at cu;obtain⟨⟨⟨g1,g2⟩,g3⟩,g4⟩:=cu;have hF:=ab2 hk hu;obtain⟨x,hx⟩:=wJ (show t.kids.length=1 by omega)
 have kE:ag t=aL t.name++[[58]]++[t.field]++[[91]]++ag x++[[93]]:=by rw[bC t,hk,hx];simp[b8]
 rw[kE] at hl ⊢;simp only[List.length_append,List.length_cons,List.length_nil] at hl;have tD:=wm g2;have xN:=lL g3;have S7:=(fU x (by rw[hx];simp)).2
 have ft:(aF t.kids)[0]?=some (aK x):=by rw[hx];simp[aF]
 rw[aj x] at ft S7;obtain⟨K1,hH,cY,hT,hO⟩:=Je hP t;have fj:=hH.p;have aP:=hP.lt;have KQ:=fun (ty off t:Nat) (os:List aQ) (T:az) (lo gen:Nat) (Q:AS->Prop)=>xx (A:=A) (T:=T) (H:=ct mm l false K) (lo:=lo) (gen:=gen) (t:=t) (ty:=ty) (l:=mm) (off:=off) (os:=os) (K:=Q) (by rw[bf];omega)
 have wF:decide (K.length+1<K.length)=false:=ae;have hw:=hH.w;have ht:=hH.t;have e1:=Fj fj g2 af l af;have hv:=yX fj (t:=t) (a:=1) (b:=0) (by have hq:=hF.2.2.2.2;simp[iD,hx,hq]) (l++aL t.name)
 have e2:=di fj [[58]] (l++aL t.name) false ae iA;have e3:=w6 fj g3 af (l++aL t.name++[[58]]) iA;have e4:=di fj [[91]] (l++aL t.name++[[58]]++[t.field]) false ae iA;have e5:=S7 mm K1 fj (l++aL t.name++[[58]]++[t.field]++[[91]]) iA;have e6:=di fj [[93]] (l++aL t.name++[[58]]++[t.field]++[[91]]++ag x) false ae iA;rw[show l++(aL t.name++[[58]]++[t.field]++[[91]]++ag x++[[93]])=l++aL t.name++[[58]]++[t.field]++[[91]]++ag x++[[93]] by simp only[axf]]
 have ho:=hO (l++aL t.name++[[58]]++[t.field]++[[91]]++ag x++[[93]]);rw[uz] at e2 e4 e6;rw[aj] at hv ⊢;refine cW G9.eq_1 ?_;exact l9 cY KQ hw (j4 ht ft hv e1) (j5 e2 e3 e4 e5 e6) (j5 hT ho wF @Nat.lt_irrefl @bf) tv
def ab1{t:Tm}(hk:t.kind=9)(hp:ax t=true)(fU:∀ u∈t.kids,nf u)(hP:PW mm K):yz mm K 113 [.ref mm 0,.agg (aK t)] (ag t):=by
 intro l hl;have hu:=gM hp;have cu:=LS hk hu;rw[hp] at cu;have cu:=cu.symm;simp only[aw4,aw'] at cu;obtain⟨⟨⟨g1,g2⟩,g3⟩,g4⟩:=cu;have hF:=ab3 hk hu;obtain⟨x,hx⟩:=wJ (show t.kids.length=1 by omega)
 have kE:ag t=aL t.name++[[58]]++[t.field]++[[40]]++ag x++[[41]]:=by rw[bC t,hk,hx];simp[b9]
 rw[kE] at hl ⊢;simp only[List.length_append,List.length_cons,List.length_nil] at hl;have tD:=wm g2;have xN:=lL g3;have S7:=(fU x (by rw[hx];simp)).2
 have ft:(aF t.kids)[0]?=some (aK x):=by rw[hx];simp[aF]
 rw[aj x] at ft S7;obtain⟨K1,hH,cY,hT,hO⟩:=Je hP t;have fj:=hH.p;have aP:=hP.lt;have KQ:=fun (ty off t:Nat) (os:List aQ) (T:az) (lo gen:Nat) (Q:AS->Prop)=>xx (A:=A) (T:=T) (H:=ct mm l false K) (lo:=lo) (gen:=gen) (t:=t) (ty:=ty) (l:=mm) (off:=off) (os:=os) (K:=Q) (by rw[bf];omega)
 have wF:decide (K.length+1<K.length)=false:=ae;have hw:=hH.w;have ht:=hH.t;have e1:=Fj fj g2 af l af;have hv:=yX fj (t:=t) (a:=1) (b:=0) (by have hq:=hF.2.2.2.2;simp[iD,hx,hq]) (l++aL t.name)
 have e2:=di fj [[58]] (l++aL t.name) false ae iA;have e3:=w6 fj g3 af (l++aL t.name++[[58]]) iA;have e4:=di fj [[40]] (l++aL t.name++[[58]]++[t.field]) false ae iA;have e5:=S7 mm K1 fj (l++aL t.name++[[58]]++[t.field]++[[40]]) iA;have e6:=di fj [[41]] (l++aL t.name++[[58]]++[t.field]++[[40]]++ag x) false ae iA;rw[show l++(aL t.name++[[58]]++[t.field]++[[40]]++ag x++[[41]])=l++aL t.name++[[58]]++[t.field]++[[40]]++ag x++[[41]] by simp only[axf]]
 have ho:=hO (l++aL t.name++[[58]]++[t.field]++[[40]]++ag x++[[41]]);rw[uz] at e2 e4 e6;rw[aj] at hv ⊢;refine cW G9.eq_1 ?_;exact l9 cY KQ hw (j4 ht ft hv e1) (j5 e2 e3 e4 e5 e6) (j5 hT ho wF @Nat.lt_irrefl @bf) tv
def AN:∀ (xs:List (List av)),(∀ x∈xs,0<x.length)->xs.length<=(ar xs).length
 | [],_=>ae
 | [a],h=>by have:=h a ae;simp[ar];omega
 | a :: b :: r,h=>by
  have ih:=AN (b :: r) (fun x hx=>h x (by simp at hx ⊢;rcases hx with e|e<;>simp[e]))
  have:=h a ae
  simp only[ar,List.length_append,List.length_cons,List.length_nil] at ih ⊢;omega
def NP{ks:List Tm}(h:∀ i,i<ks.length->0<(tb i).length\/0<(ag (ks.getD i qt)).length):ks.length<=(ar (ve tb ks ks.length)).length:=by
 have h1:=AN (ve tb ks ks.length) (fun x hx=>by
  unfold ve at hx;obtain⟨i,hi,rfl⟩:=List.mem_map.1 hx;rcases h i (cJ hi) with h|h<;>rw[List.length_append]<;>omega)
 rwa [PY] at h1
def abZ{t:Tm}(hk:t.kind=7)(hp:ax t=true)(fU:∀ u∈t.kids,nf u)(hP:PW mm K):yz mm K 113 [.ref mm 0,.agg (aK t)] (ag t):=by
 intro l hl;have hu:=gM hp;have cu:=Qo hk hu;rw[hp] at cu;have cu:=cu.symm;simp only[aw4,aw'] at cu;obtain⟨⟨⟨g1,g2⟩,g3⟩,g4⟩:=cu;have g1n:t.names.length=t.kids.length:=af;have kE:ag t=aL t.name++[[123]]++ar (ve (fun j=>[t.names.getD j [],[61]]) t.kids t.kids.length)++[[125]]:=by rw[bC t,hk,Z7 g1n];simp[b7]
 have RI:=NP (tb:=fun j=>[t.names.getD j [],[61]]) (ks:=t.kids) (fun _ _=>.inl ae)
 rw[kE] at hl ⊢;simp only[List.length_append,List.length_cons,List.length_nil] at hl;have tD:=wm g3;have DE:∀ s∈t.names,s.length<=1100000:=fun s hs=>by have:=lL (aw8.1 g2 s hs);omega
 obtain⟨K1,hH,cY,hT,hO⟩:=Je hP t;have fj:=hH.p;have aP:=hP.lt;have KQ:=fun (ty off t:Nat) (os:List aQ) (T:az) (lo gen:Nat) (Q:AS->Prop)=>xx (A:=A) (T:=T) (H:=ct mm l false K) (lo:=lo) (gen:=gen) (t:=t) (ty:=ty) (l:=mm) (off:=off) (os:=os) (K:=Q) (by rw[bf];omega)
 have wF:decide (K.length+1<K.length)=false:=ae;have hw:=hH.w;have ht:=hH.t;have e1:=Fj fj g3 af l af;have hv:=yX fj (t:=t) (a:=t.kids.length) (b:=t.kids.length) (by unfold iD;simp[g1]) (l++aL t.name)
 have e2:=di fj [[123]] (l++aL t.name) false ae iA;rw[uz] at e2
 by_cases zZ:t.kids.length=0
 ·have DD:t.kids=[]:=axm.1 zZ
  have akN:t.names=[]:=axm.1 af;have e3:∀ Q:aa,ai A 109 [.ref mm 0,.slice [] false,.func (.func 135) [] [.ref K.length 0,.ref (K.length+1) 0]] Q=some (.undef,none):=fun Q=>I5
  have e4:=di fj [[125]] (l++aL t.name++[[123]]) false ae iA;rw[uz] at e4;rw[DD,List.length_nil,show ar (ve (fun j=>[t.names.getD j [],[61]]) [] 0)=[] from rfl,List.append_nil]
  rw[show l++(aL t.name++[[123]]++[[125]])=l++aL t.name++[[123]]++[[125]] by simp only[axf]]
  have ho:=hO (l++aL t.name++[[123]]++[[125]]);rw[aj] at hv ⊢;rw[DD,akN,ts0,mh] at cY ht hv;rw[DD,akN,ts0,mh];simp only[List.length_nil,Int.natCast_zero] at hv;refine cW G9.eq_1 ?_;exact l9 cY KQ hw ht (j5 hv e1 e2 e3 e4) (j5 hT ho wF @Nat.lt_irrefl @bf) tv
 ·have hb:∀ i,i<t.kids.length->QN mm K1 135 [.ref K.length 0,.ref (K.length+1) 0] i [t.names.getD i [],[61]]:=fun i hi=>aep hH i af DE (by
   rw[List.getD_eq_getElem?_getD,aw3 af];exact aw8.1 g2 _ (axn _))
  have e3:=CI (tb:=fun j=>[t.names.getD j [],[61]]) fj fU af af hb (l++aL t.name++[[123]]) iA
  generalize ar (ve (fun j=>[t.names.getD j [],[61]]) t.kids t.kids.length)=ll at e3 hl RI ⊢
  have e4:=di fj [[125]] (l++aL t.name++[[123]]++ll) false ae iA;rw[uz] at e4;rw[show l++(aL t.name++[[123]]++ll++[[125]])=l++aL t.name++[[123]]++ll++[[125]] by simp only[axf]]
  have ho:=hO (l++aL t.name++[[123]]++ll++[[125]]);rw[aj] at hv ⊢;refine cW G9.eq_1 ?_;exact l9 cY KQ hw (j2 ht hv) (j5 @cx e1 e2 e3 e4) (j5 hT ho wF @Nat.lt_irrefl @bf) tv
def O2:∀ (ks:List Tm) (ns:List av) (k:Nat) (g:Nat->av),ns.length=2*ks.length->(∀ j,j<ns.length->g (2*k+j)=ns.getD j []) ->
  (ks.zipIdx k).map (fun p=>[g (2*p.2),g (2*p.2+1),[45,62]]++ag p.1)=ig ns (ks.map fun t=>(ag t,bo t))
 | [],ns,k,g,h,_=>by
  have:ns=[]:=axm.1 (cJ h)
  rw[this];rfl
 | t :: ks,ns,k,g,h,hg=>by
  match ns,h with
  | p :: q :: ns,h =>
   have h0:=hg 0 ae;have h1:=hg 1 ae;rw[axZ] at h0;have ih:=O2 ks ns (k+1) g (by simp at h ⊢;omega) (fun j hj=>by
    have:=hg (j+2) df
    rw[show 2*(k+1)+j=2*k+(j+2) by omega,this];rfl)
   simp only[azf,axe,ig,h0,h1,ih];rfl
  | [],h=>simp at h
  | [_],h=>simp at h;omega
def TI{ks:List Tm}{ns:List av}(h:ns.length=2*ks.length):ve (fun i=>[ns.getD (2*i) [],ns.getD (2*i+1) [],[45,62]]) ks ks.length=ig ns (ks.map fun t=>(ag t,bo t)):=by
 rw[zm _ (Nat.le_refl _),axz];exact O2 ks ns 0 (fun i=>ns.getD i []) h (fun j _=>by simp)
def XQ{t:Tm}(hk:t.kind=10)(hp:ax t=true)(fU:∀ u∈t.kids,nf u)(hP:PW mm K):yz mm K 113 [.ref mm 0,.agg (aK t)] (ag t):=by
 intro l hl;have hu:=gM hp;have cu:=Fg hk hu;rw[hp] at cu;have cu:=cu.symm;simp only[aw4,aw'] at cu;obtain⟨⟨⟨⟨g0,g1⟩,g2⟩,g3⟩,g4⟩:=cu;obtain⟨x,rest,hxr⟩:∃ x rest,t.kids=x :: rest:=by
  cases h:t.kids with
  | nil=>rw[h] at g0;simp at g0
  | cons a r=>exact⟨a,r,rfl⟩
 have B9:rest.length+1=t.kids.length:=by rw[hxr];rfl
 have u9:t.names.length=2*rest.length:=af;have kE:ag t=[[109,97,116,99,104]]++aL t.name++[[40]]++ag x++[[41],[123]]++ar (ve (fun i=>[t.names.getD (2*i) [],t.names.getD (2*i+1) [],[45,62]]) rest rest.length)++[[125]]:=by
  rw[bC t,hk,hxr,TI u9]
  show [[109,97,116,99,104]]++aL t.name++[[40]]++ag x++[[41]]++[[123]]++ar (ig t.names (rest.map fun t=>(ag t,bo t)))++[[125]]=_
  simp
 have RI:=NP (tb:=fun i=>[t.names.getD (2*i) [],t.names.getD (2*i+1) [],[45,62]]) (ks:=rest) (fun _ _=>.inl ae)
 rw[kE] at hl ⊢;simp only[List.length_append,List.length_cons,List.length_nil] at hl;have tD:=wm g3;have DE:∀ s∈t.names,s.length<=1100000:=fun s hs=>by have:=lL (aw8.1 g2 s hs);omega
 have S7:=(fU x (by rw[hxr];simp)).2
 have hkr:∀ u∈rest,nf u:=fun u h=>fU u (by rw[hxr];simp[h])
 have ft:(aF t.kids)[0]?=some (aK x):=by rw[hxr];simp[aF]
 have hdr:(aF t.kids).drop 1=aF rest:=by rw[hxr];simp[aF]
 have mD:(aF t.kids).take t.kids.length=aF t.kids:=axy (by rw[cx];omega)
 rw[aj x] at ft S7;obtain⟨K1,hH,cY,hT,hO⟩:=Je hP t;have fj:=hH.p;have aP:=hP.lt;have KQ:=fun (ty off t:Nat) (os:List aQ) (T:az) (lo gen:Nat) (Q:AS->Prop)=>xx (A:=A) (T:=T) (H:=ct mm l false K) (lo:=lo) (gen:=gen) (t:=t) (ty:=ty) (l:=mm) (off:=off) (os:=os) (K:=Q) (by rw[bf];omega)
 have wF:decide (K.length+1<K.length)=false:=ae;have hw:=hH.w;have ht:=hH.t;have hc:=fD fj true l false;simp only[ax7,Bool.or_self] at hc;have hv:=yX fj (t:=t) (a:=(t.kids.length:Int)-1+1) (b:=2*((t.kids.length:Int)-1)) (by unfold iD;rw[decide_eq_true (show (t.kids.length:Int)=(t.kids.length:Int)-1+1 by omega),decide_eq_true g1];rfl) l
 have e1:=di fj [[109,97,116,99,104]] l false ae iA;have e2:=Fj fj g3 af (l++[[109,97,116,99,104]]) iA;have e3:=di fj [[40]] (l++[[109,97,116,99,104]]++aL t.name) false ae iA;have e4:=S7 mm K1 fj (l++[[109,97,116,99,104]]++aL t.name++[[40]]) iA;have e5:=di fj [[41],[123]] (l++[[109,97,116,99,104]]++aL t.name++[[40]]++ag x) false ae iA;have hb:∀ i,i<rest.length->QN mm K1 134 [.ref K.length 0,.ref (K.length+1) 0] i [t.names.getD (2*i) [],t.names.getD (2*i+1) [],[45,62]]:=fun i hi=>aen hH i af af DE g2
 have e6:=CI (tb:=fun i=>[t.names.getD (2*i) [],t.names.getD (2*i+1) [],[45,62]]) fj hkr af af hb (l++[[109,97,116,99,104]]++aL t.name++[[40]]++ag x++[[41],[123]]) iA
 generalize ar (ve (fun i=>[t.names.getD (2*i) [],t.names.getD (2*i+1) [],[45,62]]) rest rest.length)=ll at e6 hl RI ⊢
 have e7:=di fj [[125]] (l++[[109,97,116,99,104]]++aL t.name++[[40]]++ag x++[[41],[123]]++ll) false ae iA;have es2:strs [[41],[123]]=[[.str [41]],[.str [123]]]:=rfl;rw[uz] at e1 e3 e7;rw[es2] at e5;rw[show l++([[109,97,116,99,104]]++aL t.name++[[40]]++ag x++[[41],[123]]++ll++[[125]])=l++[[109,97,116,99,104]]++aL t.name++[[40]]++ag x++[[41],[123]]++ll++[[125]] by simp only[axf]]
 have ho:=hO (l++[[109,97,116,99,104]]++aL t.name++[[40]]++ag x++[[41],[123]]++ll++[[125]]);rw[aj] at hv ⊢;refine cW G9.eq_1 ?_;exact l9 cY (j2 KQ hw) (j5 ht @cx @abY mD hdr) (j5 ft hc hv e1 e2) (j5 e3 e4 e5 e6 e7) (j5 hT ho wF @Nat.lt_irrefl @bf) tv
def acD(h:PW mm K){k:Wd}(hk:∀ mm K,PW mm K->yz mm K 66 [.ref mm 0,.agg (fN k)] (bM k)):yz mm K 101 [.ref mm 0,.slice (aM [k]) false] ([[40]]++bM k++[[41]]):=by
 intro l hl;simp only[List.length_append,List.length_cons,List.length_nil] at hl;have aP:=h.lt;have e1:=fD h true l false;simp only[ax7,ayw] at e1;have e2:=di h [[40]] l false ae iA;have e3:=hk mm K h (l++[[40]]) iA;have e4:=di h [[41]] (l++[[40]]++bM k) false ae iA;rw[uz] at e2 e4;rw[show l++([[40]]++bM k++[[41]])=l++[[40]]++bM k++[[41]] by simp only[axf]]
 refine cW PV.eq_1 ?_;have h0:=fu (l:=l) (b:=false) h;unfold nJ at h0;have ho:=h.open (l++[[40]]++bM k++[[41]]) false;rw[fI] at e3;have ft:(aM [k])[0]?=some [.str k.name,.slice (aM k.kids) false]:=by rw[X0 (l:=[k]) (i:=0) rfl,fI]
 exact l9 @gF ft e1 e2 (j2 e3 e4) (j5 h0 @fF ho @Nat.lt_irrefl @bf) tv
def QJ:∀ (w:Wd),bD w=true->∀ (mm:Nat) (K:aa),PW mm K->yz mm K 66 [.ref mm 0,.agg (fN w)] (bM w)
 | .mk n ks,hp,mm,K,hP=>by
  by_cases hn:n=cz
  ·subst hn
   obtain⟨k,rfl⟩:∃ k,ks=[k]:=by
    rw[HC] at hp
    match ks,hp with
    | [k],_=>exact⟨k,rfl⟩
    | [],h=>cases h
    | _ :: _ :: _,h=>cases h
   have CA:bD k=true:=by rw[bD] at hp;simpa using hp
   have ih:=QJ k CA;intro l hl;rw[QL,show SQ [k]=[[40]]++bM k++[[41]] from rfl] at hl ⊢
   simp only[List.length_append,List.length_cons,List.length_nil] at hl;rw[fN];have fj:PW mm (K++[.box 80 [.str cz,.slice (aM [k]) false]]):=hP.push (fun cs e=>by cases e)
   have cY:=sw (l:=l) (b:=false) hP (L:=[.box 80 [.str cz,.slice (aM [k]) false]]);have fm:=fun l b=>FC (l:=l) (b:=b) hP (o:=.box 80 [.str cz,.slice (aM [k]) false])
   have hT:=fun l b=>ql (l:=l) (b:=b) hP (L:=[.box 80 [.str cz,.slice (aM [k]) false]])
   have hO:=fun l b=>hP.Qf (L:=[.box 80 [.str cz,.slice (aM [k]) false]]) l b
   have aP:=hP.lt;generalize K++[.box 80 [.str cz,.slice (aM [k]) false]]=K1 at fj cY fm hT hO;have e1:=di fj [cz] l false ae iA;rw[uz] at e1;have e2:=acD fj ih (l++[cz]) iA;generalize [[40]]++bM k++[[41]]=TW at e2 ⊢;rw[<- axf];refine cW VY.eq_1 ?_;have n1e:(cz==([73,110,116]:av))=false:=aB;have n2e:(cz==([66,111,111,108]:av))=false:=aB;have n3e:(cz==([76,105,115,116]:av))=true:=aB;have ho:=hO (l++[cz]++TW) false;exact nM (j2 (j5 cY fm e1 e2 n1e) (j5 n2e hT ho @Nat.lt_irrefl @bf)) tv
  ·have JO:=x6 (ks:=ks) hn
   rw[hp] at JO;have JO:=JO.symm;rw[aw4,aw'] at JO;have zZ:ks=[]:=axm.1 JO.1;subst zZ;have u9:n.length<=1100000:=by
    have h2:=JO.2;rw[ayt,ayt] at h2;rcases h2 with (h|h)|h
    ·rw[axL] at h;rw[h];decide
    ·rw[axL] at h;rw[h];decide
    ·have:=wm h;omega
   have he:=ab8 0 (.mk n []) af (by exact⟨u9,rfl⟩) mm K hP
   rw[hp] at he;exact ank he af
theorem XP{t:Tm}(hp:ax t=true):0<(ag t).length:=by
 have hu:=gM hp;have hq:∀ s:av,0<(aL s).length:=fun s=>by unfold aL;split<;>simp
 rw[bC]
 rcases tG t.kind with e|e|e|e|e|e|e|e|e|e|e|e|e|e
 ·grind [b0]
 ·grind [b1]
 ·grind [b2]
 ·grind [b3]
 ·have cu:=Fh e hu
  rw[hp] at cu;have cu:=cu.symm;simp only[aw4,iD,aw'] at cu
  by_cases h7:(cD t.n).2=7
  ·rw[if_pos h7] at cu
   obtain⟨x,hx⟩:=wJ (show t.kids.length=1 by omega)
   rw[e,hx,axe,axB,b4a];exact iA
  ·rw[if_neg h7] at cu
   obtain⟨x,y,hx⟩:=ux (show t.kids.length=2 by omega)
   rw[e,hx,axe,axe,axB,b4b];exact iA
 ·have cu:=Qm e hu
  rw[hp] at cu;have cu:=cu.symm;simp only[aw4,iD,aw'] at cu;obtain⟨x,y,z,hx⟩:=I3 (show t.kids.length=3 by omega)
  rw[e,hx,axe,axe,axe,axB,b5];exact iA
 ·have cu:=Qn e hu
  rw[hp] at cu;have cu:=cu.symm;simp only[aw4,iD,aw'] at cu;obtain⟨x,y,hx⟩:=ux (show t.kids.length=2 by omega)
  obtain⟨p,hn⟩:=wJ (show t.names.length=1 by omega)
  rw[e,hx,hn,axe,axe,axB,b6];exact iA
 ·grind [b7]
 ·have cu:=LR e hu
  rw[hp] at cu;have cu:=cu.symm;simp only[aw4,aw'] at cu;obtain⟨x,hx⟩:=wJ (show t.kids.length=1 by omega)
  rw[e,hx,axe,axB,b8];exact iA
 ·have cu:=LS e hu
  rw[hp] at cu;have cu:=cu.symm;simp only[aw4,aw'] at cu;obtain⟨x,hx⟩:=wJ (show t.kids.length=1 by omega)
  rw[e,hx,axe,axB,b9];exact iA
 ·have cu:=Fg e hu
  rw[hp] at cu;have cu:=cu.symm;simp only[aw4,aw'] at cu;obtain⟨x,rest,hx⟩:∃ x rest,t.kids=x :: rest:=by
   cases h:t.kids with
   | nil=>rw[h] at cu;simp at cu
   | cons a r=>exact⟨a,r,rfl⟩
  rw[e,hx]
  show 0<([[109,97,116,99,104]]++aL t.name++[[40]]++ag x++[[41]]++[[123]]++ar (ig t.names (rest.map fun t=>(ag t,bo t)))++[[125]]).length
  exact iA
 ·grind [b11]
 ·have cu:=Jd e hu
  rw[hp] at cu;have cu:=cu.symm;simp only[aw4,iD,aw'] at cu;obtain⟨x,y,z,hx⟩:=I3 (show t.kids.length=3 by omega)
  obtain⟨p,q,hn⟩:=ux (show t.names.length=2 by omega)
  rw[e,hx,hn,axe,axe,axe,axB,b12];exact iA
 ·have:=vl (qR hp)
  omega
def P4{ks:List Tm}(fU:∀ u∈ks,nf u):ks.length<=(ar (ks.map ag)).length:=by
 have:=NP (tb:=fun _=>[]) (ks:=ks) (fun i hi=>.inr (by
  rw[List.getD_eq_getElem?_getD,aw3 hi];exact XP (fU _ (axn _)).1))
 rwa [zl] at this
def ah9{t:Tm}(hk:t.kind=0)(hp:ax t=true)(fU:∀ u∈t.kids,nf u)(hP:PW mm K):yz mm K 70 [.ref mm 0,.agg (aK t)] (ag t):=by
 intro l hl;have hu:=gM hp;have cu:=WR hk hu;rw[hp] at cu;have cu:=cu.symm;have hU:=ait hk hu;have kE:=bC t;rw[hk] at kE;obtain⟨K1,fj,cY,fm,hT,hO⟩:=oZ hP t;have aP:=hP.lt;have oy:=fun K=>jb t K
 rw[hu,aj] at oy;have jf:=fun ok l b=>fD fj ok l b
 have h0:=fun l b=>fu (l:=l) (b:=b) fj
 unfold nJ at h0;rw[aw'] at cu;obtain⟨r1,r2⟩:=cu;have IH:=fun K=>NQ t.n K ⟨af,af⟩
 have RJ:(rU t.n).length<=10000000:=by
  by_cases h:t.n<0
  ·rw[itoa_neg h];have:=yK (n:=(-t.n).toNat) af;simp;omega
  ·rw[IX af];have:=yK (n:=t.n.toNat) af;omega
 have htr:=fun K=>aio (rU t.n) 45 K RJ
 rw[SS] at htr;rw[kE] at hl ⊢
 by_cases RP:t.n<0
 ·rw[b0,if_pos RP] at hl ⊢
  simp only[List.length_cons,List.length_nil] at hl;rw[if_pos RP] at htr;have e1:=di fj [[45]] l false ae df;have e2:=di fj [lV (-t.n).toNat] (l++[[45]]) false ae df;rw[uz] at e1 e2;rw[show l++[[45],lV (-t.n).toNat]=l++[[45]]++[lV (-t.n).toNat] by simp]
  have ho:=hO (l++[[45]]++[lV (-t.n).toNat]) false;rw[aj];refine cW uw.eq_1 ?_;exact l9 cY fm oy jf (j5 h0 hT @Bool.or_self @Nat.lt_irrefl @bf) (j5 ho IH htr e1 e2) tv
 ·rw[b0,if_neg RP] at hl ⊢
  simp only[List.length_cons,List.length_nil] at hl;rw[if_neg RP] at htr;have e1:=di fj [lV t.n.toNat] l false ae df;rw[uz] at e1;have ho:=hO (l++[lV t.n.toNat]) false;rw[aj];refine cW uw.eq_1 ?_;exact l9 cY fm oy jf (j4 h0 hT @Bool.or_self @Nat.lt_irrefl) (j5 @bf ho IH htr e1) tv
def aia{t:Tm}(hk:t.kind=1)(hp:ax t=true)(fU:∀ u∈t.kids,nf u)(hP:PW mm K):yz mm K 70 [.ref mm 0,.agg (aK t)] (ag t):=by
 intro l hl;have hu:=gM hp;have cu:=ams hk hu;rw[hp] at cu;have cu:=cu.symm;have hU:=aiu hk hu;have kE:=bC t;rw[hk] at kE;obtain⟨K1,fj,cY,fm,hT,hO⟩:=oZ hP t;have aP:=hP.lt;have oy:=fun K=>jb t K
 rw[hu,aj] at oy;have jf:=fun ok l b=>fD fj ok l b
 have h0:=fun l b=>fu (l:=l) (b:=b) fj
 unfold nJ at h0;rw[aw'] at cu;rw[kE,b1] at hl ⊢;simp only[List.length_cons,List.length_nil] at hl;have fb:=fun b K=>aeT b K
 have e1:=fun s=>di fj [s] l false ae iA
 simp only[uz] at e1;rw[aj]
 rcases cu with z|z
 ·rw[if_pos z]
  have ho:=hO (l++[[102,97,108,115,101]]) false;refine cW uw.eq_1 ?_;exact l9 cY fm oy jf (j3 h0 hT @Bool.or_self) (j5 @Nat.lt_irrefl @bf ho fb e1) tv
 ·rw[if_neg af]
  have ho:=hO (l++[[116,114,117,101]]) false;refine cW uw.eq_1 ?_;exact l9 cY fm oy jf (j3 h0 hT @Bool.or_self) (j5 @Nat.lt_irrefl @bf ho fb e1) tv
def aib{t:Tm}(hk:t.kind=2)(hp:ax t=true)(fU:∀ u∈t.kids,nf u)(hP:PW mm K):yz mm K 70 [.ref mm 0,.agg (aK t)] (ag t):=by
 intro l hl;have hu:=gM hp;have cu:=adO hk hu;rw[hp] at cu;have cu:=cu.symm;have hU:=aiv hk hu;have kE:=bC t;rw[hk] at kE;obtain⟨K1,fj,cY,fm,hT,hO⟩:=oZ hP t;have aP:=hP.lt;have oy:=fun K=>jb t K
 rw[hu,aj] at oy;have jf:=fun ok l b=>fD fj ok l b
 have h0:=fun l b=>fu (l:=l) (b:=b) fj
 unfold nJ at h0;rw[kE,b2] at hl ⊢;simp only[List.length_cons,List.length_nil] at hl;have e1:=w6 fj cu (by have:=lL cu;omega) l af
 have ho:=hO (l++[t.name]) false;rw[aj];refine cW uw.eq_1 ?_;exact l9 cY fm oy jf (j2 h0 hT) (j5 @Bool.or_self @Nat.lt_irrefl @bf ho e1) tv
def aic{t:Tm}(hk:t.kind=3)(hp:ax t=true)(fU:∀ u∈t.kids,nf u)(hP:PW mm K):yz mm K 70 [.ref mm 0,.agg (aK t)] (ag t):=by
 intro l hl;have hu:=gM hp;have cu:=adP hk hu;rw[hp] at cu;have cu:=cu.symm;have hU:=aiw hk hu;have kE:=bC t;rw[hk] at kE;obtain⟨K1,fj,cY,fm,hT,hO⟩:=oZ hP t;have aP:=hP.lt;have oy:=fun K=>jb t K
 rw[hu,aj] at oy;have jf:=fun ok l b=>fD fj ok l b
 have h0:=fun l b=>fu (l:=l) (b:=b) fj
 unfold nJ at h0;rw[aw4] at cu;obtain⟨g1,g2⟩:=cu;rw[b3,List.map_map] at kE;rw[show ((fun x:List av × Int=>x.1) ∘ fun t=>(ag t,bo t))=ag from rfl] at kE
 have RI:=P4 fU;rw[kE] at hl ⊢;simp only[List.length_append,List.length_cons,List.length_nil] at hl;have tD:=wm g1;have e1:=Fj fj g1 af l af;have e2:=di fj [[40]] (l++aL t.name) false ae iA;rw[uz] at e2
 by_cases zZ:t.kids.length=0
 ·have DD:t.kids=[]:=axm.1 zZ
  have e3:∀ Q:aa,ai A 109 [.ref mm 0,.slice [] false,.func (.func 106) [] []] Q=some (.undef,none):=fun Q=>I5
  have e4:=di fj [[41]] (l++aL t.name++[[40]]) false ae iA;rw[uz] at e4;rw[DD,axB,show ar ([]:List (List av))=[] from rfl,List.append_nil]
  rw[show l++(aL t.name++[[40]]++[[41]])=l++aL t.name++[[40]]++[[41]] by simp only[axf]]
  have ho:=hO (l++aL t.name++[[40]]++[[41]]) false;rw[aj];rw[DD,ts0] at cY oy fm;rw[DD,ts0];refine cW uw.eq_1 ?_;exact l9 cY fm oy jf (j5 h0 hT @Bool.or_self @Nat.lt_irrefl @bf) (j5 ho e1 e2 e3 e4) tv
 ·have e3:=CI (tb:=fun _=>[]) (fb:=106) (cs:=[]) fj fU af af (fun i _=>Hr i) (l++aL t.name++[[40]]) (by rw[zl];simp only[List.length_append,List.length_cons,List.length_nil];omega)
  rw[zl] at e3;generalize ar (t.kids.map ag)=ll at e3 hl RI ⊢;have e4:=di fj [[41]] (l++aL t.name++[[40]]++ll) false ae iA;rw[uz] at e4;rw[show l++(aL t.name++[[40]]++ll++[[41]])=l++aL t.name++[[40]]++ll++[[41]] by simp only[axf]]
  have ho:=hO (l++aL t.name++[[40]]++ll++[[41]]) false;rw[aj];refine cW uw.eq_1 ?_;exact l9 cY fm oy jf (j5 h0 hT @Bool.or_self @Nat.lt_irrefl @bf) (j5 ho e1 e2 e3 e4) tv
def abS{t:Tm}(hk:t.kind=11)(hp:ax t=true)(fU:∀ u∈t.kids,nf u)(hP:PW mm K):yz mm K 70 [.ref mm 0,.agg (aK t)] (ag t):=by
 intro l hl;have hu:=gM hp;have cu:=Oo hk hu;rw[hp] at cu;have cu:=cu.symm;have hU:=XT hk hu;have kE:=bC t;rw[hk] at kE;obtain⟨K1,fj,cY,fm,hT,hO⟩:=oZ hP t;have aP:=hP.lt;have oy:=fun K=>jb t K
 rw[hu,aj] at oy;have jf:=fun ok l b=>fD fj ok l b
 have h0:=fun l b=>fu (l:=l) (b:=b) fj
 unfold nJ at h0;rw[aw4] at cu;obtain⟨g1,g2⟩:=cu;rw[b11,List.map_map] at kE;rw[show ((fun x:List av × Int=>x.1) ∘ fun t=>(ag t,bo t))=ag from rfl] at kE
 have RI:=P4 fU;have kE:ag t=[cz]++([[40]]++bM (.mk t.wn t.wk)++[[41]])++[[91]]++ar (t.kids.map ag)++[[93]]:=by rw[kE];simp only[axf]
 have hw:=fun l=>acD fj (QJ _ g1) l
 generalize [[40]]++bM (.mk t.wn t.wk)++[[41]]=TW at kE hw;rw[kE] at hl ⊢;simp only[List.length_append,List.length_cons,List.length_nil] at hl;have e1:=di fj [cz] l false ae iA;rw[uz] at e1;have e2:=hw (l++[cz]) iA;rw[show aM [.mk t.wn t.wk]=[[.str t.wn,.slice (aM t.wk) false]] from by simp[aM,fN]] at e2
 have e3:=di fj [[91]] (l++[cz]++TW) false ae iA;rw[uz] at e3
 by_cases zZ:t.kids.length=0
 ·have DD:t.kids=[]:=axm.1 zZ
  have e4:∀ Q:aa,ai A 109 [.ref mm 0,.slice [] false,.func (.func 106) [] []] Q=some (.undef,none):=fun Q=>I5
  have e5:=di fj [[93]] (l++[cz]++TW++[[91]]) false ae iA;rw[uz] at e5;rw[DD,axB,show ar ([]:List (List av))=[] from rfl,List.append_nil]
  rw[show l++([cz]++TW++[[91]]++[[93]])=l++[cz]++TW++[[91]]++[[93]] by simp only[axf]]
  have ho:=hO (l++[cz]++TW++[[91]]++[[93]]) false;rw[aj];rw[DD,ts0] at cY oy fm;rw[DD,ts0];refine cW uw.eq_1 ?_;exact l9 cY fm oy (j2 jf h0) (j5 hT @Bool.or_self @Nat.lt_irrefl @bf ho) (j5 e1 e2 e3 e4 e5) tv
 ·have e4:=CI (tb:=fun _=>[]) (fb:=106) (cs:=[]) fj fU af af (fun i _=>Hr i) (l++[cz]++TW++[[91]]) (by rw[zl];simp only[List.length_append,List.length_cons,List.length_nil];omega)
  rw[zl] at e4;generalize ar (t.kids.map ag)=ll at e4 hl RI ⊢;have e5:=di fj [[93]] (l++[cz]++TW++[[91]]++ll) false ae iA;rw[uz] at e5;rw[show l++([cz]++TW++[[91]]++ll++[[93]])=l++[cz]++TW++[[91]]++ll++[[93]] by simp only[axf]]
  have ho:=hO (l++[cz]++TW++[[91]]++ll++[[93]]) false;rw[aj];refine cW uw.eq_1 ?_;exact l9 cY fm oy (j2 jf h0) (j5 hT @Bool.or_self @Nat.lt_irrefl @bf ho) (j5 e1 e2 e3 e4 e5) tv
def aie{t:Tm}(hk:t.kind=5)(hp:ax t=true)(fU:∀ u∈t.kids,nf u)(hP:PW mm K):yz mm K 70 [.ref mm 0,.agg (aK t)] (ag t):=by
 intro l hl;have hu:=gM hp;have cu:=Qm hk hu;rw[hp] at cu;have cu:=cu.symm;have hU:=aiy hk hu;have kE:=bC t;rw[hk] at kE;obtain⟨K1,fj,cY,fm,hT,hO⟩:=oZ hP t;have aP:=hP.lt;have oy:=fun K=>jb t K
 rw[hu,aj] at oy;have jf:=fun ok l b=>fD fj ok l b
 have h0:=fun l b=>fu (l:=l) (b:=b) fj
 unfold nJ at h0;rw[aw4] at cu;obtain⟨hh,g2⟩:=cu;have hv:=yX fj hh l;unfold iD at hh;simp only[aw4,aw'] at hh;obtain⟨x,y,z,AG⟩:=I3 (show t.kids.length=3 by omega)
 have Nv:∀ u∈[x,y,z],nf u:=fun u IM=>fU u (by rw[AG];exact IM)
 have kE:ag t=AZ [[105,102],[116,104,101,110],[101,108,115,101]] [x,y,z] 3:=by rw[kE,AG,pt3];simp[b5]
 rw[kE] at hl ⊢;have e1:=Fc (ts:=[[105,102],[116,104,101,110],[101,108,115,101]]) fj Nv ae ae rfl l hl;rw[show ([x,y,z]:List Tm).length=3 from rfl] at e1
 generalize AZ [[105,102],[116,104,101,110],[101,108,115,101]] [x,y,z] 3=TT at e1 hl ⊢;rw[<- AG] at e1;rw[show strs [[105,102],[116,104,101,110],[101,108,115,101]]=[[.str [105,102]],[.str [116,104,101,110]],[.str [101,108,115,101]]] from rfl] at e1
 have ho:=hO (l++TT) false;rw[aj] at hv ⊢;refine cW uw.eq_1 ?_;exact l9 cY fm oy jf (j3 h0 hT @Bool.or_self) (j5 @Nat.lt_irrefl @bf ho hv e1) tv
def aif{t:Tm}(hk:t.kind=6)(hp:ax t=true)(fU:∀ u∈t.kids,nf u)(hP:PW mm K):yz mm K 70 [.ref mm 0,.agg (aK t)] (ag t):=by
 intro l hl;have hu:=gM hp;have cu:=Qn hk hu;rw[hp] at cu;have cu:=cu.symm;have hU:=aiz hk hu;have kE:=bC t;rw[hk] at kE;obtain⟨K1,fj,cY,fm,hT,hO⟩:=oZ hP t;have aP:=hP.lt;have oy:=fun K=>jb t K
 rw[hu,aj] at oy;have jf:=fun ok l b=>fD fj ok l b
 have h0:=fun l b=>fu (l:=l) (b:=b) fj
 unfold nJ at h0;rw[aw4,aw4] at cu;obtain⟨⟨hh,g1⟩,g2⟩:=cu;have hv:=yX fj hh l;unfold iD at hh;simp only[aw4,aw'] at hh;obtain⟨x,y,AG⟩:=ux (show t.kids.length=2 by omega)
 obtain⟨p,BC⟩:=wJ (show t.names.length=1 by omega)
 have JO:isWord p=true:=by rw[BC] at g1;simpa using g1
 have wD:(strs t.names)[0]?=some [.str p]:=by rw[BC];rfl
 have Nv:∀ u∈[x,y],nf u:=fun u IM=>fU u (by rw[AG];exact IM)
 have gI:=lL JO;have kE:ag t=[[108,101,116]]++[p]++AZ [[61],[105,110]] [x,y] 2:=by rw[kE,AG,BC,pt2];simp[b6]
 rw[kE] at hl ⊢;simp only[List.length_append,List.length_cons,List.length_nil] at hl;have e1:=di fj [[108,101,116]] l false ae iA;rw[uz] at e1;have e2:=w6 fj JO af (l++[[108,101,116]]) iA;have e3:=Fc (ts:=[[61],[105,110]]) fj Nv ae ae rfl (l++[[108,101,116]]++[p]) (by rw[show ([x,y]:List Tm).length=2 from rfl];simp only[List.length_append,List.length_cons,List.length_nil];omega)
 rw[show ([x,y]:List Tm).length=2 from rfl] at e3
 generalize AZ [[61],[105,110]] [x,y] 2=TT at e3 hl ⊢;rw[<- AG] at e3;rw[show strs [[61],[105,110]]=[[.str [61]],[.str [105,110]]] from rfl] at e3
 rw[show l++([[108,101,116]]++[p]++TT)=l++[[108,101,116]]++[p]++TT by simp only[axf]]
 have ho:=hO (l++[[108,101,116]]++[p]++TT) false;rw[aj] at hv ⊢;refine cW uw.eq_1 ?_;exact l9 cY fm oy (j2 jf h0) (j5 hT @Bool.or_self @Nat.lt_irrefl @bf ho) (j5 hv wD e1 e2 e3) tv
def abT{t:Tm}(hk:t.kind=12)(hp:ax t=true)(fU:∀ u∈t.kids,nf u)(hP:PW mm K):yz mm K 70 [.ref mm 0,.agg (aK t)] (ag t):=by
 intro l hl;have hu:=gM hp;have cu:=Jd hk hu;rw[hp] at cu;have cu:=cu.symm;have hU:=XU hk hu;have kE:=bC t;rw[hk] at kE;obtain⟨K1,fj,cY,fm,hT,hO⟩:=oZ hP t;have aP:=hP.lt;have oy:=fun K=>jb t K
 rw[hu,aj] at oy;have jf:=fun ok l b=>fD fj ok l b
 have h0:=fun l b=>fu (l:=l) (b:=b) fj
 unfold nJ at h0;rw[aw4,aw4] at cu;obtain⟨⟨hh,g1⟩,g2⟩:=cu;have hv:=yX fj hh l;unfold iD at hh;simp only[aw4,aw'] at hh;obtain⟨x,y,z,AG⟩:=I3 (show t.kids.length=3 by omega)
 obtain⟨p,q,BC⟩:=ux (show t.names.length=2 by omega)
 have JO:isWord p=true/\isWord q=true:=by rw[BC] at g1;simpa using g1
 obtain⟨JO,hqw⟩:=JO;have wD:(strs t.names)[0]?=some [.str p]:=by rw[BC];rfl
 have haq:(strs t.names)[1]?=some [.str q]:=by rw[BC];rfl
 have Nv:∀ u∈[y,x,z],nf u:=fun u IM=>fU u (by rw[AG];simp only[axs,axR,ays] at IM ⊢;rcases IM with rfl|rfl|rfl<;>simp)
 have gI:=lL JO;have hql:=lL hqw;have kE:ag t=[[102,111,108,100]]++[p]++[[44]]++[q]++AZ [[61],[111,118,101,114],[100,111]] [y,x,z] 3:=by rw[kE,AG,BC,pt3];simp[b12]
 rw[kE] at hl ⊢;simp only[List.length_append,List.length_cons,List.length_nil] at hl;have e1:=di fj [[102,111,108,100]] l false ae iA;have e2:=w6 fj JO af (l++[[102,111,108,100]]) iA;have e3:=di fj [[44]] (l++[[102,111,108,100]]++[p]) false ae iA;have e4:=w6 fj hqw af (l++[[102,111,108,100]]++[p]++[[44]]) iA;rw[uz] at e1 e3;have e5:=Fc (ts:=[[61],[111,118,101,114],[100,111]]) fj Nv ae ae rfl (l++[[102,111,108,100]]++[p]++[[44]]++[q]) (by rw[show ([y,x,z]:List Tm).length=3 from rfl];simp only[List.length_append,List.length_cons,List.length_nil];omega)
 rw[show ([y,x,z]:List Tm).length=3 from rfl] at e5
 generalize AZ [[61],[111,118,101,114],[100,111]] [y,x,z] 3=TT at e5 hl ⊢;have zZ:(aF t.kids)[0]?=some (aK x):=by rw[AG];simp[aF]
 have Aa:(aF t.kids)[1]?=some (aK y):=by rw[AG];simp[aF]
 have hk2:(aF t.kids)[2]?=some (aK z):=by rw[AG];simp[aF]
 rw[aj] at zZ Aa hk2;rw[show aF [y,x,z]=[aK y,aK x,aK z] from by simp[aF],aj x,aj y,aj z] at e5
 rw[show strs [[61],[111,118,101,114],[100,111]]=[[.str [61]],[.str [111,118,101,114]],[.str [100,111]]] from rfl] at e5
 rw[show l++([[102,111,108,100]]++[p]++[[44]]++[q]++TT)=l++[[102,111,108,100]]++[p]++[[44]]++[q]++TT by simp only[axf]]
 have ho:=hO (l++[[102,111,108,100]]++[p]++[[44]]++[q]++TT) false;rw[aj] at hv ⊢;refine cW uw.eq_1 ?_;exact l9 cY fm (j4 oy jf h0 hT) (j5 @Bool.or_self @Nat.lt_irrefl @bf ho hv) (j5 wD haq zZ Aa hk2) (j5 e1 e2 e3 e4 e5) tv
def amm{t:Tm}(hk:t.kind=4)(hp:ax t=true)(fU:∀ u∈t.kids,nf u)(hP:PW mm K):yz mm K 110 [.ref mm 0,.agg (aK t)] (ag t):=by
 intro l hl;have hu:=gM hp;have cu:=Fh hk hu;rw[hp] at cu;have cu:=cu.symm;rw[aw4,aw4,aw'] at cu;obtain⟨⟨hr,hh⟩,g2⟩:=cu;have kE:=bC t;rw[hk] at kE;obtain⟨K1,fj,cY,fm,hT,hO⟩:=oZ hP t;have aP:=hP.lt;have hs:=fun K=>Mc t.n K
 have hsw:oE t.n=cD t.n:=Qs af;have da:=Qt hr;obtain⟨v0,v7⟩:=XB t.n;rw[hsw] at hs;generalize hsg:cD t.n=sg at *;obtain⟨s,lv⟩:=sg;simp only at da v0 v7 hs hh;have hse:(s==[])=false:=cJ da
 by_cases h7:lv=7
 ·subst h7
  rw[if_pos rfl] at hh;have hc:=fD fj true l false;simp only[ax7,ayw] at hc;have hv:=yX fj hh l;unfold iD at hh;simp only[aw4,aw'] at hh;obtain⟨x,hx⟩:∃ x,t.kids=[x]:=wJ af;have S7:=fU x (by rw[hx];simp)
  have ft:(aF t.kids)[0]?=some (aK x):=by rw[hx];simp[aF]
  have kE:ag t=[s]++fV (ag x,bo x) 7:=by rw[kE,hx];simp[b4a,hsg]
  rw[kE] at hl ⊢;simp only[List.length_append,List.length_cons,List.length_nil] at hl;have e1:=di fj [s] l false ae iA;rw[uz] at e1;have e2:=NS S7 7 fj (l++[s]) iA;rw[aj x] at ft e2;rw[<- axf];have ho:=hO (l++[s]++fV (ag x,bo x) 7) false;rw[aj] at hv ⊢;refine cW PX.eq_1 ?_;exact l9 cY fm hs hse (j4 hc hv ft e1) (j5 e2 hT ho @Nat.lt_irrefl @bf) tv
 ·rw[if_neg h7] at hh
  have hv:=yX fj hh l;unfold iD at hh;simp only[aw4,aw'] at hh;obtain⟨x,y,hx⟩:∃ x y,t.kids=[x,y]:=ux af;have S7:=fU x (by rw[hx];simp)
  have hky:=fU y (by rw[hx];simp)
  have ft:(aF t.kids)[0]?=some (aK x):=by rw[hx];simp[aF]
  have IC:(aF t.kids)[1]?=some (aK y):=by rw[hx];simp[aF]
  have kE:ag t=fV (ag x,bo x) (if lv=3 then 4 else lv)++[s]++fV (ag y,bo y) (lv+1):=by rw[kE,hx];simp[b4b,hsg]
  rw[kE] at hl ⊢;simp only[List.length_append,List.length_cons,List.length_nil] at hl;have e1:=NS S7 (if lv=3 then 4 else lv) fj l af
  have e2:=di fj [s] (l++fV (ag x,bo x) (if lv=3 then 4 else lv)) false ae iA
  rw[uz] at e2;have e3:=NS hky (lv+1) fj (l++fV (ag x,bo x) (if lv=3 then 4 else lv)++[s]) iA
  rw[aj x] at ft e1;rw[aj y] at IC e3;rw[<- axf,<- axf];have ho:=hO (l++fV (ag x,bo x) (if lv=3 then 4 else lv)++[s]++fV (ag y,bo y) (lv+1)) false
  rw[aj] at hv ⊢
  by_cases h3:lv=3
  ·subst h3
   rw[if_pos rfl] at e1 e2 e3 ho ⊢;rw[show (3:Int)+1=4 from rfl] at e3 ho ⊢
   generalize fV (ag x,bo x) 4=kx at e1 e2 e3 ho ⊢;generalize fV (ag y,bo y) 4=ky at e3 ho ⊢;refine cW PX.eq_1 ?_;exact l9 cY fm hs hv (j4 ft IC e1 e2) (j5 e3 hT ho @Nat.lt_irrefl @bf) tv
  ·rw[if_neg h3] at e1 e2 e3 ho ⊢
   generalize fV (ag x,bo x) lv=kx at e1 e2 e3 ho ⊢;generalize fV (ag y,bo y) (lv+1)=ky at e3 ho ⊢;refine cW PX.eq_1 ?_;exact l9 cY fm hs hv (j4 ft IC e1 e2) (j5 e3 hT ho @Nat.lt_irrefl @bf) tv
def aid{t:Tm}(hk:t.kind=4)(hp:ax t=true)(fU:∀ u∈t.kids,nf u)(hP:PW mm K):yz mm K 70 [.ref mm 0,.agg (aK t)] (ag t):=by
 intro l hl;have hu:=gM hp;have cu:=Fh hk hu;rw[hp] at cu;have cu:=cu.symm;have hU:=aix hk hu;have kE:=bC t;rw[hk] at kE;obtain⟨K1,fj,cY,fm,hT,hO⟩:=oZ hP t;have aP:=hP.lt;have oy:=fun K=>jb t K
 rw[hu,aj] at oy;have jf:=fun ok l b=>fD fj ok l b
 have h0:=fun l b=>fu (l:=l) (b:=b) fj
 unfold nJ at h0;have e1:=amm hk hp fU fj l hl;have ho:=hO (l++ag t) false;generalize ag t=TT at e1 ho ⊢;rw[aj] at e1 ⊢;refine cW uw.eq_1 ?_;exact l9 cY fm oy jf (j2 h0 hT) (j5 @Bool.or_self @Nat.lt_irrefl @bf ho e1) tv
def aih{t:Tm}(hk:t.kind=7)(hp:ax t=true)(fU:∀ u∈t.kids,nf u)(hP:PW mm K):yz mm K 70 [.ref mm 0,.agg (aK t)] (ag t):=by
 intro l hl;have hu:=gM hp;have cu:=Qo hk hu;rw[hp] at cu;have cu:=cu.symm;have hU:=aiA hk hu;have kE:=bC t;rw[hk] at kE;obtain⟨K1,fj,cY,fm,hT,hO⟩:=oZ hP t;have aP:=hP.lt;have oy:=fun K=>jb t K
 rw[hu,aj] at oy;have jf:=fun ok l b=>fD fj ok l b
 have h0:=fun l b=>fu (l:=l) (b:=b) fj
 unfold nJ at h0;have e1:=abZ hk hp fU fj l hl;have ho:=hO (l++ag t) false;generalize ag t=TT at e1 ho ⊢;rw[aj] at e1 ⊢;refine cW uw.eq_1 ?_;exact l9 cY fm oy jf (j2 h0 hT) (j5 @Bool.or_self @Nat.lt_irrefl @bf ho e1) tv
def aii{t:Tm}(hk:t.kind=8)(hp:ax t=true)(fU:∀ u∈t.kids,nf u)(hP:PW mm K):yz mm K 70 [.ref mm 0,.agg (aK t)] (ag t):=by
 intro l hl;have hu:=gM hp;have cu:=LR hk hu;rw[hp] at cu;have cu:=cu.symm;have hU:=ab2 hk hu;have kE:=bC t;rw[hk] at kE;obtain⟨K1,fj,cY,fm,hT,hO⟩:=oZ hP t;have aP:=hP.lt;have oy:=fun K=>jb t K
 rw[hu,aj] at oy;have jf:=fun ok l b=>fD fj ok l b
 have h0:=fun l b=>fu (l:=l) (b:=b) fj
 unfold nJ at h0;have e1:=ab0 hk hp fU fj l hl;have ho:=hO (l++ag t) false;generalize ag t=TT at e1 ho ⊢;rw[aj] at e1 ⊢;refine cW uw.eq_1 ?_;exact l9 cY fm oy jf (j2 h0 hT) (j5 @Bool.or_self @Nat.lt_irrefl @bf ho e1) tv
def aij{t:Tm}(hk:t.kind=9)(hp:ax t=true)(fU:∀ u∈t.kids,nf u)(hP:PW mm K):yz mm K 70 [.ref mm 0,.agg (aK t)] (ag t):=by
 intro l hl;have hu:=gM hp;have cu:=LS hk hu;rw[hp] at cu;have cu:=cu.symm;have hU:=ab3 hk hu;have kE:=bC t;rw[hk] at kE;obtain⟨K1,fj,cY,fm,hT,hO⟩:=oZ hP t;have aP:=hP.lt;have oy:=fun K=>jb t K
 rw[hu,aj] at oy;have jf:=fun ok l b=>fD fj ok l b
 have h0:=fun l b=>fu (l:=l) (b:=b) fj
 unfold nJ at h0;have e1:=ab1 hk hp fU fj l hl;have ho:=hO (l++ag t) false;generalize ag t=TT at e1 ho ⊢;rw[aj] at e1 ⊢;refine cW uw.eq_1 ?_;exact l9 cY fm oy jf (j2 h0 hT) (j5 @Bool.or_self @Nat.lt_irrefl @bf ho e1) tv
def abR{t:Tm}(hk:t.kind=10)(hp:ax t=true)(fU:∀ u∈t.kids,nf u)(hP:PW mm K):yz mm K 70 [.ref mm 0,.agg (aK t)] (ag t):=by
 intro l hl;have hu:=gM hp;have cu:=Fg hk hu;rw[hp] at cu;have cu:=cu.symm;have hU:=XS hk hu;have kE:=bC t;rw[hk] at kE;obtain⟨K1,fj,cY,fm,hT,hO⟩:=oZ hP t;have aP:=hP.lt;have oy:=fun K=>jb t K
 rw[hu,aj] at oy;have jf:=fun ok l b=>fD fj ok l b
 have h0:=fun l b=>fu (l:=l) (b:=b) fj
 unfold nJ at h0;have e1:=XQ hk hp fU fj l hl;have ho:=hO (l++ag t) false;generalize ag t=TT at e1 ho ⊢;rw[aj] at e1 ⊢;refine cW uw.eq_1 ?_;exact l9 cY fm oy jf (j2 h0 hT) (j5 @Bool.or_self @Nat.lt_irrefl @bf ho e1) tv
def anf{t:Tm}(hp:ax t=true)(fU:∀ u∈t.kids,nf u):nf t:=by
 refine⟨hp,fun mm K hP=>?_⟩
 rcases tG t.kind with e|e|e|e|e|e|e|e|e|e|e|e|e|e
 ·exact ah9 e hp fU hP
 ·exact aia e hp fU hP
 ·exact aib e hp fU hP
 ·exact aic e hp fU hP
 ·exact aid e hp fU hP
 ·exact aie e hp fU hP
 ·exact aif e hp fU hP
 ·exact aih e hp fU hP
 ·exact aii e hp fU hP
 ·exact aij e hp fU hP
 ·exact abR e hp fU hP
 ·exact abS e hp fU hP
 ·exact abT e hp fU hP
 ·have:=vl (qR hp)
  omega
theorem V6{t u:Tm}(h:u∈t.kids):SizeOf.sizeOf u<SizeOf.sizeOf t:=by
 cases t with
 | mk k n a f wn wk ks ns =>
  have:=azG (show u∈ks from h)
  grind
def Mi(t:Tm)(hp:ax t=true):nf t :=
 anf hp (fun u hu=>Mi u ((qR hp).kids u hu))
termination_by SizeOf.sizeOf t
decreasing_by exact V6 hu
def vg:∀ (l:List (List av)) (i:Nat),(ar (l.take i)).length<=(ar l).length
 | [],i=>ae
 | a :: r,0=>by simp[ar]
 | [a],i+1=>ae
 | a :: b :: r,1=>by simp only[axJ,axQ,ar,List.length_append];omega
 | a :: b :: r,i+2=>by
  have ih:=vg (b :: r) (i+1);simp only[axJ,ar,List.length_append] at ih ⊢;omega
theorem Qj(h:dP k u=true):isWord u.name=true/\bD (.mk u.wn u.wk)=true/\(0<=u.jA/\u.jA<=1099511627776)/\(k=4\/u.jA=0):=by
 unfold dP at h
 grind
def Rq : 0<(bU k u).length:=by
 unfold bU;split<;>exact iA
theorem Me{f:Fm} : f.bI.length<=(ar (f.bI.map (bU f.kind))).length:=by
 have:=AN (f.bI.map (bU f.kind)) (fun x hx=>by obtain⟨u,_,rfl⟩:=List.mem_map.1 hx;exact Rq)
 grind
theorem Ba{f:Fm}(hk:0<=f.kind/\f.kind<=5)(hp:gb f=true)(hlen:(dD f).length<=8000000)(H:aa):ai A 30 [.agg (bJ f)] H=some (.slice (strs (dD f)) true,none):=by
 obtain⟨kn,RL⟩:∃ kn,kn=cG.getD f.kind.toNat []:=⟨_,rfl⟩;have fta:dD f=[kn,f.name,[40]]++ar (f.bI.map (bU f.kind))++[[41]]++(if f.kind=0\/f.kind=1 then [] else bM (.mk f.rn f.rk)++[[61]]++ag f.body):=by unfold dD;rw[RL]
 have Vq:=hp;unfold gb at Vq;rw[aw4,aw4] at Vq;obtain⟨⟨p1,p2⟩,p3⟩:=Vq;have qu:=Me (f:=f);have hle:=fun i=>vg (f.bI.map (bU f.kind)) i
 have dQ:∀ u∈f.bI,dP f.kind u=true:=fun u hu=>aw8.1 p2 u hu
 generalize hLL:ar (f.bI.map (bU f.kind))=LL at *;have uZ:LL.length+4+(if f.kind=0\/f.kind=1 then [] else bM (.mk f.rn f.rk)++[[61]]++ag f.body).length<=8000000:=by
  grind
 rw[bJ];obtain⟨K,hK⟩:∃ K,K=H++[.box 85 [.int .i64 f.kind,.str f.name,.slice (f.bI.map dc) false,.str f.rn,.slice (aM f.rk) false,.int .i64 f.body.kind,.int .i64 f.body.n,.str f.body.name,.str f.body.field,.str f.body.wn,.slice (aM f.body.wk) false,.slice (aF f.body.kids) false,.slice (strs f.body.names) false,.slice (strs f.layout) false],.box 125 [.al,.bool false]]:=⟨_,rfl⟩;obtain⟨mm,BB⟩:∃ mm,mm=H.length+1:=⟨_,rfl⟩;have hKl:K.length=H.length+2:=by rw[hK];simp
 have hP:PW mm K:=⟨af,fun j cs hj=>by
  rw[hK,BB] at *;intro e;rw[List.getElem?_append_right af] at e
  match uY:j-H.length with
  | 0=>omega
  | 1=>rw[uY] at e;cases e
  | n+2=>rw[uY] at e;simp at e⟩
 have h0:K[mm]?=some (.box 125 [.al,.bool false]):=by rw[hK,BB];exact h2b
 obtain⟨k0,k5⟩:=hk;have afu:(strs cG)[f.kind.toNat]?=some [.str kn]:=by rw[RL];exact iu (by show f.kind.toNat<6;omega)
 have ef:=Ou hP [kn] ae h0;rw[uz] at ef;have u9:=lL p1;have e1:=w6 hP p1 af [kn] ae;have e2:=di hP [[40]] ([kn]++[f.name]) false ae ae;rw[uz] at e2;have fm:∀ l b,(ct mm l b K)[H.length]?=some (.box 85 [.int .i64 f.kind,.str f.name,.slice (f.bI.map dc) false,.str f.rn,.slice (aM f.rk) false,.int .i64 f.body.kind,.int .i64 f.body.n,.str f.body.name,.str f.body.field,.str f.body.wn,.slice (aM f.body.wk) false,.slice (aF f.body.kids) false,.slice (strs f.body.names) false,.slice (strs f.layout) false]):=fun l b=>by rw[hK,BB];exact Jz
 have qN:∀ l b,(ct mm l b K).take H.length=H:=fun l b=>by rw[hK,BB];exact Bb
 have DI:∀ l b x,((ct mm l b K).set mm x).take H.length=H:=fun l b x=>by rw[hK,BB];exact yl
 have rf:decide (mm<H.length)=false:=df;have Gl:=fun l b=>fu (l:=l) (b:=b) hP
 unfold nJ at Gl;refine cy (fn:=DM) rfl rfl rfl ?_;refine iC 5 (fun st=>∃ T g,st=⟨T,ct mm [kn,f.name,[40]] false K,H.length,g⟩/\T 1=.ref H.length 0/\T 3=.ref mm 0) ?_ ?_
 ·unfold DM
  simp only[aG.pre];have hKs:=hK.symm;have Vc:=BB.symm;have hab:=mR (H:=H) (o:=.box 85 [.int .i64 f.kind,.str f.name,.slice (f.bI.map dc) false,.str f.rn,.slice (aM f.rk) false,.int .i64 f.body.kind,.int .i64 f.body.n,.str f.body.name,.str f.body.field,.str f.body.wn,.slice (aM f.body.wk) false,.slice (aF f.body.kids) false,.slice (strs f.body.names) false,.slice (strs f.layout) false]);have e2:ai A 64 [.ref mm 0,.slice [[.str [40]]] false] (ct mm ([kn]++[f.name]) false K)=some (.undef,some ⟨ct mm [kn,f.name,[40]] false K,mm⟩):=e2;generalize [kn]++[f.name]=l2 at e1 e2;refine l9 hab Vc hKs @aj0 (j2 afu ef) (j5 e1 e2 fm rf @Nat.lt_irrefl) ?_;exact⟨_,_,rfl,dS,dS⟩
 rintro st ⟨T,g,rfl,q1,q3⟩
 refine iC 0 (fun st=>∃ T g,st=⟨T,ct mm ([kn,f.name,[40]]++LL) false K,H.length,g⟩/\T 1=.ref H.length 0/\T 3=.ref mm 0) ?_ ?_
 ·unfold DM
  simp only[aG.post,aG.pre];refine nL2 q1 fm ?_;refine bK f.bI.length 0 (fun i st=>∃ T g,st=⟨T,ct mm ([kn,f.name,[40]]++ar ((f.bI.map (bU f.kind)).take i)) false K,H.length,g⟩/\T 1=.ref H.length 0/\T 3=.ref mm 0/\T 32=.slice (f.bI.map dc) false/\T 33=.int .i64 f.bI.length/\T 34=.int .i64 i)
   (fun st=>∃ T g,st=⟨T,ct mm ([kn,f.name,[40]]++LL) false K,H.length,g⟩/\T 1=.ref H.length 0/\T 3=.ref mm 0) (fun _=>False) ?_ (fun st h=>h) (fun _ h=>h.elim) 0 _ af ?_
  ·rintro i st hi ⟨T,g,rfl,q1,q3,q32,q33,q34⟩
   by_cases aP:i<f.bI.length
   ·have hx:=aw3 aP
    have hm:=axn aP;have mD:(f.bI.map (bU f.kind)).take (i+1)=(f.bI.map (bU f.kind)).take i++[bU f.kind f.bI[i]]:=by
     rw[ayr,List.getElem?_map,hx];rfl
    have Vg:=hle (i+1);have jm:=jJ (bU f.kind f.bI[i]) ((f.bI.map (bU f.kind)).take i);rw[<- mD] at jm;generalize f.bI[i]=u at hx hm jm;have ft:=UJ hx;rw[dc] at ft;obtain⟨u1,u2,⟨m0,m1⟩,u4⟩:=Qj (dQ u hm);have PN:=lL u1;have hwX:=QJ _ u2;rw[hLL.symm] at uZ;generalize yV:ar ((f.bI.map (bU f.kind)).take i)=acc at *;have Ye:((f.bI.map (bU f.kind)).take i=[])↔i=0:=by
     constructor
     ·intro h
      have:=ayj List.length h
      rw[axO,List.length_map,List.length_nil] at this;omega
     ·intro h;rw[h];rfl
    rw[hLL] at uZ;have fin:∀ (T' : az) (g' : Nat) (lz:List av),lz=[kn,f.name,[40]]++ar ((f.bI.map (bU f.kind)).take (i+1))->T' 1=.ref H.length 0->T' 3=.ref mm 0->T' 32=.slice (f.bI.map dc) false->T' 33=.int .i64 f.bI.length->T' 34=.int .i64 ((i:Int)+1) ->
      i<f.bI.length/\∃ T g,(⟨T',ct mm lz false K,H.length,g'⟩:AS)=⟨T,ct mm ([kn,f.name,[40]]++ar ((f.bI.map (bU f.kind)).take (i+1))) false K,H.length,g⟩/\T 1=.ref H.length 0/\T 3=.ref mm 0/\T 32=.slice (f.bI.map dc) false/\T 33=.int .i64 f.bI.length/\T 34=.int .i64 ((i:Int)+1) :=
     fun T' g' lz hz r1 r3 r32 r33 r34=>⟨aP,T',g',by rw[hz],r1,r3,r32,r33,r34⟩
    obtain⟨nxt,akP⟩:∃ x,x=ar ((f.bI.map (bU f.kind)).take (i+1)):=⟨_,rfl⟩;rw[<- akP] at jm Vg;have fin:=fun T' g' lz (h:lz=[kn,f.name,[40]]++nxt)=>fin T' g' lz (by rw[h,akP])
    obtain⟨la,Vd,ZG,afx,afy⟩:∃ la:List av,la++bU f.kind u=[kn,f.name,[40]]++nxt/\la.length+(bU f.kind u).length<=8000000/\(i=0->la=[kn,f.name,[40]]++acc)/\(i≠0->ai A 64 [.ref mm 0,.slice [[.str [44]]] false] (ct mm ([kn,f.name,[40]]++acc) false K)=some (.undef,some ⟨ct mm la false K,mm⟩)):=by
     by_cases i0:i=0
     ·rw[if_pos (Ye.2 i0)] at jm
      have hac:acc=[]:=by rw[<- yV,i0];rfl
      refine⟨[kn,f.name,[40]]++acc,by rw[hac,jm,List.append_nil],?_,fun _=>rfl,fun h=>absurd i0 h⟩
      rw[jm] at Vg;rw[hac];simp only[List.length_append,List.length_cons,List.length_nil] at Vg ⊢;omega
     ·rw[if_neg (fun h=>i0 (Ye.1 h))] at jm
      rw[jm] at Vg;simp only[List.length_append,List.length_cons,List.length_nil] at Vg;refine⟨[kn,f.name,[40]]++acc++[[44]],by rw[jm];simp only[axf],?_,fun h=>absurd h i0,fun _=>?_⟩
      ·exact iA
      ·have:=di hP [[44]] ([kn,f.name,[40]]++acc) false ae iA
       rwa [uz] at this
    generalize [kn,f.name,[40]]++acc=pra at afx afy ⊢;have eb:=w6 hP u1 af la af
    by_cases k4:f.kind=4
    ·have hfd:bU f.kind u=[u.name]++bM (.mk u.wn u.wk)++[lV u.jA.toNat]:=by unfold bU;rw[if_pos k4]
     rw[hfd] at Vd ZG;simp only[List.length_append,List.length_cons,List.length_nil] at ZG;have ew:=hwX mm K hP (la++[u.name]) iA;rw[fN] at ew;have jf:=fD hP true (la++[u.name]++bM (.mk u.wn u.wk)) false;simp only[ax7,ayw] at jf;have ed:=di hP [lV u.jA.toNat] (la++[u.name]++bM (.mk u.wn u.wk)) false ae iA;rw[uz] at ed;have IH:=fun K=>NQ u.jA K ⟨af,af⟩
     rw[IX m0] at IH;have fin:=fun T' g'=>fin T' g' (la++[u.name]++bM (.mk u.wn u.wk)++[lV u.jA.toNat]) (by rw[<- Vd];simp only[axf])
     generalize la++[u.name]++bM (.mk u.wn u.wk)++[lV u.jA.toNat]=ld at *;generalize la++[u.name]++bM (.mk u.wn u.wk)=lc at *;generalize la++[u.name]=lb at *
     by_cases i0:i=0
     ·rw[afx i0] at eb
      refine l9 q1 q3 q32 q33 (j4 q34 ft fm eb) (j5 ew jf IH ed rf) ?_;refine fin _ _ ?_ ?_ ?_ ?_ ?_
      all_goals exact vO4 q1 q3 q32 q33
     ·have ec:=afy i0
      refine l9 q1 q3 q32 q33 (j5 q34 ft fm ec eb) (j5 ew jf IH ed rf) ?_;refine fin _ _ ?_ ?_ ?_ ?_ ?_
      all_goals exact vO4 q1 q3 q32 q33
    ·have hfd:bU f.kind u=[u.name]++bM (.mk u.wn u.wk):=by unfold bU;rw[if_neg k4,List.append_nil]
     have hz:=u4.resolve_left k4;rw[hfd] at Vd ZG;simp only[List.length_append,List.length_cons,List.length_nil] at ZG;have ew:=hwX mm K hP (la++[u.name]) iA;rw[fN] at ew;have jf:=fD hP true (la++[u.name]++bM (.mk u.wn u.wk)) false;simp only[ax7,ayw] at jf;have fin:=fun T' g'=>fin T' g' (la++[u.name]++bM (.mk u.wn u.wk)) (by rw[<- Vd];simp only[axf])
     generalize la++[u.name]++bM (.mk u.wn u.wk)=lc at *;generalize la++[u.name]=lb at *
     by_cases i0:i=0
     ·rw[afx i0] at eb
      refine l9 q1 q3 q32 q33 (j2 q34 ft) (j5 fm eb ew jf rf) ?_;refine fin _ _ ?_ ?_ ?_ ?_ ?_
      all_goals exact vO4 q1 q3 q32 q33
     ·have ec:=afy i0
      refine l9 q1 q3 q32 q33 (j3 q34 ft fm) (j5 ec eb ew jf rf) ?_;refine fin _ _ ?_ ?_ ?_ ?_ ?_
      all_goals exact vO4 q1 q3 q32 q33
   ·obtain rfl:i=f.bI.length:=af
    rw[axy ae,hLL];refine ry q33 q34 @Nat.lt_irrefl ?_;exact⟨_,_,rfl,cV q1,cV q3⟩
  ·refine⟨_,_,rfl,?_,?_,?_,?_,?_⟩
   all_goals exact XX q1 q3
 rintro st ⟨T,g,rfl,q1,q3⟩
 refine iC 1 (fun st=>∃ T g,st=⟨T,ct mm (dD f) false K,H.length,g⟩/\T 3=.ref mm 0) ?_ ?_
 ·have e4:=di hP [[41]] ([kn,f.name,[40]]++LL) false ae iA
  rw[uz] at e4;have e6:((DM.body.post 5).post 0)=DM.body.post 6:=pK 5 _;rw[e6]
  by_cases b01:f.kind=0\/f.kind=1
  ·have afa:(decide (f.kind=0) || decide (f.kind=1))=true:=by rcases b01 with b|b<;>simp[b]
   rw[afa,cond_true,zero_eq] at p3;simp only[aw4] at p3;obtain⟨d1,d2,d3,d4,d5⟩:=p3;have oy:=fun K=>jb f.body K
   rw[aj] at oy;have jf:=fD hP true ([kn,f.name,[40]]++LL++[[41]]) false;simp only[ax7,ayw] at jf;rw[if_pos b01,List.append_nil] at fta;rw[<- fta] at jf e4;have apA:(f.kind==0)=true\/(f.kind==0)=false/\(f.kind==1)=true:=by
    rcases b01 with b|b
    ·exact .inl (by simp[b])
    ·exact .inr (by simp[b])
   generalize [kn,f.name,[40]]++LL=lx at e4 ⊢;generalize dD f=ly at jf e4 ⊢;unfold DM;simp only[aG.post,aG.pre]
   rcases apA with hk|⟨hk,Aa⟩
   ·refine l9 q1 q3 fm @gF (j5 oy hk d1 d2 d3) (j5 d4 d5 e4 jf rf) ?_
    exact⟨_,_,rfl,cV q3⟩
   ·refine l9 q1 q3 fm (j2 @gF oy) (j5 hk Aa d1 d2 d3) (j5 d4 d5 e4 jf rf) ?_
    exact⟨_,_,rfl,cV q3⟩
  ·have afa:(decide (f.kind=0) || decide (f.kind=1))=false:=by
    have h1:¬ f.kind=0:=fun h=>b01 (.inl h)
    have h2:¬ f.kind=1:=fun h=>b01 (.inr h)
    simp[h1,h2]
   rw[afa,cond_false,aw4] at p3;obtain⟨d1,d2⟩:=p3;rw[if_neg b01] at fta uZ;simp only[List.length_append,List.length_cons,List.length_nil] at uZ;have zZ:(f.kind==0)=false:=by simpa using fun h=>b01 (.inl h)
   have Aa:(f.kind==1)=false:=by simpa using fun h=>b01 (.inr h)
   have e5:=QJ _ d1 mm K hP ([kn,f.name,[40]]++LL++[[41]]) iA;rw[fN] at e5;have e7:=di hP [[61]] ([kn,f.name,[40]]++LL++[[41]]++bM (.mk f.rn f.rk)) false ae iA;rw[uz] at e7;have e8:=(Mi f.body d2).2 mm K hP ([kn,f.name,[40]]++LL++[[41]]++bM (.mk f.rn f.rk)++[[61]]) iA;rw[aj] at e8;rw[show dD f=[kn,f.name,[40]]++LL++[[41]]++bM (.mk f.rn f.rk)++[[61]]++ag f.body by rw[fta];simp only[axf]]
   generalize [kn,f.name,[40]]++LL++[[41]]++bM (.mk f.rn f.rk)++[[61]]++ag f.body=l6 at e8 ⊢;generalize [kn,f.name,[40]]++LL++[[41]]++bM (.mk f.rn f.rk)++[[61]]=l5 at e7 e8;generalize [kn,f.name,[40]]++LL++[[41]]++bM (.mk f.rn f.rk)=l4 at e5 e7;generalize [kn,f.name,[40]]++LL++[[41]]=l3 at e4 e5;generalize [kn,f.name,[40]]++LL=lx at e4 ⊢;unfold DM;simp only[aG.post,aG.pre];refine l9 q1 q3 fm zZ Aa (j5 e4 e5 e7 e8 rf) ?_;exact⟨_,_,rfl,cV q3⟩
 ·rintro st ⟨T,g,rfl,q3⟩
  have e6:((DM.body.post 5).post 0).post 1=DM.body.post 8:=rfl;rw[e6];unfold DM;simp only[aG.post];simp(disch:=omega)only[dJ,ab,simprocAttr,q3,Gl,DI,rf,cH,cA,axr,ah]
def ab9{f:Fm}(hk:0<=f.kind/\f.kind<=5)(hp:gb f=true)(hlen:(dD f).length<=1000000):Yw f :=
 ⟨fun H=>by unfold mf;rw[if_pos hp];exact Ba hk hp af H,by unfold mf;rw[if_pos hp];exact hlen⟩
def Yr(ks:List Tm):Nat:=(ks.map fun u=>(ag u).length).sum
def gk{u:Tm}{ks:List Tm} : Yr (u :: ks)=(ag u).length+Yr ks:=rfl
def tU:Yr []=0:=rfl
def Qz{u:Tm} : ∀ {ks:List Tm},u∈ks->(ag u).length<=Yr ks
 | x :: ks,h=>by
  rw[gk]
  rcases axs.1 h with rfl|h
  ·omega
  ·have:=Qz h;omega
def Qy:∀ {ks:List Tm},(∀ u∈ks,ax u=true)->ks.length<=Yr ks
 | [],_=>Nat.le_refl _
 | x :: ks,h=>by
  have h1:=XP (h x ae);have h2:=Qy fun u hu=>h u (ax8 x hu)
  rw[gk,List.length_cons];omega
def vP:∀ xs:List (List av),(xs.map List.length).sum<=(ar xs).length
 | []=>Nat.le_refl _
 | [a]=>by simp[ar]
 | a :: b :: r=>by
  have ih:=vP (b :: r);simp only[ar,axe,ayK,List.length_append,List.length_cons,List.length_nil] at ih ⊢;omega
def LQ(ks:List Tm):Yr ks<=(ar ((ks.map fun t=>(ag t,bo t)).map (·.1))).length:=by
 refine axx (Nat.le_of_eq ?_) (vP _);simp[Yr,Function.comp_def]
def X8:∀ (ns:List av) (ks:List Tm),ks.length<=ns.length->Yr ks<=((List.zipWith (fun s (x:List av × Int)=>[s,[61]]++x.1) ns (ks.map fun t=>(ag t,bo t))).map List.length).sum
 | _,[],_=>axh _
 | n :: ns,x :: ks,h=>by
  have ih:=X8 ns ks (Nat.le_of_succ_le_succ h);simp only[axe,ayU,ayK,List.length_append,gk] at ih ⊢;omega
def O4:∀ (ks:List Tm) (ns:List av),ns.length=2*ks.length->Yr ks<=((ig ns (ks.map fun t=>(ag t,bo t))).map List.length).sum
 | [],_,_=>axh _
 | x :: ks,p :: q :: ns,h=>by
  have ih:=O4 ks ns (by simp only[List.length_cons] at h;omega)
  simp only[axe,ig,ayK,List.length_append,gk] at ih ⊢;omega
 | _ :: _,[],h=>by simp only[List.length_cons,List.length_nil] at h;omega
 | _ :: _,[_],h=>by simp only[List.length_cons,List.length_nil] at h;omega
def NT(p:List av × Int)(k:Int):p.1.length<=(fV p k).length:=by
 unfold fV;split
 ·simp only[List.length_append];omega
 ·exact Nat.le_refl _
def abV{t:Tm}(hp:ax t=true):Yr t.kids<=(ag t).length/\t.names.length<=2*t.kids.length/\(bD (.mk t.wn t.wk)=true\/t.wk=[]):=by
 have hu:=gM hp;rw[bC]
 rcases tG t.kind with e|e|e|e|e|e|e|e|e|e|e|e|e|e
 ·obtain⟨-, -, -, -,h3,h4,h5⟩:=ait e hu
  rw[h4,h5];exact⟨axh _,axh _,.inr h3⟩
 ·obtain⟨-, -, -, -,h3,h4,h5⟩:=aiu e hu
  rw[h4,h5];exact⟨axh _,axh _,.inr h3⟩
 ·obtain⟨-, -, -, -,h3,h4,h5⟩:=aiv e hu
  rw[h4,h5];exact⟨axh _,axh _,.inr h3⟩
 ·obtain⟨-, -, -, -,h3,h4⟩:=aiw e hu
  have h1:=LQ t.kids;rw[h4,e,b3];refine⟨?_,axh _,.inr h3⟩;simp only[List.length_append];omega
 ·have cu:=Fh e hu
  rw[hp] at cu;have cu:=cu.symm;simp only[aw4,iD,aw'] at cu;obtain⟨-, -, -, -,h3,h4⟩:=aix e hu;rw[h4]
  by_cases h7:(cD t.n).2=7
  ·rw[if_pos h7] at cu
   obtain⟨x,hx⟩:=wJ (show t.kids.length=1 by omega)
   have h1:=NT (ag x,bo x) 7;rw[e,hx,axe,axB,b4a,gk,tU];refine⟨?_,axh _,.inr h3⟩;simp only[List.length_append,List.length_cons,List.length_nil] at h1 ⊢;omega
  ·rw[if_neg h7] at cu
   obtain⟨x,y,hx⟩:=ux (show t.kids.length=2 by omega)
   have h1:=NT (ag x,bo x) (if (cD t.n).2=3 then 4 else (cD t.n).2)
   have h2:=NT (ag y,bo y) ((cD t.n).2+1);rw[e,hx,axe,axe,axB,b4b,gk,gk,tU];refine⟨?_,axh _,.inr h3⟩;simp only[List.length_append,List.length_cons,List.length_nil] at h1 h2 ⊢;omega
 ·have cu:=Qm e hu
  rw[hp] at cu;have cu:=cu.symm;simp only[aw4,iD,aw'] at cu;obtain⟨-, -, -, -, -,h3,h4⟩:=aiy e hu;obtain⟨x,y,z,hx⟩:=I3 (show t.kids.length=3 by omega)
  rw[h4,e,hx,axe,axe,axe,axB,b5,gk,gk,gk,tU];refine⟨?_,axh _,.inr h3⟩;exact iA
 ·have cu:=Qn e hu
  rw[hp] at cu;have cu:=cu.symm;simp only[aw4,iD,aw'] at cu;obtain⟨-, -, -, -, -,h3⟩:=aiz e hu;obtain⟨x,y,hx⟩:=ux (show t.kids.length=2 by omega)
  obtain⟨p,hn⟩:=wJ (show t.names.length=1 by omega)
  rw[e,hx,hn,axe,axe,axB,b6,gk,gk,tU];refine⟨?_,ae,.inr h3⟩;exact iA
 ·have cu:=Qo e hu
  rw[hp] at cu;have cu:=cu.symm;simp only[aw4,aw'] at cu;obtain⟨-, -, -, -,h3⟩:=aiA e hu;have h1:=X8 t.names t.kids af;have h2:=vP (List.zipWith (fun s (x:List av × Int)=>[s,[61]]++x.1) t.names (t.kids.map fun t=>(ag t,bo t)))
  rw[e,b7];refine⟨?_,af,.inr h3⟩;simp only[List.length_append];omega
 ·have cu:=LR e hu
  rw[hp] at cu;have cu:=cu.symm;simp only[aw4,aw'] at cu;obtain⟨-, -, -,h3,h4⟩:=ab2 e hu;obtain⟨x,hx⟩:=wJ (show t.kids.length=1 by omega)
  rw[h4,e,hx,axe,axB,b8,gk,tU];refine⟨?_,axh _,.inr h3⟩;exact iA
 ·have cu:=LS e hu
  rw[hp] at cu;have cu:=cu.symm;simp only[aw4,aw'] at cu;obtain⟨-, -, -,h3,h4⟩:=ab3 e hu;obtain⟨x,hx⟩:=wJ (show t.kids.length=1 by omega)
  rw[h4,e,hx,axe,axB,b9,gk,tU];refine⟨?_,axh _,.inr h3⟩;exact iA
 ·have cu:=Fg e hu
  rw[hp] at cu;have cu:=cu.symm;simp only[aw4,aw'] at cu;obtain⟨-, -, -, -,h3⟩:=XS e hu;obtain⟨x,rest,hx⟩:∃ x rest,t.kids=x :: rest:=by
   cases h:t.kids with
   | nil=>rw[h] at cu;simp at cu
   | cons a r=>exact⟨a,r,rfl⟩
  rw[hx] at cu;have h1:=O4 rest t.names (by simp only[List.length_cons] at cu;omega)
  have h2:=vP (ig t.names (rest.map fun t=>(ag t,bo t)))
  rw[e,hx];refine⟨?_,by simp only[List.length_cons] at cu ⊢;omega,.inr h3⟩
  show _<=([[109,97,116,99,104]]++aL t.name++[[40]]++ag x++[[41]]++[[123]]++ar (ig t.names (rest.map fun t=>(ag t,bo t)))++[[125]]).length
  rw[gk];exact iA
 ·have cu:=Oo e hu
  rw[hp] at cu;have cu:=cu.symm;simp only[aw4] at cu;obtain⟨-, -, -, -,h4⟩:=XT e hu;have h1:=LQ t.kids;rw[h4,e,b11];refine⟨?_,axh _,.inl cu.1⟩;simp only[List.length_append];omega
 ·have cu:=Jd e hu
  rw[hp] at cu;have cu:=cu.symm;simp only[aw4,iD,aw'] at cu;obtain⟨-, -, -, -, -,h3⟩:=XU e hu;obtain⟨x,y,z,hx⟩:=I3 (show t.kids.length=3 by omega)
  obtain⟨p,q,hn⟩:=ux (show t.names.length=2 by omega)
  rw[e,hx,hn,axe,axe,axe,axB,b12,gk,gk,gk,tU];refine⟨?_,ae,.inr h3⟩;exact iA
 ·have:=vl (qR hp)
  omega
theorem ah0(s:av)(at' : Nat)(H:aa)(ft:at'<=s.length)(hs:s.length<=4611686018427387904) :
  ai A 42 [.str s,.int .i64 at'] H=some (.int .i64 ((at' + bt false (s.drop at'):Nat):Int),none):=by
 refine cW aly.eq_1 ?_;refine N6 ?_;refine vC s.length (fun i=>Hd (fun T=>∃ c,T 0=.str s/\T 1=.int .i64 i/\T 5=.bool c/\at' + bt false (s.drop at')=i+bt c (s.drop i)) H H.length 0) ?_ at' _ ft ?_
 ·rintro i st hi gP
  obtain⟨T,rfl,c,h0,h1,h5,hc⟩:=gP.out;refine Yo h0 h1 ?_;refine ju ?_ ?_<;>intro h
  ·have j6:i<s.length:=af
   rw[axk j6] at hc;simp only[bt] at hc;refine nE3 h0 h1 (aw3 j6) ?_;refine jI ?_ ?_<;>intro hb
   ·have iG:s[i].toNat=10:=by
     have:((s[i].toNat:Int))=10:=cJ hb
     omega
    rw[if_pos iG] at hc;refine Yo h0 h1 ?_
    grind
   have iG:s[i].toNat≠10:=fun e=>by rw[e] at hb;simp at hb
   rw[if_neg iG] at hc;refine N6 ?_;refine jI ?_ ?_<;>intro kG
   ·have ae6:s[i].toNat=35:=by
     have:((s[i].toNat:Int))=35:=cJ kG
     omega
    rw[if_pos ae6] at hc;refine Yo h0 h1 ?_
    grind
   have ae6:s[i].toNat≠35:=fun e=>by rw[e] at kG;simp at kG
   rw[if_neg ae6] at hc
   by_cases hb3:s[i].toNat=32
   ·rw[if_neg (yd hb3)] at hc
    simp(disch:=omega)only[yQ,ab,simprocAttr,h0,h1,h5,hb3,bne_self_eq_false]
    grind
   ·have akj:((s[i].toNat:Int) != 32)=true:=df
    cases c with
    | true =>
     rw[if_neg ae] at hc;refine I6 h0 h1 h5 akj ?_
     grind
    | false =>
     rw[if_pos (yd hb3)] at hc;refine nE3 h1 h5 akj ?_;omega
  ·have:i=s.length:=af
   subst this;rw[ayy] at hc;simp only[bt] at hc;refine Yn h1 ?_;omega
 ·refine N6 ?_
  exact⟨false,rfl,rfl⟩
def abw(s:av)(H:aa)(hs:s.length<=4611686018427387904) :
  ai A 11 [.str s] H=some (.tuple [.slice (fA (bO s).1) false,.str (bO s).2.1,.int .i64 (bO s).2.2],none):=by
 refine cW alj.eq_1 ?_
 by_cases U1:8192<s.length
 ·have e:bO s=([],[],8192):=by unfold bO;rw[if_pos U1]
  rw[e];refine Lw ?_;rfl
 have e:=Gx s U1;generalize bO s=R at e;refine Lw ?_;refine o6 0 (fun k=>Hd (fun T=>∃ (off:Nat) (acc:List Tok),T 0=.str s/\T 5=.slice (fA acc) true/\T 6=.int .i64 off/\off<=s.length/\k=s.length-off/\acc.length<=off/\ahead acc (dK (s.drop off) off)=R) H H.length 0)
  (fun _=>False) (Hd (fun T=>∃ o,T 2=.slice (fA R.1) o/\T 3=.str R.2.1/\T 4=.int .i64 R.2.2) H H.length 0) ?_ (fun _ h=>h.elim) ?_ s.length _ ?_
 ·rintro k st gP
  obtain⟨T,rfl,off,acc,h0,h5,h6,mC,hk,yV,hc⟩:=gP.out;have Gj:=ah0 s off H mC af;have hle:=mg false (s.drop off);rw[axD] at hle
  by_cases xM:bt false (s.drop off)=(s.drop off).length
  ·rw[L8 xM] at hc
   subst hc;rw[axD] at xM;rw[xM] at Gj;have e1:off+(s.length-off)=s.length:=af;rw[e1] at Gj;simp(disch:=omega)only[gO,ab,simprocAttr,h0,h5,h6,Gj,axz];exact⟨false,rfl⟩
  ·have aP:bt false (s.drop off)<s.length-off:=by rw[axD] at xM;omega
   have JH:=acE s (off+bt false (s.drop off)) H af af;have qO:=wz (s.drop (off+bt false (s.drop off)));rw[axD] at qO
   by_cases jl:fW (s.drop (off+bt false (s.drop off)))=0
   ·rw[L7 xM (by rw[ax6];exact jl)] at hc
    subst hc;rw[if_pos jl] at JH;generalize hm:off+bt false (s.drop off)=m at Gj JH;have Cz:off<=m:=af;have Mv:m<s.length:=af;clear hm;refine nO4 h0 h6 Gj JH ?_;exact⟨true,rfl,rfl⟩
   ·rw[if_neg jl] at JH
    generalize ui:bt false (s.drop off)=k at Gj JH aP jl qO;generalize JN:fW (s.drop (off+k))=n at JH jl qO;rw[HM ui JN af jl] at hc;have Nx:off+k+n<=s.length:=af;have hn0:0<n:=af;generalize hm:off+k=m at Gj JH hc Nx;have Cz:off<=m:=af;have Mv:m<s.length:=af;clear hm ui JN qO aP xM hle;generalize hp:m+n=p at JH hc Nx;have FY:m<p:=af;clear hp;refine Ac h0 h5 h6 Gj (j2 JH @O1) ?_;exact⟨s.length-p,af,p,_,rfl,rfl,af,rfl,df,hc⟩
 ·intro st gP
  obtain⟨T,rfl,o,h2,h3,h4⟩:=gP.out;exact nE3 h2 h3 h4 tv
 ·refine N6 ?_
  exact⟨0,[],rfl,rfl,af,af,ae,cJ e⟩
end Go.Proofs.YtkoebdjmmgckdaaGreatDoor
end
