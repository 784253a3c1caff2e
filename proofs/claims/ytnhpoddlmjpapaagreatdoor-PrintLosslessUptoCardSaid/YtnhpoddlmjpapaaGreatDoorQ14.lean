/-
  A part of the proof of PrintLossless: UQ44, UW1, UW2, UW3, UW4, UW5, UW6, Y5.
-/
import Derived.Test.YtnhpoddlmjpapaaGreatDoorQ13
set_option linter.unusedSimpArgs false
set_option linter.unusedVariables false
set_option linter.defProp false
set_option maxHeartbeats 2000000
set_option maxRecDepth 100000
noncomputable section
namespace Go.Proofs.YtnhpoddlmjpapaaGreatDoor
open Go Go.Abs Go.Proofs
variable {u:Fd}{k kd lv o:Int}{cs:List AV}{l ts:List aB}{mm:Nat}{tb:Nat->List aB}{s:aB}{K:ae}
section
section
variable {tk:List Tk}{E B:EP}
section
variable {n:Int}{a f p q:aB}{wn:aB}{wk:List Wd}{ns:List aB}{ks:List Tm}{x y z:Tm}
def Nx(s:aB):0<(aJ s).length:=by unfold aJ;split<;>simp
theorem ajF:(af (.mk 5 n a f wn wk [x,y,z] ns)).length=(af x).length+(af y).length+(af z).length+3:=by
 rw[bN];show ([[105,102]]++af x++[[116,104,101,110]]++af y++[[101,108,115,101]]++af z).length=_
 grind
theorem ajG:(af (.mk 6 n a f wn wk [x,y] [p])).length=(af x).length+(af y).length+4:=by
 rw[bN];show ([[108,101,116],p,[61]]++af x++[[105,110]]++af y).length=_
 grind
def aeN:(af (.mk 12 n a f wn wk [x,y,z] [p,q])).length=(af x).length+(af y).length+(af z).length+7:=by
 rw[bN];show ([[102,111,108,100],p,[44],q,[61]]++af y++[[111,118,101,114]]++af x++[[100,111]]++af z).length=_
 simp only[List.length_append,List.length_cons,List.length_nil];omega
theorem aeL:(af (.mk 10 n a f wn wk (x :: ks) ns)).length<=(aJ a).length+(af x).length+5+(wS ks+3*ks.length-1):=by
 have:=WU ks ns
 rw[bN];show ([[109,97,116,99,104]]++aJ a++[[40]]++af x++[[41]]++[[123]]++av (jl ns (ks.map fun t=>(af t,bH t)))++[[125]]).length<=_
 grind
theorem ajH:(af (.mk 7 n a f wn wk ks ns)).length<=(aJ a).length+2+(wS ks+2*ks.length-1):=by
 have:=agH ns ks
 rw[bN];show (aJ a++[[123]]++av (List.zipWith (fun s (x:List aB × Int)=>[s,[61]]++x.1) ns (ks.map fun t=>(af t,bH t)))++[[125]]).length<=_
 grind
theorem ajD:(af (.mk 3 n a f wn wk ks ns)).length<=(aJ a).length+2+(wS ks-1):=by
 have:=GA ks
 rw[bN];show (gn 3 n a f (.mk wn wk) ns (ks.map fun t=>(af t,bH t))).length<=_
 rw[b3,avT,show ((fun x:List aB × Int=>x.1) ∘ fun t=>(af t,bH t))=af from rfl]
 grind
theorem aeM:(af (.mk 11 n a f wn wk ks ns)).length<=(bQ (.mk wn wk)).length+5+(wS ks-1):=by
 have:=GA ks
 rw[bN];show (gn 11 n a f (.mk wn wk) ns (ks.map fun t=>(af t,bH t))).length<=_
 rw[b11,avT,show ((fun x:List aB × Int=>x.1) ∘ fun t=>(af t,bH t))=af from rfl]
 grind
theorem ajI:(af (.mk 8 n a f wn wk [x] ns)).length=(aJ a).length+(af x).length+4:=by
 rw[bN];show (aJ a++[[58],f]++[[91]]++af x++[[93]]).length=_
 grind
theorem ajJ:(af (.mk 9 n a f wn wk [x] ns)).length=(aJ a).length+(af x).length+4:=by
 rw[bN];show (aJ a++[[58],f]++[[40]]++af x++[[41]]).length=_
 grind
theorem abJ:(af (.mk 4 n a f wn wk [x] ns)).length=(gH (af x,bH x) 7).length+1:=by
 rw[bN];show ([(da n).1]++gH (af x,bH x) 7).length=_
 grind
theorem ajE:(af (.mk 4 n a f wn wk [x,y] ns)).length=(gH (af x,bH x) (if (da n).2=3 then 4 else (da n).2)).length+(gH (af y,bH y) ((da n).2+1)).length+1:=by
 rw[bN];show (gH (af x,bH x) (if (da n).2=3 then 4 else (da n).2)++[(da n).1]++gH (af y,bH y) ((da n).2+1)).length=_
 grind
def IV{t:Tm}{a b:Nat}(h:k<=bH t)(h2:(af t).length+a<=b):(gH (af t,bH t) k).length+a<=b:=by rw[Yr _ h];exact h2
def abH:(af (.mk 0 n a f wn wk ks ns)).length=if n<0 then 2 else 1:=by
 rw[bN];show (gn 0 n a f (.mk wn wk) ns _).length=_
 rw[b0];split<;>rfl
def abI:(af (.mk 1 n a f wn wk ks ns)).length=1:=by rw[bN];rfl
def ajC:(af (.mk 2 n a f wn wk ks ns)).length=1:=by rw[bN];rfl
end
def Xw(hE:Lp tk 0 E)(hB:Lp tk 1 B):Lp tk 0 (uu (az tk) E B):=by
 intro s r h hb;unfold uu at h;cases h1:(pk (az tk) s==LD) with
 | true =>
  rw[h1,cond_true,auQ] at h;obtain⟨a,ha,h⟩:=h;rw[auQ] at h;obtain⟨b,j7,h⟩:=h;rw[auP] at h;obtain⟨c,hc,rfl⟩:=h;obtain⟨⟨z,ez,pz,lz⟩,bb⟩:=sP hE hc hb;obtain⟨⟨y,ey,py,ly⟩,ba⟩:=sP hE j7 bb;obtain⟨x,ex,px,lx⟩:=yK hE ha ba;have MO:s.up.i=s.i+1:=rfl;refine⟨?_,IV (axS (0:Int)) (by show (af (.mk 5 0 [] [] [] [] c.1 [])).length+s.i<=c.2.i;rw[ez,ey,ex];show (af (.mk 5 0 [] [] [] [] [x,y,z] [])).length+s.i<=c.2.i;rw[ajF];omega)⟩
  show ay (.mk 5 0 [] [] [] [] c.1 [])=true
  rw[ez,ey,ex,Vh rfl rfl]
  show (true&&List.all ([]++[x]++[y]++[z]) ay)=true
  simp[px,py,pz]
 | false =>
  rw[h1,cond_false] at h;cases h2:(pk (az tk) s==B4) with
  | true =>
   rw[h2,cond_true,auQ] at h;obtain⟨a,ha,h⟩:=h;rw[auP] at h;obtain⟨c,hc,rfl⟩:=h;obtain⟨⟨y,ey,py,ly⟩,ba⟩:=sP hE hc hb;obtain⟨⟨x,ex,px,lx⟩,bn⟩:=sP hE ha ba;have hn:=(iK bn).2.1;have MO:s.up.i=s.i+1:=rfl;have hni:=mw bn;refine⟨?_,IV (axS (0:Int)) (by show (af (.mk 6 0 [] [] [] [] c.1 [(aL (az tk) s.up).1])).length+s.i<=c.2.i;rw[ey,ex];show (af (.mk 6 0 [] [] [] [] [x,y] [(aL (az tk) s.up).1])).length+s.i<=c.2.i;rw[ajG];omega)⟩
   show ay (.mk 6 0 [] [] [] [] c.1 [(aL (az tk) s.up).1])=true
   rw[ey,ex,Vi rfl rfl]
   show (true&&List.all [(aL (az tk) s.up).1] isWord&&List.all ([]++[x]++[y]) ay)=true
   simp[px,py,hn]
  | false =>
   rw[h2,cond_false] at h;cases h3:(pk (az tk) s==wK) with
   | true =>
    rw[h3,cond_true,auQ] at h;obtain⟨a,ha,h⟩:=h;rw[auQ] at h;obtain⟨b,j7,h⟩:=h;rw[auP] at h;obtain⟨c,hc,rfl⟩:=h;obtain⟨⟨z,ez,pz,lz⟩,bb⟩:=sP hE hc hb;obtain⟨⟨y,ey,py,ly⟩,ba⟩:=sP hE j7 bb;obtain⟨⟨x,ex,px,lx⟩,bn⟩:=sP hE ha ba;have hf:∃ u v,(v8 (az tk) s.up).1=[u,v]/\isWord u=true/\isWord v=true/\s.up.i+3<=(v8 (az tk) s.up).2.i:=by
     unfold v8 at bn ⊢;cases gT:(aY (az tk) [44] (aL (az tk) s.up).2).bad with
     | true=>rw[gT,cond_true] at bn;rw[gT] at bn;cases bn
     | false =>
      rw[gT,cond_false] at bn;have i1:=mw bn;have i2:=jD gT;have i3:=mw (fu gT).1;exact⟨_,_,rfl,(iK (fu gT).1).2.1,(iK bn).2.1,by simp only[cond_false];omega⟩
    obtain⟨u,v,ef,pu,pv,lf⟩:=hf;have MO:s.up.i=s.i+1:=rfl;have XM:c.2.bad=false:=hb;refine⟨?_,IV (axS (0:Int)) (by show (af (.mk 12 0 [] [] [] [] (bif c.2.bad then c.1 else DR c.1) (v8 (az tk) s.up).1)).length+s.i<=c.2.i;rw[XM,cond_false,ez,ey,ex,ef];show (af (.mk 12 0 [] [] [] [] [y,x,z] [u,v])).length+s.i<=c.2.i;rw[aeN];omega)⟩
    show ay (.mk 12 0 [] [] [] [] (bif c.2.bad then c.1 else DR c.1) (v8 (az tk) s.up).1)=true
    have XM:c.2.bad=false:=hb;rw[XM,cond_false,ez,ey,ex,ef,Nt rfl rfl]
    show (true&&List.all [u,v] isWord&&List.all [y,x,z] ay)=true
    simp[px,py,pz,pu,pv]
   | false =>
    rw[h3,cond_false] at h;exact⟨(hB s r h hb).1,avx (awT (zZ _ a8) _) (hB s r h hb).2⟩
theorem GC(hE:Lp tk 0 E)(gE:iM tk E){c d:Nat} : ∀ (k:Nat) (a:List aB × List Tm) (s:PS) (r:(List aB × List Tm) × PS),qG (az tk) E k a s=some r->r.2.bad=false->(a.1.all isWord=true/\(a.2.all ay=true/\wS a.2+3*a.2.length+c<=s.i+d)/\a.1.length+2=2*a.2.length) ->
  (r.1.1.all isWord=true/\(r.1.2.all ay=true/\wS r.1.2+3*r.1.2.length+c<=r.2.i+1+d)/\r.1.1.length+2=2*r.1.2.length/\2<=r.1.2.length)/\s.bad=false
 | 0,_,_,_,h,_,_=>by cases h
 | k+1,a,s,r,h,hb,hP=>by
  unfold qG at h;rw[auQ] at h;obtain⟨q,hq,h⟩:=h;have step:q.2.bad=false->((a.1++[(aL (az tk) s).1,(aL (az tk) (aL (az tk) s).2).1]).all isWord=true/\((a.2++[q.1]).all ay=true/\wS (a.2++[q.1])+3*(a.2++[q.1]).length+c<=q.2.i+1+d)/\(a.1++[(aL (az tk) s).1,(aL (az tk) (aL (az tk) s).2).1]).length+2=2*(a.2++[q.1]).length/\2<=(a.2++[q.1]).length)/\s.bad=false:=fun CU=>by
   have b0:(aY (az tk) [45,62] (aL (az tk) (aL (az tk) s).2).2).bad=false:=by
    cases hx:(aY (az tk) [45,62] (aL (az tk) (aL (az tk) s).2).2).bad with
    | false=>rfl
    | true=>rw[(gE _ _ hq).bad hx] at CU;cases CU
   have n2:=iK (fu b0).1;have n1:=iK n2.1;obtain⟨p1,p2,p3⟩:=hP;have i1:=jD b0;have i2:=mw (fu b0).1;have i3:=mw n2.1;obtain⟨h1,h2⟩:=hE.ge hq CU
   grind [Pe]
  cases hc:(!q.2.bad&&(pk (az tk) q.2==[44])) with
  | true =>
   simp only[hc,cond_true] at h;simp only[auT,avg] at hc;obtain⟨⟨t1,t2,t3,t4⟩,t5⟩:=step hc.1;exact⟨(GC hE gE k _ _ r h hb ⟨t1,⟨t2.1,by have:q.2.up.i=q.2.i+1:=rfl;have:=t2.2;simp only at this ⊢;omega⟩,t3⟩).1,t5⟩
  | false =>
   grind
theorem UP(hE:Lp tk 0 E)(gE:iM tk E){n:Nat} : ∀ s r,sR (az tk) n E s=some r->r.2.bad=false->ay r.1=true/\(gH (af r.1,bH r.1) 7).length+s.i<=r.2.i+1:=by
 intro s r h hb;unfold sR at h;rw[auQ] at h;obtain⟨q,hq,h⟩:=h;rw[auP] at h;obtain⟨m,hm,rfl⟩:=h;have hmb:=(fu hb).1;have hs:(aY (az tk) [123] (aY (az tk) [41] q.2)).bad=false:=by
  cases hx:(aY (az tk) [123] (aY (az tk) [41] q.2)).bad with
  | false=>rfl
  | true=>rw[(z7 gE n _ _ _ hm).bad hx] at hmb;cases hmb
 have CU:=(fu (fu hs).1).1;have h0:(aY (az tk) [40] (aR (az tk) s).2).bad=false:=by
  cases hx:(aY (az tk) [40] (aR (az tk) s).2).bad with
  | false=>rfl
  | true=>rw[(gE _ _ hq).bad hx] at CU;cases CU
 have hqn:=y4 (fu h0).1;have i1:=jD h0;have i2:=sZ (fu h0).1;have i3:=jD (fu hs).1;have i4:=jD hs;have i5:=jD hb;obtain⟨h1,h2⟩:=hE.ge hq CU;obtain⟨⟨t1,t2,t3,t4⟩, -⟩:=GC hE gE (c:=(aY (az tk) [123] (aY (az tk) [41] q.2)).i) (d:=(af q.1).length+4) n ([],[q.1]) _ m hm hmb ⟨rfl,⟨by simp[h1],by rw[show wS [q.1]=(af q.1).length+1 from rfl];simp only[List.length_cons,List.length_nil];omega⟩,rfl⟩
 obtain⟨t2,t2l⟩:=t2;refine⟨?_,?_⟩
 ·show ay (.mk 10 0 (aR (az tk) s).1 [] [] [] m.1.2 m.1.1)=true
  rw[Ip rfl rfl]
  show (decide (2<=m.1.2.length)&&decide ((m.1.1.length:Int)=2*((m.1.2.length:Int)-1))&&m.1.1.all isWord&&gV (aR (az tk) s).1&&m.1.2.all ay)=true
  grind
 ·refine IV (show (7:Int)<=8 by decide) ?_
  show (af (.mk 10 0 (aR (az tk) s).1 [] [] [] m.1.2 m.1.1)).length+s.i<=(aY (az tk) [125] m.2).i+1
  generalize m.1.2=ks at *;cases ks with
  | nil=>simp at t4
  | cons x ks =>
   grind [aeL,BV]
theorem UB(hE:Lp tk 0 E)(gE:iM tk E){c:Nat}{a:List aB × List Tm}{s:PS}{r:(List aB × List Tm) × PS}(h:FD (az tk) E a s=some r)(hb:r.2.bad=false)(hP:a.1.all isWord=true/\PK 2 c a.2 s/\a.1.length=a.2.length):r.1.1.all isWord=true/\QK 2 c r.1.2 r.2/\r.1.1.length=r.1.2.length:=by
 unfold FD at h;rw[auP] at h;obtain⟨q,hq,rfl⟩:=h;have b0:(aY (az tk) [61] (aL (az tk) s).2).bad=false:=by
  cases hx:(aY (az tk) [61] (aL (az tk) s).2).bad with
  | false=>rfl
  | true =>
   have iJ:q.2.bad=false:=hb;rw[(mg gE hq).bad hx] at iJ;cases iJ
 have n1:=iK (fu b0).1;obtain⟨t,et,pt,lt⟩:=yK hE hq hb;have i1:=jD b0;have i2:=mw (fu b0).1;obtain⟨p1,p2,p3⟩:=hP;refine⟨?_,?_,?_⟩
 ·grind
 ·show QK 2 c q.1 q.2
  rw[et];exact p2.snoc ⟨pt,ah⟩
 ·grind
theorem U1(hE:Lp tk 0 E)(gE:iM tk E){n:Nat} : Lp tk 7 (qH (az tk) n E):=by
 intro s r h hb;unfold qH at h;simp only at h;have qn:(aR (az tk) s).2.bad=false->gV (aR (az tk) s).1=true:=y4;have upb:∀ {w:aB} {p:PS},p.up.bad=false->p.bad=false:=fun h=>h
 cases h1:(pk (az tk) (aR (az tk) s).2==[40]) with
 | true =>
  rw[h1,cond_true,auP] at h;obtain⟨q,hq,rfl⟩:=h;obtain⟨⟨p1,p1l⟩,p2⟩:=BL (P:=PK 0 (aR (az tk) s).2.up.i) (Q:=fun ks s'=>QK 0 (aR (az tk) s).2.up.i ks s'/\(aR (az tk) s).2.up.i<=s'.i) (F:=FK 0 (aR (az tk) s).2.up.i) (fun a s r he hb hP=>by obtain⟨t,et,pt,lt⟩:=yK hE he hb;rw[et];exact⟨hP.snoc ⟨pt,ah⟩,by have:=hP.2;omega⟩) (fun _ _ h=>h.1.up) (fun _ _ h=>h.1.fin h.2) (fun a s r he=>(mg gE he).bad) hq hb ⟨rfl,by rw[An];simp only[List.length_nil];omega⟩ ⟨rfl,by rw[An];simp only[List.length_nil,PS.up];omega⟩
  have i1:=sZ (tk:=tk) p2;have i2:(aR (az tk) s).2.up.i=(aR (az tk) s).2.i+1:=rfl;have i3:=Nx (aR (az tk) s).1;refine⟨?_,IV (show (7:Int)<=8 by decide) (by
   show (af (.mk 3 0 (aR (az tk) s).1 [] [] [] q.1 [])).length+s.i<=q.2.i
   have:=ajD (n:=0) (a:=(aR (az tk) s).1) (f:=[]) (wn:=[]) (wk:=[]) (ns:=[]) (ks:=q.1)
   omega)⟩
  show ay (.mk 3 0 (aR (az tk) s).1 [] [] [] q.1 [])=true
  rw[abO rfl rfl]
  show (gV (aR (az tk) s).1&&q.1.all ay)=true
  rw[qn p2,p1];rfl
 | false =>
  rw[h1,cond_false] at h;cases h2:(pk (az tk) (aR (az tk) s).2==[123]) with
  | true =>
   rw[h2,cond_true,auP] at h;obtain⟨q,hq,rfl⟩:=h;obtain⟨⟨p1,⟨p3,p3l⟩,p4⟩,p2⟩:=BL (P:=fun (a:List aB × List Tm) s'=>a.1.all isWord=true/\PK 2 (aR (az tk) s).2.up.i a.2 s'/\a.1.length=a.2.length) (Q:=fun (a:List aB × List Tm) s'=>a.1.all isWord=true/\QK 2 (aR (az tk) s).2.up.i a.2 s'/\a.1.length=a.2.length/\(aR (az tk) s).2.up.i<=s'.i) (F:=fun (a:List aB × List Tm) s'=>a.1.all isWord=true/\FK 2 (aR (az tk) s).2.up.i a.2 s'/\a.1.length=a.2.length) (fun a s r he hb hP=>by have h1:=UB hE gE he hb hP;have h2:=(BO gE he).i;have h3:=hP.2.1.2;exact⟨h1.1,h1.2.1,h1.2.2,ah⟩) (fun _ _ h=>⟨h.1,h.2.1.up,h.2.2.1⟩) (fun _ _ h=>⟨h.1,h.2.1.fin h.2.2.2,h.2.2.1⟩) (fun a s r he=>(BO gE he).bad) hq hb ⟨rfl,⟨rfl,by rw[An];simp only[List.length_nil];omega⟩,rfl⟩ ⟨rfl,⟨rfl,by rw[An];simp only[List.length_nil,PS.up];omega⟩,rfl⟩
   have i1:=sZ (tk:=tk) p2;have i2:(aR (az tk) s).2.up.i=(aR (az tk) s).2.i+1:=rfl;refine⟨?_,IV (show (7:Int)<=8 by decide) (by
    show (af (.mk 7 0 (aR (az tk) s).1 [] [] [] q.1.2 q.1.1)).length+s.i<=q.2.i
    have:=ajH (n:=0) (a:=(aR (az tk) s).1) (f:=[]) (wn:=[]) (wk:=[]) (ns:=q.1.1) (ks:=q.1.2)
    have i3:=Nx (aR (az tk) s).1;omega)⟩
   show ay (.mk 7 0 (aR (az tk) s).1 [] [] [] q.1.2 q.1.1)=true
   rw[Vj rfl rfl]
   show (decide ((q.1.1.length:Int)=q.1.2.length)&&q.1.1.all isWord&&gV (aR (az tk) s).1&&q.1.2.all ay)=true
   simp_all
  | false =>
   rw[h2,cond_false] at h;cases h3:(pk (az tk) (aR (az tk) s).2==[58]) with
   | true =>
    rw[h3,cond_true] at h;unfold xx at h;cases h4:(pk (az tk) (aL (az tk) (aR (az tk) s).2.up).2==[91]) with
    | true =>
     rw[h4,cond_true,auP] at h;obtain⟨q,hq,rfl⟩:=h;have qb:=(fu hb).1;have nb:(aL (az tk) (aR (az tk) s).2.up).2.bad=false:=by
      cases hx:(aL (az tk) (aR (az tk) s).2.up).2.bad with
      | false=>rfl
      | true=>rw[(gE _ _ hq).bad hx] at qb;cases qb
     have n1:=iK nb;obtain⟨h1,h2⟩:=hE.ge hq qb;have i1:=sZ (tk:=tk) (s:=s) n1.1;have i2:(aR (az tk) s).2.up.i=(aR (az tk) s).2.i+1:=rfl;have i3:=mw nb;have i4:=jD hb;have i5:(aL (az tk) (aR (az tk) s).2.up).2.up.i=(aL (az tk) (aR (az tk) s).2.up).2.i+1:=rfl;refine⟨?_,IV (show (7:Int)<=8 by decide) (by
      show (af (.mk 8 0 (aR (az tk) s).1 (aL (az tk) (aR (az tk) s).2.up).1 [] [] [q.1] [])).length+s.i<=(aY (az tk) [93] q.2).i
      rw[ajI];omega)⟩
     show ay (.mk 8 0 (aR (az tk) s).1 (aL (az tk) (aR (az tk) s).2.up).1 [] [] [q.1] [])=true
     rw[O2 rfl rfl]
     show (true&&gV (aR (az tk) s).1&&isWord (aL (az tk) (aR (az tk) s).2.up).1&&List.all [q.1] ay)=true
     rw[qn n1.1,n1.2.1];simp[h1]
    | false =>
     rw[h4,cond_false,auP] at h;obtain⟨q,hq,rfl⟩:=h;have qb:=(fu hb).1;have nb:(aY (az tk) [40] (aL (az tk) (aR (az tk) s).2.up).2).bad=false:=by
      cases hx:(aY (az tk) [40] (aL (az tk) (aR (az tk) s).2.up).2).bad with
      | false=>rfl
      | true=>rw[(gE _ _ hq).bad hx] at qb;cases qb
     have n1:=iK (fu nb).1;obtain⟨h1,h2⟩:=hE.ge hq qb;have i1:=sZ (tk:=tk) (s:=s) n1.1;have i2:(aR (az tk) s).2.up.i=(aR (az tk) s).2.i+1:=rfl;have i3:=mw (fu nb).1;have i4:=jD hb;have i5:=jD nb;refine⟨?_,IV (show (7:Int)<=8 by decide) (by
      show (af (.mk 9 0 (aR (az tk) s).1 (aL (az tk) (aR (az tk) s).2.up).1 [] [] [q.1] [])).length+s.i<=(aY (az tk) [41] q.2).i
      rw[ajJ];omega)⟩
     show ay (.mk 9 0 (aR (az tk) s).1 (aL (az tk) (aR (az tk) s).2.up).1 [] [] [q.1] [])=true
     rw[O3 rfl rfl]
     show (true&&gV (aR (az tk) s).1&&isWord (aL (az tk) (aR (az tk) s).2.up).1&&List.all [q.1] ay)=true
     rw[qn n1.1,n1.2.1];simp[h1]
   | false =>
    rw[h3,cond_false] at h;cases h4:decide (0<=dD 46 0 (aR (az tk) s).1) with
    | true =>
     rw[h4,cond_true,auR] at h;subst h;cases hb
    | false =>
     rw[h4,cond_false,auR] at h;subst h;have hq:=qn hb;have i1:=sZ (tk:=tk) (s:=s) hb;have i2:=Nx (aR (az tk) s).1;refine⟨?_,IV (show (7:Int)<=8 by decide) (by
      show (af (.mk 2 0 (aR (az tk) s).1 [] [] [] [] [])).length+s.i<=(aR (az tk) s).2.i
      rw[ajC];omega)⟩
     have hix:=zU (aR (az tk) s).1 0
     show ay (.mk 2 0 (aR (az tk) s).1 [] [] [] [] [])=true
     rw[abN rfl rfl]
     show isWord (aR (az tk) s).1=true
     cases hd:(aV (aR (az tk) s).1).2.2 with
     | true =>
      grind
     | false =>
      unfold gV at hq
      grind [uw]
theorem WX(hE:Lp tk 0 E)(gE:iM tk E){n:Nat} : Lp tk 7 (qi (az tk) n E):=by
 intro s r h hb;unfold qi at h;cases h1:decide (0<=fL (pk (az tk) s)) with
 | true =>
  rw[h1,cond_true,auR] at h;subst h;have:=Nj ah hb
  have i1:=U6 hb;refine⟨?_,IV (show (7:Int)<=8 by decide) (by show (af (.mk 0 (jR (az tk) 0 s).1 [] [] [] [] [] [])).length+s.i<=(jR (az tk) 0 s).2.i;rw[abH,if_neg ah];omega)⟩
  show ay (.mk 0 (jR (az tk) 0 s).1 [] [] [] [] [] [])=true
  rw[Vf rfl rfl]
  show decide (-1099511627776<=(jR (az tk) 0 s).1/\(jR (az tk) 0 s).1<=1099511627776)=true
  rw[decide_eq_true];omega
 | false =>
 rw[h1,cond_false] at h;cases h2:(pk (az tk) s==[45]) with
 | true =>
  rw[h2,cond_true,auR] at h;subst h;have:=Nj ah hb
  have i1:=U6 hb;have i2:s.up.i=s.i+1:=rfl;refine⟨?_,IV (show (7:Int)<=8 by decide) (by show (af (.mk 0 (-(jR (az tk) 1 s.up).1) [] [] [] [] [] [])).length+s.i<=(jR (az tk) 1 s.up).2.i;rw[abH,if_pos ah];omega)⟩
  show ay (.mk 0 (-(jR (az tk) 1 s.up).1) [] [] [] [] [] [])=true
  rw[Vf rfl rfl]
  show decide (-1099511627776<=-(jR (az tk) 1 s.up).1/\-(jR (az tk) 1 s.up).1<=1099511627776)=true
  rw[decide_eq_true];omega
 | false =>
 rw[h2,cond_false] at h;cases h3:(pk (az tk) s==zA) with
 | true =>
  rw[h3,cond_true,auR] at h;subst h;exact⟨(by decide:ay (.mk 1 1 [] [] [] [] [] [])=true),IV (show (7:Int)<=8 by decide) (by show (af (.mk 1 1 [] [] [] [] [] [])).length+s.i<=s.i+1;rw[abI];omega)⟩
 | false =>
 rw[h3,cond_false] at h;cases h4:(pk (az tk) s==u6) with
 | true =>
  rw[h4,cond_true,auR] at h;subst h;exact⟨(by decide:ay (.mk 1 0 [] [] [] [] [] [])=true),IV (show (7:Int)<=8 by decide) (by show (af (.mk 1 0 [] [] [] [] [] [])).length+s.i<=s.i+1;rw[abI];omega)⟩
 | false =>
 rw[h4,cond_false] at h;cases h5:(pk (az tk) s==[40]) with
 | true =>
  rw[h5,cond_true,auP] at h;obtain⟨q,hq,rfl⟩:=h;obtain⟨h1,h2⟩:=hE.ge hq (fu hb).1;have i1:=jD hb;have i2:s.up.i=s.i+1:=rfl
  grind [Yw]
 | false =>
 rw[h5,cond_false] at h;cases h6:(pk (az tk) s==ki) with
 | true =>
  rw[h6,cond_true,auQ] at h;obtain⟨w,hw,h⟩:=h;rw[auP] at h;obtain⟨q,hq,rfl⟩:=h;obtain⟨⟨p1,p1l⟩,p2⟩:=BL (P:=PK 0 (aY (az tk) [91] w.2).i) (Q:=fun ks s'=>QK 0 (aY (az tk) [91] w.2).i ks s'/\(aY (az tk) [91] w.2).i<=s'.i) (F:=FK 0 (aY (az tk) [91] w.2).i) (fun a s r he hb hP=>by obtain⟨t,et,pt,lt⟩:=yK hE he hb;rw[et];exact⟨hP.snoc ⟨pt,ah⟩,by have:=hP.2;omega⟩) (fun _ _ h=>h.1.up) (fun _ _ h=>h.1.fin h.2) (fun a s r he=>(mg gE he).bad) hq hb ⟨rfl,by rw[An];simp only[List.length_nil];omega⟩ ⟨rfl,by rw[An];simp only[List.length_nil,PS.up];omega⟩
  have pw:=Mi hw (fu p2).1;have i1:=PU hw (fu p2).1;have i2:=jD p2;have i3:s.up.i=s.i+1:=rfl;have hwk:(bQ (.mk w.1.name w.1.kids)).length=(bQ w.1).length:=by cases w.1;rfl
  refine⟨?_,IV (show (7:Int)<=8 by decide) (by
   show (af (.mk 11 0 [] [] w.1.name w.1.kids q.1 [])).length+s.i<=q.2.i
   have:=aeM (n:=0) (a:=[]) (f:=[]) (wn:=w.1.name) (wk:=w.1.kids) (ns:=[]) (ks:=q.1)
   omega)⟩
  show ay (.mk 11 0 [] [] w.1.name w.1.kids q.1 [])=true
  rw[Vg rfl rfl]
  show (bX (.mk w.1.name w.1.kids)&&q.1.all ay)=true
  have:Wd.mk w.1.name w.1.kids=w.1:=by cases w.1;rfl
  rw[this,pw,p1];rfl
 | false =>
 rw[h6,cond_false] at h;cases h7:(pk (az tk) s==rV) with
 | true =>
  rw[h7,cond_true] at h;obtain⟨h1,h2⟩:=UP hE gE _ _ h hb;have i1:s.up.i=s.i+1:=rfl;exact⟨h1,ah⟩
 | false =>
  rw[h7,cond_false] at h;exact U1 hE gE _ _ h hb
def aj1{w:aB}{l:Int}(h:Bo w=some (o,l)):0<=o/\o<=11/\(da o).2≠7/\(da o).2=l:=by
 unfold Bo at h;rw[auQ] at h;obtain⟨r,hr,h⟩:=h;have hm:=List.mem_of_find?_eq_some hr;simp only[mR,avi,avE,awk] at hm
 rcases hm with rfl|rfl|rfl|rfl|rfl|rfl|rfl|rfl|rfl|rfl
 all_goals
  simp only[auR,auV] at h;obtain⟨rfl,rfl⟩:=h
  decide
theorem ajK{l:Int}{a f wn:aB}{wk:List Wd}{ks:List Tm}{ns:List aB}(h:(da o).2=l)(hl:decide (l=lv)=true):lv<=bH (.mk 4 o a f wn wk ks ns):=by
 show lv<=(da o).2
 grind
theorem N8(hB:Lp tk (lv+1) B)(gB:iM tk B){c:Nat} : ∀ (k:Nat) (t:Tm) (s:PS) (r:Tm × PS),xV (az tk) B lv k t s=some r->r.2.bad=false->ay t=true/\(gH (af t,bH t) (if lv=3 then 4 else lv)).length+c<=s.i->ay r.1=true/\(gH (af r.1,bH r.1) lv).length+c<=r.2.i
 | 0,_,_,_,h,_,_=>by cases h
 | k+1,t,s,r,h,hb,ht=>by
  have ht0:ay t=true/\(gH (af t,bH t) lv).length+c<=s.i:=⟨ht.1,avx (awT (zZ _ (by split<;>omega)) _) ht.2⟩
  unfold xV at h;cases hs:s.bad with
  | true=>rw[hs,cond_true,auR] at h;subst h;exact ht0
  | false =>
   rw[hs,cond_false] at h;split at h
   ·grind
   ·rename_i o l ho
    cases hl:decide (l=lv) with
    | false=>rw[hl,cond_false,auR] at h;subst h;exact ht0
    | true =>
     rw[hl,cond_true,auQ] at h;obtain⟨q,hq,h⟩:=h;obtain⟨o1,o2,o3,o4⟩:=aj1 ho;have mk:q.2.bad=false->ay (.mk 4 o [] [] [] [] [t,q.1] [])=true/\(af (.mk 4 o [] [] [] [] [t,q.1] [])).length+c<=q.2.i:=fun CU=>by
      obtain⟨h1,h2⟩:=hB _ _ hq CU;have i1:s.up.i=s.i+1:=rfl;have tQ:l=lv:=cT hl;subst tQ;refine⟨?_,(by rw[ajE,o4];have:=ht.2;omega)⟩
      rw[GQ rfl rfl]
      show (decide (0<=o/\o<=11)&&jv (.mk 4 o [] [] [] [] [t,q.1] []) (if (da o).2=7 then 1 else 2) 0&&List.all [t,q.1] ay)=true
      rw[if_neg o3,decide_eq_true ⟨o1,o2⟩];simp[ht.1,h1,jv,Tm.kids,Tm.names]
     cases h3:decide (lv=3) with
     | true =>
      rw[h3,cond_true,auR] at h;subst h;exact⟨(mk hb).1,IV (ajK o4 hl) (mk hb).2⟩
     | false =>
      rw[h3,cond_false] at h;have CU:q.2.bad=false:=by
       cases hx:q.2.bad with
       | false=>rfl
       | true=>rw[(BM gB k _ _ _ h).bad hx] at hb;cases hb
      exact N8 hB gB k _ _ r h hb ⟨(mk CU).1,by rw[if_neg (cT h3)];exact IV (ajK o4 hl) (mk CU).2⟩
def GM:∀ (n l:Nat),l<=7->Lp tk l (pE (az tk) n l)
 | 0,l,_=>fun s r h=>by cases h
 | n+1,l,hl=>by
  have h0:=GM n 0 ah;have g0:=jY (tk:=tk) n 0
  by_cases hl0:l=0
  ·subst hl0
   exact Xw h0 (GM n 1 ah)
  by_cases hl7:l=7
  ·subst hl7
   intro s r h hb
   replace h:(bif pk (az tk) s==vU then (pE (az tk) n 7 s.up).map fun r=>(.mk 4 9 [] [] [] [] [r.1] [],r.2)
    else bif pk (az tk) s==xQ then (pE (az tk) n 7 s.up).map fun r=>(.mk 4 11 [] [] [] [] [r.1] [],r.2)
    else qi (az tk) n (pE (az tk) n 0) s)=some r:=h
   cases h1:(pk (az tk) s==vU) with
   | true =>
    rw[h1,cond_true,auP] at h;obtain⟨q,hq,rfl⟩:=h;have:=GM n 7 ah _ _ hq hb
    have i1:s.up.i=s.i+1:=rfl;refine⟨?_,IV (show (7:Int)<=7 by decide) (by show (af (.mk 4 9 [] [] [] [] [q.1] [])).length+s.i<=q.2.i;rw[abJ];have h2:(gH (af q.1,bH q.1) 7).length+s.up.i<=q.2.i:=this.2;omega)⟩
    show ay (.mk 4 9 [] [] [] [] [q.1] [])=true
    rw[GQ rfl rfl]
    show (true&&true&&List.all [q.1] ay)=true
    simp[this.1]
   | false =>
    rw[h1,cond_false] at h;cases h2:(pk (az tk) s==xQ) with
    | true =>
     rw[h2,cond_true,auP] at h;obtain⟨q,hq,rfl⟩:=h;have:=GM n 7 ah _ _ hq hb
     have i1:s.up.i=s.i+1:=rfl;refine⟨?_,IV (show (7:Int)<=7 by decide) (by show (af (.mk 4 11 [] [] [] [] [q.1] [])).length+s.i<=q.2.i;rw[abJ];have h2:(gH (af q.1,bH q.1) 7).length+s.up.i<=q.2.i:=this.2;omega)⟩
     show ay (.mk 4 11 [] [] [] [] [q.1] [])=true
     rw[GQ rfl rfl]
     show (true&&true&&List.all [q.1] ay)=true
     simp[this.1]
    | false =>
     rw[h2,cond_false] at h;exact WX h0 g0 _ _ h hb
  intro s r h hb;rw[Vb ah ah,auQ] at h;obtain⟨q,hq,h⟩:=h;have hB:=GM n (l+1) ah;have gB:=jY (tk:=tk) n (l+1);have CU:q.2.bad=false:=by
   cases hx:q.2.bad with
   | false=>rfl
   | true=>rw[(BM gB n _ _ _ h).bad hx] at hb;cases hb
  exact N8 hB gB n _ _ r h hb ⟨(hB _ _ hq CU).1,avx (awT (zZ _ (by split<;>omega)) _) (hB _ _ hq CU).2⟩
structure OkF (f:Fm):Prop where
 k:0<=f.kind/\f.kind<=5
 p:gP f=true
 l:f.layout=[]
 n:(fj f).length<=8192
def sL(kd:Int)(l:List Fd):Nat:=(l.map fun u=>(cc kd u).length+1).sum
def ZL{l:List Fd} : sL kd (l++[u])=sL kd l+((cc kd u).length+1):=by unfold sL;simp
theorem V2{n:Nat}{a:List Fd}{s:PS}{r:List Fd × PS}(h:rM (az tk) n kd a s=some r)(hb:r.2.bad=false){c:Nat}(hP:a.all (fB kd)=true/\sL kd a+c<=s.i):r.1.all (fB kd)=true/\sL kd r.1+c<=r.2.i+1:=by
 unfold rM at h;rw[auP] at h;obtain⟨w,hw,h⟩:=h;have core:∀ (m:Int) (z:Nat),w.2.bad=false->0<=m->m<=1099511627776->(kd=4\/m=0)->(if kd=4 then z=w.2.i+1 else z=w.2.i)->(a++[(⟨(aL (az tk) s).1,w.1.name,w.1.kids,m⟩:Fd)]).all (fB kd)=true/\sL kd (a++[(⟨(aL (az tk) s).1,w.1.name,w.1.kids,m⟩:Fd)])+c<=z+1:=fun m z MP h1 h2 h3 hz=>by
  obtain⟨hP,hPl⟩:=hP;have hn:(aL (az tk) s).2.bad=false:=by
   cases hx:(aL (az tk) s).2.bad with
   | false=>rfl
   | true=>rw[(mh _ _ _ hw).bad hx] at MP;cases MP
  have pw:=BX n _ w hw MP;have:Wd.mk w.1.name w.1.kids=w.1:=by cases w.1;rfl
  have i1:=mw hn;have i2:=IL n _ w hw MP;refine⟨?_,(by
   rw[ZL];unfold cc;rw[this];split at hz
   ·rename_i h4
    rw[if_pos h4];simp only[List.length_append,List.length_cons,List.length_nil];omega
   ·rename_i h4
    rw[if_neg h4];simp only[List.length_append,List.length_cons,List.length_nil];omega)⟩
  rw[awI,hP];simp only[avv,List.all_cons,List.all_nil,avI];unfold fB;simp only[(iK hn).2.1,this,pw,avv]
  grind
 cases h4:decide (kd=4) with
 | true =>
  rw[h4,cond_true] at h;subst h;have hk:kd=4:=cT h4;obtain⟨n1,n2⟩:=Nj ah hb;have MP:w.2.bad=false:=by
   cases hx:w.2.bad with
   | false=>rfl
   | true=>rw[(Ih (tk:=tk) ah).bad hx] at hb;cases hb
  exact core _ _ MP n1 n2 (.inl hk) (by rw[if_pos hk];exact U6 hb)
 | false =>
  rw[h4,cond_false] at h;subst h
  simp_all
theorem XE{n:Nat}{s:PS}{r:Fm × PS}(h:tB (az tk) n (pE (az tk) n 0) s=some r)(hb:r.2.bad=false):(fj r.1).length+s.i<=r.2.i/\(r.2.i<=8192->OkF r.1):=by
 suffices hx:(fj r.1).length+s.i<=r.2.i/\(0<=r.1.kind/\r.1.kind<=5)/\gP r.1=true/\r.1.layout=[] from ⟨hx.1,fun MK=>⟨hx.2.1,hx.2.2.1,hx.2.2.2,by have:=hx.1;omega⟩⟩
 unfold tB at h;simp only at h;have hk5:mP (pk (az tk) s) fI 0<=5:=by
  have key:∀ (w:aB) (l:List aB) (i:Nat),mP w l i<(i:Int)+l.length:=by
   intro w l
   induction l with
   | nil=>intro i;unfold mP;simp;omega
   | cons a l ih =>
    intro i;unfold mP
    grind
  have:=key (pk (az tk) s) fI 0
  have hl:fI.length=6:=rfl;rw[hl] at this;omega
 cases hk:decide (mP (pk (az tk) s) fI 0<0) with
 | true =>
  rw[hk,cond_true,auR] at h;subst h;cases hb
 | false =>
  rw[hk,cond_false] at h;have zh:0<=mP (pk (az tk) s) fI 0:=cT hk;generalize mP (pk (az tk) s) fI 0=k at *;simp only[auQ] at h;obtain⟨sl,ri,h⟩:=h;have slp:sl.2.bad=false->sl.1.all (fB k)=true/\isWord (aL (az tk) s.up).1=true/\sL k sl.1-1+4+s.i<=sl.2.i:=fun j7=>by
   obtain⟨⟨p1,p1l⟩,p2⟩:=BL (P:=fun (a:List Fd) s'=>a.all (fB k)=true/\sL k a+(aY (az tk) [40] (aL (az tk) s.up).2).i<=s'.i) (Q:=fun (a:List Fd) s'=>(a.all (fB k)=true/\sL k a+(aY (az tk) [40] (aL (az tk) s.up).2).i<=s'.i+1)/\(aY (az tk) [40] (aL (az tk) s.up).2).i<=s'.i) (F:=fun (a:List Fd) s'=>a.all (fB k)=true/\sL k a-1+1+(aY (az tk) [40] (aL (az tk) s.up).2).i<=s'.i) (fun a s r he hb hP=>⟨V2 he hb hP,by have:=(sQ he).i;have:=hP.2;omega⟩) (fun a s h=>⟨h.1.1,by have:s.up.i=s.i+1:=rfl;have:=h.1.2;omega⟩) (fun a s h=>⟨h.1.1,by have:s.up.i=s.i+1:=rfl;have h1:=h.1.2;have h2:=h.2;omega⟩) (fun a s r he=>(sQ he).bad) ri j7 ⟨rfl,by simp[sL]⟩ ⟨rfl,by simp[sL,PS.up];omega⟩
   have i1:=jD p2;have i2:=mw (fu p2).1;have i3:s.up.i=s.i+1:=rfl;exact⟨p1,(iK (fu p2).1).2.1,ah⟩
  cases h2:(decide (k=0) || decide (k=1)) with
  | true =>
   rw[h2,cond_true,auR] at h;subst h;obtain⟨p1,p2,p3⟩:=slp hb;refine⟨(by
    have hl:=ry (xs:=sl.1.map (cc k)) (n:=sL k sl.1) (by rw[avT];exact Nat.le_refl _)
    have h01:k=0\/k=1:=cT h2;unfold fj
    show ([_,_,[40]]++av (sl.1.map (cc k))++[[41]]++(if k=0\/k=1 then [] else _)).length+s.i<=sl.2.i
    rw[if_pos h01];simp only[List.length_append,List.length_cons,List.length_nil];omega),⟨zh,hk5⟩,?_,rfl⟩
   show (isWord (aL (az tk) s.up).1&&sl.1.all (fB k)&&bif decide (k=0) || decide (k=1) then pZ [] []&&gX tm0 else _)=true
   rw[h2,p1,p2];rfl
  | false =>
   rw[h2,cond_false,auQ] at h;obtain⟨w,hw,h⟩:=h;rw[auP] at h;obtain⟨b,xJ,rfl⟩:=h;have I2:(aY (az tk) [61] w.2).bad=false:=by
    cases hx:(aY (az tk) [61] w.2).bad with
    | false=>rfl
    | true =>
     have iJ:b.2.bad=false:=hb;rw[(jY (tk:=tk) n 0 _ _ xJ).bad hx] at iJ;cases iJ
   have MP:=(fu I2).1;have an3:sl.2.bad=false:=by
    cases hx:sl.2.bad with
    | false=>rfl
    | true=>rw[(mh _ _ _ hw).bad hx] at MP;cases MP
   obtain⟨p1,p2,p3⟩:=slp an3;have pw:=BX n _ w hw MP;have pb:=(GM n 0 ah).ge xJ hb;have:Wd.mk w.1.name w.1.kids=w.1:=by cases w.1;rfl
   have i1:=IL n _ w hw MP;have i2:=jD I2;have h01:¬ (k=0\/k=1):=cT h2;refine⟨(by
    have hl:=ry (xs:=sl.1.map (cc k)) (n:=sL k sl.1) (by rw[avT];exact Nat.le_refl _)
    unfold fj
    show ([_,_,[40]]++av (sl.1.map (cc k))++[[41]]++(if k=0\/k=1 then [] else bQ (.mk w.1.name w.1.kids)++[[61]]++af b.1)).length+s.i<=b.2.i
    rw[if_neg h01,this];have w5:=pb.2;simp only[List.length_append,List.length_cons,List.length_nil];omega),⟨zh,hk5⟩,?_,rfl⟩
   show (isWord (aL (az tk) s.up).1&&sl.1.all (fB k)&&bif decide (k=0) || decide (k=1) then _ else bX (.mk w.1.name w.1.kids)&&ay b.1)=true
   grind
def Fit(fs:List Fm)(es:List Nat):Prop:=es.length=fs.length+1/\∀ i (f:Fm),fs[i]?=some f->(fj f).length+es.getD i 0<=es.getD (i+1) 0
theorem Fit.snoc{fs:List Fm}{es:List Nat}{f:Fm}{e:Nat}(h:Fit fs es)(hf:(fj f).length+es.getD fs.length 0<=e):Fit (fs++[f]) (es++[e]):=by
 obtain⟨h1,h2⟩:=h;refine⟨by simp[h1],fun i g hg=>?_⟩
 grind
theorem Ob{n:Nat} : ∀ (k:Nat) (a:List Fm × List Nat) (s:PS) (r:(List Fm × List Nat) × PS),o8 (az tk) n k a s=some r->r.2.bad=false->s.i<=tk.length->Fit a.1 a.2/\(tk.length<=8192->∀ f∈a.1,OkF f)/\a.2.getD a.1.length 0=s.i->Fit r.1.1 r.1.2/\(tk.length<=8192->∀ f∈r.1.1,OkF f)/\r.1.2.getD r.1.1.length 0=r.2.i/\tk.length<=r.2.i
 | 0,_,_,_,h,_,_,_=>by cases h
 | k+1,a,s,r,h,hb,hsi,hP=>by
  unfold o8 at h;cases hc:(!s.bad&&Nat.blt s.i (az tk).length) with
  | false =>
   rw[hc,cond_false,auR] at h;subst h;refine⟨hP.1,hP.2.1,hP.2.2,?_⟩;have hbs:s.bad=false:=hb;rw[hbs] at hc
   simpa [az,<- aw9,avh] using hc
  | true =>
   rw[hc,cond_true,auQ] at h;obtain⟨⟨f,s2⟩,hf,h⟩:=h;have j7:s2.bad=false:=by
    cases xJ:s2.bad with
    | false=>rfl
    | true =>
     match k with
     | 0=>cases h
     | k+1 =>
      unfold o8 at h
      grind
   have hle:=(Ig (jY (tk:=tk) n 0) hf).le hsi;obtain⟨f1,f2⟩:=XE hf j7;refine Ob k _ _ r h hb hle ⟨hP.1.snoc (by rw[hP.2.2];exact f1),fun qq g hg=>?_,?_⟩
   ·grind
   ·show (a.2++[s2.i]).getD (a.1++[f]).length 0=s2.i
    rw[List.getD_eq_getElem?_getD,show (a.1++[f]).length=a.2.length by rw[hP.1.1];simp,List.getElem?_append_right (Nat.le_refl _),awG]
    rfl
def KW{n:Nat}{q:(aB × List aB × List Fm × List Nat) × PS}(h:wy (az tk) n=some q)(hb:q.2.bad=false):Fit q.1.2.2.1 q.1.2.2.2/\(tk.length<=8192->∀ f∈q.1.2.2.1,OkF f)/\q.1.2.2.2.getD q.1.2.2.1.length 0=q.2.i/\tk.length<=q.2.i:=by
 unfold wy at h;simp only[auQ,auP] at h;obtain⟨u,hu,d,hd,rfl⟩:=h;exact Ob n _ _ d hd hb (((cU a8).tr (fJ.tr (yQ _ _ _ _ hu))).le (Nat.zero_le _)) ⟨⟨rfl,fun i f hf=>by simp at hf⟩,fun _ f hf=>(by cases hf),rfl⟩
def ZE{n:Nat}(qq:tk.length<=8192){q:(aB × List aB × List Fm × List Nat) × PS}(h:wy (az tk) n=some q)(hb:q.2.bad=false):∀ f∈q.1.2.2.1,OkF f:=(KW h hb).2.1 qq
end
end
def xS(mm:Nat)(K:ae)(f:FuncId)(args:List AV)(jq:List aB):Prop :=
 ∀ l,l.length+jq.length<=9000000->aj A f args (cI mm l false K)=some (.undef,some ⟨cI mm (l++jq) false K,mm⟩)
def mS(t:Tm):Prop:=ay t=true/\∀ (mm:Nat) (K:ae),PW mm K->xS mm K 66 [.ref mm 0,.agg (aK t)] (af t)
def ak8{f:FuncId}{args:List AV}{jq:List aB}{n:Nat}(h:qP mm K f args true jq n)(hn:n<=jq.length+1000000):xS mm K f args jq:=by
 intro l hl;obtain⟨l',e,t1,n1⟩:=h l false ah;rw[t1 rfl] at e;exact e
def MX{t:Tm}(ht:mS t)(least:Int)(hP:PW mm K):xS mm K 129 [.ref mm 0,.agg (aK t),.int .i64 least] (gH (af t,bH t) least):=by
 intro l hl;obtain⟨hp,ht⟩:=ht;have tQ:=fun K=>UL t K
 have Qs:=M6 hp;unfold xS at ht;rw[ai] at tQ ht ⊢;obtain⟨K1,fN,dj,fO,hT,hO⟩:=oC hP t;have aZ:=hP.lt;unfold gH at hl ⊢;simp only at hl ⊢;rw[<- Qs] at hl ⊢
 by_cases hc:C9 t<least
 ·rw[if_pos hc] at hl ⊢
  simp only[List.length_append,List.length_cons,List.length_nil] at hl;have e1:=dE fN [[40]] l false ag ko;have e2:=ht mm K1 fN (l++[[40]]) ko;have e3:=dE fN [[41]] (l++[[40]]++af t) false ag ko;rw[tT] at e1 e3;have ho:=hO (l++[[40]]++af t++[[41]]) false;rw[show l++([[40]]++af t++[[41]])=l++[[40]]++af t++[[41]] by simp]
  refine cW Ul.eq_1 ?_;simp(disch:=omega)only[aO,aa,simprocAttr,dj,fO,tQ,e1,e2,e3,hT,ho,au4,bw,ab]
 ·rw[if_neg hc] at hl ⊢
  have e2:=ht mm K1 fN l hl;have ho:=hO (l++af t) false;refine cW Ul.eq_1 ?_;simp(disch:=omega)only[aO,aa,simprocAttr,dj,fO,tQ,e2,hT,ho,au4,bw,ab]
def QT:∀ (xs:List (List aB)) (y:List aB),(av xs).length<=(av (xs++[y])).length:=by
 intro xs y;rw[jH];split
 ·rename_i h;rw[h];simp[av]
 ·simp
def abD{ks:List Tm} : ∀ (d i:Nat),(av (uI tb ks i)).length<=(av (uI tb ks (i+d))).length
 | 0,i=>Nat.le_refl _
 | d+1,i=>avx (abD d i) (by rw[show i+(d+1)=i+d+1 by omega,C5];exact QT _ _)
def Pn(mm:Nat)(K:ae)(fb:FuncId)(cs:List AV)(i:Nat)(jq:List aB):Prop :=
 ∀ l,l.length+jq.length<=9000000->∃ c,aj A fb (.int .i64 i :: cs) (cI mm l false K)=some (.undef,c)/\(c=some ⟨cI mm (l++jq) false K,mm⟩\/c=none/\jq=[])
def BP{ks:List Tm}{fb:FuncId}(hP:PW mm K)(gG:∀ u∈ks,mS u)(Ft:ks.length<=9000000)(zh:0<ks.length)(hb:∀ i,i<ks.length->Pn mm K fb cs i (tb i)) :
  xS mm K 105 [.ref mm 0,.slice (aC ks) false,.func (.func fb) [] cs] (av (uI tb ks ks.length)):=by
 intro l hl;have aZ:=hP.lt;refine cW Ue.eq_1 ?_;simp(disch:=omega)only[aO,aa,simprocAttr,cR,bw];refine cj ks.length 0 (fun i s=>∃ T lo g,s=⟨T,cI mm (l++av (uI tb ks i)) false K,lo,g⟩/\(lo=mm\/lo=K.length)/\(i=0\/lo=mm)/\T 0=.ref mm 0/\T 2=.func (.func fb) [] cs/\T 8=.slice (aC ks) false/\T 9=.int .i64 ks.length/\T 10=.int .i64 i)
  (fun s=>∃ T g,s=⟨T,cI mm (l++av (uI tb ks ks.length)) false K,mm,g⟩) (fun _=>False) ?_ ?_ (fun _ h=>h.elim) 0 _ ah ?_
 ·rintro i s hi ⟨T,lo,g,rfl,we,qD,q0,q2,q8,q9,I5⟩
  by_cases Bj:i<ks.length
  ·have hx:=auS Bj
   have hm:=avj Bj;have HO:ks.getD i pY=ks[i]:=by rw[List.getD,hx];rfl
   have hle:(av (uI tb ks (i+1))).length<=(av (uI tb ks ks.length)).length:=by
    have:=abD (tb:=tb) (ks:=ks) (ks.length-(i+1)) (i+1)
    rwa [show i+1+(ks.length-(i+1))=ks.length by omega] at this
   rw[C5,HO] at hle ⊢;generalize ks[i]=u at hx hm hle;have gb:=DT hx;obtain⟨-,hT⟩:=gG u hm;unfold xS at hT;rw[ai] at hT gb;have Kd:(bif decide (mm<lo) then mm else lo)=mm:=by
    rcases we with rfl|rfl
    ·simp
    ·simp[aZ]
   have AM:(bif decide (mm<mm) then mm else mm)=mm:=ag
   have HQ:(uI tb ks i).length=i:=OM
   by_cases h0:i=0
   ·have RG:uI tb ks i=[]:=by rw[h0];rfl
    rw[RG] at hle ⊢;have hl0:av ([]:List (List aB))=[]:=rfl;have hl1:av ([]++[tb i++af u])=tb i++af u:=rfl;rw[hl1] at hle ⊢;rw[hl0,List.append_nil];simp only[List.length_append] at hle;obtain⟨c2,e2,gT⟩:=hb i Bj l ah;have e3:=hT mm K hP (l++tb i) (by rw[List.length_append];omega)
    rw[<- au8]
    rcases gT with rfl|⟨rfl,h2⟩
    ·simp(disch:=omega)only[aO,aa,simprocAttr,q0,q2,q8,q9,I5,gb,e2,e3,Kd,au4]
     refine⟨Bj,_,mm,_,rfl,.inl rfl,.inr rfl,?_,?_,?_,?_,?_⟩
     all_goals exact WI q0 q2 q8 q9
    ·rw[h2,List.append_nil] at e3 ⊢
     simp(disch:=omega)only[aO,aa,simprocAttr,q0,q2,q8,q9,I5,gb,e2,e3,Kd];refine⟨Bj,_,mm,_,rfl,.inl rfl,.inr rfl,?_,?_,?_,?_,?_⟩
     all_goals exact WI q0 q2 q8 q9
   ·rw[jH,if_neg (fun h=>by have:=awu List.length h;rw[HQ] at this;simp at this;omega)] at hle ⊢
    simp only[List.length_append,List.length_cons,List.length_nil] at hle;have ec:=dE hP [[44]] (l++av (uI tb ks i)) false ag ko;rw[tT] at ec;obtain⟨c2,e2,gT⟩:=hb i Bj (l++av (uI tb ks i)++[[44]]) ko;have e3:=hT mm K hP (l++av (uI tb ks i)++[[44]]++tb i) ko;rw[show l++(av (uI tb ks i)++[[44]]++(tb i++af u))=l++av (uI tb ks i)++[[44]]++tb i++af u by simp]
    rcases gT with rfl|⟨rfl,h2⟩
    ·simp(disch:=omega)only[aO,aa,simprocAttr,q0,q2,q8,q9,I5,gb,ec,e2,e3,Kd,au4]
     refine⟨Bj,_,mm,_,rfl,.inl rfl,.inr rfl,?_,?_,?_,?_,?_⟩
     all_goals exact WI q0 q2 q8 q9
    ·rw[h2,List.append_nil] at e3 ⊢
     simp(disch:=omega)only[aO,aa,simprocAttr,q0,q2,q8,q9,I5,gb,ec,e2,e3,Kd,au4];refine⟨Bj,_,mm,_,rfl,.inl rfl,.inr rfl,?_,?_,?_,?_,?_⟩
     all_goals exact WI q0 q2 q8 q9
  ·obtain rfl:i=ks.length:=ah
   have hlm:lo=mm:=by
    rcases qD with h2|h2
    ·omega
    ·exact h2
   subst hlm;simp(disch:=omega)only[aO,aa,simprocAttr,q9,I5,au4];exact⟨_,_,rfl⟩
 ·rintro s ⟨T,g,rfl⟩
  have ho:=hP.open (l++av (uI tb ks ks.length)) false;simp(disch:=omega)only[aO,aa,simprocAttr,gk,ho]
 ·have e0:cI mm l false K=cI mm (l++av (uI tb ks 0)) false K:=by rw[show av (uI tb ks 0)=[] from rfl,List.append_nil]
  refine⟨_,K.length,_,awu (fun x=>AS.mk _ x _ _) e0,.inr rfl,.inl rfl,?_,?_,?_,?_,?_⟩
  all_goals exact jd
def abP{ks:List Tm} : ∀ (d i:Nat),(Ad ts ks i).length<=(Ad ts ks (i+d)).length
 | 0,i=>Nat.le_refl _
 | d+1,i=>avx (abP d i) (by rw[show i+(d+1)=i+d+1 by omega,KO,List.length_append];omega)
theorem Dt{ks:List Tm}(hP:PW mm K)(gG:∀ u∈ks,mS u)(Ft:ks.length<=10)(zh:0<ks.length)(qq:ts.length=ks.length) :
  xS mm K 108 [.ref mm 0,.slice (aC ks) false,.slice (strs ts) false] (Ad ts ks ks.length):=by
 intro l hl;have aZ:=hP.lt;refine cW abr.eq_1 ?_;simp(disch:=omega)only[aO,aa,simprocAttr,cR,bw];refine cj ks.length 0 (fun i s=>∃ T lo g,s=⟨T,cI mm (l++Ad ts ks i) false K,lo,g⟩/\(lo=mm\/lo=K.length)/\(i=0\/lo=mm)/\T 0=.ref mm 0/\T 2=.slice (strs ts) false/\T 8=.slice (aC ks) false/\T 9=.int .i64 ks.length/\T 10=.int .i64 i)
  (fun s=>∃ T g,s=⟨T,cI mm (l++Ad ts ks ks.length) false K,mm,g⟩) (fun _=>False) ?_ ?_ (fun _ h=>h.elim) 0 _ ah ?_
 ·rintro i s hi ⟨T,lo,g,rfl,we,qD,q0,q2,q8,q9,I5⟩
  by_cases Bj:i<ks.length
  ·have hx:=auS Bj
   have hm:=avj Bj;have HO:ks.getD i pY=ks[i]:=by rw[List.getD,hx];rfl
   have hle:(Ad ts ks (i+1)).length<=(Ad ts ks ks.length).length:=by
    have:=abP (ts:=ts) (ks:=ks) (ks.length-(i+1)) (i+1)
    grind
   rw[KO,HO] at hle ⊢;generalize ks[i]=u at hx hm hle;have gb:=DT hx;have gZ:=ke (l:=ts) (i:=i) ah;generalize ts.getD i []=tk at gZ hle;obtain⟨-,hT⟩:=gG u hm;unfold xS at hT;rw[ai] at hT gb;have Kd:(bif decide (mm<lo) then mm else lo)=mm:=by
    grind
   have AM:(bif decide (mm<mm) then mm else mm)=mm:=ag
   simp only[List.length_append,List.length_cons,List.length_nil] at hle;have e1:=dE hP [tk] (l++Ad ts ks i) false ag ko;rw[tT] at e1;have e3:=hT mm K hP (l++Ad ts ks i++[tk]) ko;rw[show l++(Ad ts ks i++([tk]++af u))=l++Ad ts ks i++[tk]++af u by simp]
   simp(disch:=omega)only[aO,aa,simprocAttr,q0,q2,q8,q9,I5,gb,gZ,e1,e3,Kd,au4];refine⟨Bj,_,mm,_,rfl,.inl rfl,.inr rfl,?_,?_,?_,?_,?_⟩
   all_goals exact WI q0 q2 q8 q9
  ·obtain rfl:i=ks.length:=ah
   have hlm:lo=mm:=by
    grind
   subst hlm;simp(disch:=omega)only[aO,aa,simprocAttr,q9,I5,au4];exact⟨_,_,rfl⟩
 ·rintro s ⟨T,g,rfl⟩
  have ho:=hP.open (l++Ad ts ks ks.length) false;simp(disch:=omega)only[aO,aa,simprocAttr,gk,ho]
 ·have e0:cI mm l false K=cI mm (l++Ad ts ks 0) false K:=by rw[show Ad ts ks 0=[] from rfl,List.append_nil]
  refine⟨_,K.length,_,awu (fun x=>AS.mk _ x _ _) e0,.inr rfl,.inl rfl,?_,?_,?_,?_,?_⟩
  all_goals exact jd
theorem wu(h:PW mm K)(hw:isWord s=true)(hs:s.length<=1100000)(l:List aB)(hl:l.length<=9000000):aj A 61 [.ref mm 0,.str s] (cI mm l false K)=some (.undef,some ⟨cI mm (l++[s]) false K,mm⟩):=by
 obtain⟨l',e,t1,n1⟩:=sU h s ah l false ah
 grind
theorem Dx(h:PW mm K)(hw:gV s=true)(hs:s.length<=1100000)(l:List aB)(hl:l.length<=9000000):aj A 98 [.ref mm 0,.str s] (cI mm l false K)=some (.undef,some ⟨cI mm (l++aJ s) false K,mm⟩):=by
 obtain⟨l',e,t1,n1⟩:=KS h s ah l false ah
 grind
theorem GJ(i:Nat):Pn mm K 102 [] i []:=by
 intro l hl;obtain⟨l',c,e,h,t1,n1⟩:=QZ (mm:=mm) (K:=K) i l false (by simp at hl;omega)
 grind
theorem acw{n:Nat}{t:Tm}(h:TyH mm t n K)(i:Nat)(hi:i<t.names.length)(CQ:∀ s∈t.names,s.length<=1100000)(hw:isWord (t.names.getD i [])=true):Pn mm K 131 [.ref n 0,.ref (n+1) 0] i [t.names.getD i [],[61]]:=by
 intro l hl;obtain⟨l',c,e,hc,t1,n1⟩:=acv h i hi CQ l false (by simp only[List.length_cons,List.length_nil] at hl;omega)
 grind
theorem acu{n:Nat}{t:Tm}(h:TyH mm t n K)(i:Nat)(hi:2*i+1<t.names.length)(uF:t.names.length<=20000000)(CQ:∀ s∈t.names,s.length<=1100000)(hw:t.names.all isWord=true) :
  Pn mm K 130 [.ref n 0,.ref (n+1) 0] i [t.names.getD (2*i) [],t.names.getD (2*i+1) [],[45,62]]:=by
 intro l hl;have gb:=ke (show 2*i<t.names.length by omega)
 have Qm:=ke hi;have ri:=ph CQ (2*i);have an2:=ph CQ (2*i+1);have D7:isWord (t.names.getD (2*i) [])=true:=by
  grind
 have Qy:isWord (t.names.getD (2*i+1) [])=true:=by
  grind
 generalize t.names.getD (2*i) []=s at gb ri D7 hl ⊢;generalize t.names.getD (2*i+1) []=s2 at Qm an2 Qy hl ⊢;simp only[List.length_cons,List.length_nil] at hl;have e1:=wu h.p D7 ah l ah;have e2:=wu h.p Qy ah (l++[s]) ko;have e3:=dE h.p [[45,62]] (l++[s]++[s2]) false ag ko;rw[tT] at e3;refine⟨_,?_,.inl rfl⟩;rw[show l++[s,s2,[45,62]]=l++[s]++[s2]++[[45,62]] by simp]
 refine cW abz.eq_1 ?_;have hwv:=h.w;have ht:=h.t;have aZ:=h.p.lt;have ho:=h.p.open (l++[s]++[s2]++[[45,62]]) false;have en:asNat (.int .i64 (2*(i:Int)))=some (2*i):=by rw[bA ah];congr 1
 have en2:asNat (.int .i64 (2*(i:Int)+1))=some (2*i+1):=by rw[bA ah];congr 1
 simp(disch:=omega)only[aO,aa,simprocAttr,hwv,ht,gb,Qm,en,en2,e1,e2,e3,gk,ho,au4,bw,ab]
theorem yt(h:PW mm K){t:Tm}{a b:Int}(hh:jv t a b=true)(l:List aB):aj A 107 [.ref mm 0,.agg (aK t),.int .i64 a,.int .i64 b] (cI mm l false K)=some (.bool true,some ⟨cI mm l false K,mm⟩):=by
 grind [ac']
theorem aab(s:aB):il s<=16:=by
 cases s with
 | nil=>simp[il]
 | cons b r =>
  rw[il]
  grind
theorem lI(h:isWord s=true):s.length<=16:=by
 cases s with
 | nil=>simp
 | cons b r =>
  simp only[isWord,auT,au1] at h
  grind [aab]
theorem CF:∀ s:aB,s.length<=(aV s).1.length+(aV s).2.1.length+1/\((aV s).2.2=false->s.length<=(aV s).1.length)
 | []=>ag
 | b :: r=>by
  have ih:=CF r;unfold aV
  grind
theorem vE(h:gV s=true):s.length<=33:=by
 unfold gV at h
 grind [lI,CF]
def Iq(hP:PW mm K)(t:Tm):∃ K1,TyH mm t K.length K1 /\
  (∀ l,cI mm l false K++[.box 113 [.ref mm 0],.box 83 [.int .i64 t.kind,.int .i64 t.n,.str t.name,.str t.field,.str t.wn,.slice (aG t.wk) false,.slice (aC t.kids) false,.slice (strs t.names) false]]=cI mm l false K1) /\
  (∀ l,(cI mm l false K1).take K.length=cI mm l false K)/\(∀ l,l7 K.length mm (cI mm l false K1)=true) :=
 ⟨_,⟨hP.aj9 (fun cs e=>by cases e) (fun cs e=>by cases e),fun _ _=>ZN hP,fun _ _=>ZO hP⟩,fun _=>rK hP,fun _=>pQ hP,fun l=>hP.OW l false⟩
def aaf{t:Tm}(hk:t.kind=8)(hp:ay t=true)(gG:∀ u∈t.kids,mS u)(hP:PW mm K):xS mm K 109 [.ref mm 0,.agg (aK t)] (af t):=by
 intro l hl;have hu:=iA hp;have fg:=O2 hk hu;rw[hp] at fg;have fg:=fg.symm;simp only[auT,au1] at fg;obtain⟨⟨⟨g1,g2⟩,g3⟩,g4⟩:=fg;have hF:=agt hk hu;obtain⟨x,hx⟩:=Bm (show t.kids.length=1 by omega)
 have kJ:af t=aJ t.name++[[58]]++[t.field]++[[91]]++af x++[[93]]:=by rw[bN t,hk,hx];simp[b8]
 rw[kJ] at hl ⊢;simp only[List.length_append,List.length_cons,List.length_nil] at hl;have sJ:=vE g2;have w9:=lI g3;have RJ:=(gG x (by rw[hx];simp)).2
 have gb:(aC t.kids)[0]?=some (aK x):=by rw[hx];simp[aC]
 rw[ai x] at gb RJ;obtain⟨K1,hH,dj,hT,hO⟩:=Iq hP t;have fN:=hH.p;have aZ:=hP.lt;have J1:=fun (ty off t:Nat) (os:List aS) (T:aD) (lo gen:Nat) (Q:AS->Prop)=>wN (A:=A) (T:=T) (H:=cI mm l false K) (lo:=lo) (gen:=gen) (t:=t) (ty:=ty) (l:=mm) (off:=off) (os:=os) (K:=Q) (by rw[bw];omega)
 have tP:decide (K.length+1<K.length)=false:=ag;have hw:=hH.w;have ht:=hH.t;have e1:=Dx fN g2 ah l ah;have hv:=yt fN (t:=t) (a:=1) (b:=0) (by have hq:=hF.2.2.2.2;simp[jv,hx,hq]) (l++aJ t.name)
 have e2:=dE fN [[58]] (l++aJ t.name) false ag ko;have e3:=wu fN g3 ah (l++aJ t.name++[[58]]) ko;have e4:=dE fN [[91]] (l++aJ t.name++[[58]]++[t.field]) false ag ko;have e5:=RJ mm K1 fN (l++aJ t.name++[[58]]++[t.field]++[[91]]) ko;have e6:=dE fN [[93]] (l++aJ t.name++[[58]]++[t.field]++[[91]]++af x) false ag ko;rw[show l++(aJ t.name++[[58]]++[t.field]++[[91]]++af x++[[93]])=l++aJ t.name++[[58]]++[t.field]++[[91]]++af x++[[93]] by simp only[au8]]
 have ho:=hO (l++aJ t.name++[[58]]++[t.field]++[[91]]++af x++[[93]]);rw[tT] at e2 e4 e6;rw[ai] at hv ⊢;refine cW Gu.eq_1 ?_;simp(disch:=omega)only[aO,aa,simprocAttr,dj,J1,hw,ht,gb,hv,e1,e2,e3,e4,e5,e6,hT,ho,tP,au4,bw,ab]
def aag{t:Tm}(hk:t.kind=9)(hp:ay t=true)(gG:∀ u∈t.kids,mS u)(hP:PW mm K):xS mm K 109 [.ref mm 0,.agg (aK t)] (af t):=by
 intro l hl;have hu:=iA hp;have fg:=O3 hk hu;rw[hp] at fg;have fg:=fg.symm;simp only[auT,au1] at fg;obtain⟨⟨⟨g1,g2⟩,g3⟩,g4⟩:=fg;have hF:=agu hk hu;obtain⟨x,hx⟩:=Bm (show t.kids.length=1 by omega)
 have kJ:af t=aJ t.name++[[58]]++[t.field]++[[40]]++af x++[[41]]:=by rw[bN t,hk,hx];simp[b9]
 rw[kJ] at hl ⊢;simp only[List.length_append,List.length_cons,List.length_nil] at hl;have sJ:=vE g2;have w9:=lI g3;have RJ:=(gG x (by rw[hx];simp)).2
 have gb:(aC t.kids)[0]?=some (aK x):=by rw[hx];simp[aC]
 rw[ai x] at gb RJ;obtain⟨K1,hH,dj,hT,hO⟩:=Iq hP t;have fN:=hH.p;have aZ:=hP.lt;have J1:=fun (ty off t:Nat) (os:List aS) (T:aD) (lo gen:Nat) (Q:AS->Prop)=>wN (A:=A) (T:=T) (H:=cI mm l false K) (lo:=lo) (gen:=gen) (t:=t) (ty:=ty) (l:=mm) (off:=off) (os:=os) (K:=Q) (by rw[bw];omega)
 have tP:decide (K.length+1<K.length)=false:=ag;have hw:=hH.w;have ht:=hH.t;have e1:=Dx fN g2 ah l ah;have hv:=yt fN (t:=t) (a:=1) (b:=0) (by have hq:=hF.2.2.2.2;simp[jv,hx,hq]) (l++aJ t.name)
 have e2:=dE fN [[58]] (l++aJ t.name) false ag ko;have e3:=wu fN g3 ah (l++aJ t.name++[[58]]) ko;have e4:=dE fN [[40]] (l++aJ t.name++[[58]]++[t.field]) false ag ko;have e5:=RJ mm K1 fN (l++aJ t.name++[[58]]++[t.field]++[[40]]) ko;have e6:=dE fN [[41]] (l++aJ t.name++[[58]]++[t.field]++[[40]]++af x) false ag ko;rw[show l++(aJ t.name++[[58]]++[t.field]++[[40]]++af x++[[41]])=l++aJ t.name++[[58]]++[t.field]++[[40]]++af x++[[41]] by simp only[au8]]
 have ho:=hO (l++aJ t.name++[[58]]++[t.field]++[[40]]++af x++[[41]]);rw[tT] at e2 e4 e6;rw[ai] at hv ⊢;refine cW Gu.eq_1 ?_;simp(disch:=omega)only[aO,aa,simprocAttr,dj,J1,hw,ht,gb,hv,e1,e2,e3,e4,e5,e6,hT,ho,tP,au4,bw,ab]
def z6:∀ (xs:List (List aB)),(∀ x∈xs,0<x.length)->xs.length<=(av xs).length
 | [],_=>ag
 | [a],h=>by have:=h a ag;simp[av];omega
 | a :: b :: r,h=>by
  have ih:=z6 (b :: r) (fun x hx=>h x (by simp at hx ⊢;rcases hx with e|e<;>simp[e]))
  have:=h a ag
  simp only[av,List.length_append,List.length_cons,List.length_nil] at ih ⊢;omega
def MU{ks:List Tm}(h:∀ i,i<ks.length->0<(tb i).length\/0<(af (ks.getD i pY)).length):ks.length<=(av (uI tb ks ks.length)).length:=by
 have h1:=z6 (uI tb ks ks.length) (fun x hx=>by
  unfold uI at hx;obtain⟨i,hi,rfl⟩:=List.mem_map.1 hx;rcases h i (cT hi) with h|h<;>rw[List.length_append]<;>omega)
 rwa [OM] at h1
def aae{t:Tm}(hk:t.kind=7)(hp:ay t=true)(gG:∀ u∈t.kids,mS u)(hP:PW mm K):xS mm K 109 [.ref mm 0,.agg (aK t)] (af t):=by
 intro l hl;have hu:=iA hp;have fg:=Vj hk hu;rw[hp] at fg;have fg:=fg.symm;simp only[auT,au1] at fg;obtain⟨⟨⟨g1,g2⟩,g3⟩,g4⟩:=fg;have g1n:t.names.length=t.kids.length:=ah;have kJ:af t=aJ t.name++[[123]]++av (uI (fun j=>[t.names.getD j [],[61]]) t.kids t.kids.length)++[[125]]:=by rw[bN t,hk,Yp g1n];simp[b7]
 have Qp:=MU (tb:=fun j=>[t.names.getD j [],[61]]) (ks:=t.kids) (fun _ _=>.inl ag)
 rw[kJ] at hl ⊢;simp only[List.length_append,List.length_cons,List.length_nil] at hl;have sJ:=vE g3;have CQ:∀ s∈t.names,s.length<=1100000:=fun s hs=>by have:=lI (auX.1 g2 s hs);omega
 obtain⟨K1,hH,dj,hT,hO⟩:=Iq hP t;have fN:=hH.p;have aZ:=hP.lt;have J1:=fun (ty off t:Nat) (os:List aS) (T:aD) (lo gen:Nat) (Q:AS->Prop)=>wN (A:=A) (T:=T) (H:=cI mm l false K) (lo:=lo) (gen:=gen) (t:=t) (ty:=ty) (l:=mm) (off:=off) (os:=os) (K:=Q) (by rw[bw];omega)
 have tP:decide (K.length+1<K.length)=false:=ag;have hw:=hH.w;have ht:=hH.t;have e1:=Dx fN g3 ah l ah;have hv:=yt fN (t:=t) (a:=t.kids.length) (b:=t.kids.length) (by unfold jv;simp[g1]) (l++aJ t.name)
 have e2:=dE fN [[123]] (l++aJ t.name) false ag ko;rw[tT] at e2
 by_cases zh:t.kids.length=0
 ·have CO:t.kids=[]:=avc.1 zh
  have aiA:t.names=[]:=avc.1 ah;have e3:∀ Q:ae,aj A 105 [.ref mm 0,.slice [] false,.func (.func 131) [] [.ref K.length 0,.ref (K.length+1) 0]] Q=some (.undef,none):=fun Q=>Ii
  have e4:=dE fN [[125]] (l++aJ t.name++[[123]]) false ag ko;rw[tT] at e4;rw[CO,List.length_nil,show av (uI (fun j=>[t.names.getD j [],[61]]) [] 0)=[] from rfl,List.append_nil]
  rw[show l++(aJ t.name++[[123]]++[[125]])=l++aJ t.name++[[123]]++[[125]] by simp only[au8]]
  have ho:=hO (l++aJ t.name++[[123]]++[[125]]);rw[ai] at hv ⊢;rw[CO,aiA,ts0,ma] at dj ht hv;rw[CO,aiA,ts0,ma];simp only[List.length_nil,Int.natCast_zero] at hv;refine cW Gu.eq_1 ?_;simp(disch:=omega)only[aO,aa,simprocAttr,dj,J1,hw,ht,hv,e1,e2,e3,e4,hT,ho,tP,au4,bw,ab]
 ·have hb:∀ i,i<t.kids.length->Pn mm K1 131 [.ref K.length 0,.ref (K.length+1) 0] i [t.names.getD i [],[61]]:=fun i hi=>acw hH i ah CQ (by
   rw[List.getD_eq_getElem?_getD,auS ah];exact auX.1 g2 _ (avj _))
  have e3:=BP (tb:=fun j=>[t.names.getD j [],[61]]) fN gG ah ah hb (l++aJ t.name++[[123]]) ko
  generalize av (uI (fun j=>[t.names.getD j [],[61]]) t.kids t.kids.length)=ll at e3 hl Qp ⊢
  have e4:=dE fN [[125]] (l++aJ t.name++[[123]]++ll) false ag ko;rw[tT] at e4;rw[show l++(aJ t.name++[[123]]++ll++[[125]])=l++aJ t.name++[[123]]++ll++[[125]] by simp only[au8]]
  have ho:=hO (l++aJ t.name++[[123]]++ll++[[125]]);rw[ai] at hv ⊢;refine cW Gu.eq_1 ?_;simp(disch:=omega)only[aO,aa,simprocAttr,dj,J1,hw,ht,hv,cR,e1,e2,e3,e4,hT,ho,tP,au4,bw,ab]
def N5:∀ (ks:List Tm) (ns:List aB) (k:Nat) (g:Nat->aB),ns.length=2*ks.length->(∀ j,j<ns.length->g (2*k+j)=ns.getD j []) ->
  (ks.zipIdx k).map (fun p=>[g (2*p.2),g (2*p.2+1),[45,62]]++af p.1)=jl ns (ks.map fun t=>(af t,bH t))
 | [],ns,k,g,h,_=>by
  have:ns=[]:=avc.1 (cT h)
  rw[this];rfl
 | t :: ks,ns,k,g,h,hg=>by
  match ns,h with
  | p :: q :: ns,h =>
   have h0:=hg 0 ag;have h1:=hg 1 ag;rw[au7] at h0;have ih:=N5 ks ns (k+1) g (by simp at h ⊢;omega) (fun j hj=>by
    have:=hg (j+2) dw
    rw[show 2*(k+1)+j=2*k+(j+2) by omega,this];rfl)
   simp only[axa,au9,jl,h0,h1,ih];rfl
  | [],h=>simp at h
  | [_],h=>simp at h;omega
def Sg{ks:List Tm}{ns:List aB}(h:ns.length=2*ks.length):uI (fun i=>[ns.getD (2*i) [],ns.getD (2*i+1) [],[45,62]]) ks ks.length=jl ns (ks.map fun t=>(af t,bH t)):=by
 rw[yI _ (Nat.le_refl _),avr];exact N5 ks ns 0 (fun i=>ns.getD i []) h (fun j _=>by simp)
def We{t:Tm}(hk:t.kind=10)(hp:ay t=true)(gG:∀ u∈t.kids,mS u)(hP:PW mm K):xS mm K 109 [.ref mm 0,.agg (aK t)] (af t):=by
 intro l hl;have hu:=iA hp;have fg:=Ip hk hu;rw[hp] at fg;have fg:=fg.symm;simp only[auT,au1] at fg;obtain⟨⟨⟨⟨g0,g1⟩,g2⟩,g3⟩,g4⟩:=fg;obtain⟨x,rest,hxr⟩:∃ x rest,t.kids=x :: rest:=by
  cases h:t.kids with
  | nil=>rw[h] at g0;simp at g0
  | cons a r=>exact⟨a,r,rfl⟩
 have zT:rest.length+1=t.kids.length:=by rw[hxr];rfl
 have uF:t.names.length=2*rest.length:=ah;have kJ:af t=[[109,97,116,99,104]]++aJ t.name++[[40]]++af x++[[41],[123]]++av (uI (fun i=>[t.names.getD (2*i) [],t.names.getD (2*i+1) [],[45,62]]) rest rest.length)++[[125]]:=by
  rw[bN t,hk,hxr,Sg uF]
  show [[109,97,116,99,104]]++aJ t.name++[[40]]++af x++[[41]]++[[123]]++av (jl t.names (rest.map fun t=>(af t,bH t)))++[[125]]=_
  simp
 have Qp:=MU (tb:=fun i=>[t.names.getD (2*i) [],t.names.getD (2*i+1) [],[45,62]]) (ks:=rest) (fun _ _=>.inl ag)
 rw[kJ] at hl ⊢;simp only[List.length_append,List.length_cons,List.length_nil] at hl;have sJ:=vE g3;have CQ:∀ s∈t.names,s.length<=1100000:=fun s hs=>by have:=lI (auX.1 g2 s hs);omega
 have RJ:=(gG x (by rw[hxr];simp)).2
 have hkr:∀ u∈rest,mS u:=fun u h=>gG u (by rw[hxr];simp[h])
 have gb:(aC t.kids)[0]?=some (aK x):=by rw[hxr];simp[aC]
 have hdr:(aC t.kids).drop 1=aC rest:=by rw[hxr];simp[aC]
 have mO:(aC t.kids).take t.kids.length=aC t.kids:=avq (by rw[cR];omega)
 rw[ai x] at gb RJ;obtain⟨K1,hH,dj,hT,hO⟩:=Iq hP t;have fN:=hH.p;have aZ:=hP.lt;have J1:=fun (ty off t:Nat) (os:List aS) (T:aD) (lo gen:Nat) (Q:AS->Prop)=>wN (A:=A) (T:=T) (H:=cI mm l false K) (lo:=lo) (gen:=gen) (t:=t) (ty:=ty) (l:=mm) (off:=off) (os:=os) (K:=Q) (by rw[bw];omega)
 have tP:decide (K.length+1<K.length)=false:=ag;have hw:=hH.w;have ht:=hH.t;have hc:=ga fN true l false;simp only[avW,avX] at hc;have hv:=yt fN (t:=t) (a:=(t.kids.length:Int)-1+1) (b:=2*((t.kids.length:Int)-1)) (by unfold jv;rw[decide_eq_true (show (t.kids.length:Int)=(t.kids.length:Int)-1+1 by omega),decide_eq_true g1];rfl) l
 have e1:=dE fN [[109,97,116,99,104]] l false ag ko;have e2:=Dx fN g3 ah (l++[[109,97,116,99,104]]) ko;have e3:=dE fN [[40]] (l++[[109,97,116,99,104]]++aJ t.name) false ag ko;have e4:=RJ mm K1 fN (l++[[109,97,116,99,104]]++aJ t.name++[[40]]) ko;have e5:=dE fN [[41],[123]] (l++[[109,97,116,99,104]]++aJ t.name++[[40]]++af x) false ag ko;have hb:∀ i,i<rest.length->Pn mm K1 130 [.ref K.length 0,.ref (K.length+1) 0] i [t.names.getD (2*i) [],t.names.getD (2*i+1) [],[45,62]]:=fun i hi=>acu hH i ah ah CQ g2
 have e6:=BP (tb:=fun i=>[t.names.getD (2*i) [],t.names.getD (2*i+1) [],[45,62]]) fN hkr ah ah hb (l++[[109,97,116,99,104]]++aJ t.name++[[40]]++af x++[[41],[123]]) ko
 generalize av (uI (fun i=>[t.names.getD (2*i) [],t.names.getD (2*i+1) [],[45,62]]) rest rest.length)=ll at e6 hl Qp ⊢
 have e7:=dE fN [[125]] (l++[[109,97,116,99,104]]++aJ t.name++[[40]]++af x++[[41],[123]]++ll) false ag ko;have es2:strs [[41],[123]]=[[.str [41]],[.str [123]]]:=rfl;rw[tT] at e1 e3 e7;rw[es2] at e5;rw[show l++([[109,97,116,99,104]]++aJ t.name++[[40]]++af x++[[41],[123]]++ll++[[125]])=l++[[109,97,116,99,104]]++aJ t.name++[[40]]++af x++[[41],[123]]++ll++[[125]] by simp only[au8]]
 have ho:=hO (l++[[109,97,116,99,104]]++aJ t.name++[[40]]++af x++[[41],[123]]++ll++[[125]]);rw[ai] at hv ⊢;refine cW Gu.eq_1 ?_;simp(disch:=omega)only[aO,aa,simprocAttr,dj,J1,hw,ht,cR,aad,mO,hdr,gb,hc,hv,e1,e2,e3,e4,e5,e6,e7,hT,ho,tP,au4,bw,ab]
def aaN(h:PW mm K){k:Wd}(hk:∀ mm K,PW mm K->xS mm K 62 [.ref mm 0,.agg (gR k)] (bQ k)):xS mm K 97 [.ref mm 0,.slice (aG [k]) false] ([[40]]++bQ k++[[41]]):=by
 intro l hl;simp only[List.length_append,List.length_cons,List.length_nil] at hl;have aZ:=h.lt;have e1:=ga h true l false;simp only[avW,awp] at e1;have e2:=dE h [[40]] l false ag ko;have e3:=hk mm K h (l++[[40]]) ko;have e4:=dE h [[41]] (l++[[40]]++bQ k) false ag ko;rw[tT] at e2 e4;rw[show l++([[40]]++bQ k++[[41]])=l++[[40]]++bQ k++[[41]] by simp only[au8]]
 refine cW Yo.eq_1 ?_;have h0:=fQ (l:=l) (b:=false) h;unfold nq at h0;have ho:=h.open (l++[[40]]++bQ k++[[41]]) false;rw[iu] at e3;have gb:(aG [k])[0]?=some [.str k.name,.slice (aG k.kids) false]:=by rw[ab9 (l:=[k]) (i:=0) rfl,iu]
 simp(disch:=omega)only[aO,aa,simprocAttr,ig,gb,e1,e2,e3,e4,h0,gk,ho,au4,bw,ab]
def Pk:∀ (w:Wd),bX w=true->∀ (mm:Nat) (K:ae),PW mm K->xS mm K 62 [.ref mm 0,.agg (gR w)] (bQ w)
 | .mk n ks,hp,mm,K,hP=>by
  by_cases hn:n=cS
  ·subst hn
   obtain⟨k,rfl⟩:∃ k,ks=[k]:=by
    rw[GS] at hp
    match ks,hp with
    | [k],_=>exact⟨k,rfl⟩
    | [],h=>cases h
    | _ :: _ :: _,h=>cases h
   have BK:bX k=true:=by rw[bX] at hp;simpa using hp
   have ih:=Pk k BK;intro l hl;rw[Pl,show Rs [k]=[[40]]++bQ k++[[41]] from rfl] at hl ⊢
   simp only[List.length_append,List.length_cons,List.length_nil] at hl;rw[gR];have fN:PW mm (K++[.box 80 [.str cS,.slice (aG [k]) false]]):=hP.push (fun cs e=>by cases e)
   have dj:=rK (l:=l) (b:=false) hP (L:=[.box 80 [.str cS,.slice (aG [k]) false]]);have fO:=fun l b=>DK (l:=l) (b:=b) hP (o:=.box 80 [.str cS,.slice (aG [k]) false])
   have hT:=fun l b=>pQ (l:=l) (b:=b) hP (L:=[.box 80 [.str cS,.slice (aG [k]) false]])
   have hO:=fun l b=>hP.OW (L:=[.box 80 [.str cS,.slice (aG [k]) false]]) l b
   have aZ:=hP.lt;generalize K++[.box 80 [.str cS,.slice (aG [k]) false]]=K1 at fN dj fO hT hO;have e1:=dE fN [cS] l false ag ko;rw[tT] at e1;have e2:=aaN fN ih (l++[cS]) ko;generalize [[40]]++bQ k++[[41]]=TW at e2 ⊢;rw[<- au8];refine cW Uw.eq_1 ?_;have n1e:(cS==([73,110,116]:aB))=false:=a8;have n2e:(cS==([66,111,111,108]:aB))=false:=a8;have n3e:(cS==([76,105,115,116]:aB))=true:=a8;have ho:=hO (l++[cS]++TW) false;simp(disch:=omega)only[nK,cY,cb,ct,cm,gC,aP,aQ,br,aE.eval,AS.bW,↓reduceIte,Nat.reduceEqDiff,Option.isSome,Option.isNone,cond_true,cond_false,Nat.reduceBEq,Nat.reduceAdd,Nat.reduceMul,aa,cn,avs,reduceCtorEq,gr,cZ,cd,bD,bound,dc,AS.bC,aN,bI,bu,Nat.reduceLeDiff,cq,putAt,Int.reduceEq,Int.reduceLT,Int.reduceLE,Int.reduceBEq,Int.reduceBNe,Int.reduceAdd,Int.reduceNeg,Int.reduceSub,Int.reduceMul,dQ,dP,dO,dN,dM,dL,dS,dR,au,bA,au5,au7,dj,fO,e1,e2,n1e,n2e,hT,ho,au4,cond_false,cond_true,bw,ab]
  ·have IZ:=xz (ks:=ks) hn
   rw[hp] at IZ;have IZ:=IZ.symm;rw[auT,au1] at IZ;have zh:ks=[]:=avc.1 IZ.1;subst zh;have uF:n.length<=1100000:=by
    have h2:=IZ.2;rw[awl,awl] at h2;rcases h2 with (h|h)|h
    ·rw[avB] at h;rw[h];decide
    ·rw[avB] at h;rw[h];decide
    ·have:=vE h;omega
   have he:=aak 0 (.mk n []) ah (by exact⟨uF,rfl⟩) mm K hP
   rw[hp] at he;exact ak8 he ah
theorem agp{t:Tm}(hp:ay t=true):0<(af t).length:=by
 have hu:=iA hp;have hq:∀ s:aB,0<(aJ s).length:=fun s=>by unfold aJ;split<;>simp
 rw[bN]
 rcases uK t.kind with e|e|e|e|e|e|e|e|e|e|e|e|e|e
 ·grind [b0]
 ·grind [b1]
 ·grind [b2]
 ·grind [b3]
 ·have fg:=GQ e hu
  rw[hp] at fg;have fg:=fg.symm;simp only[auT,jv,au1] at fg
  by_cases h7:(da t.n).2=7
  ·rw[if_pos h7] at fg
   obtain⟨x,hx⟩:=Bm (show t.kids.length=1 by omega)
   rw[e,hx,au9,avC,b4a];(simp only[List.length_append,List.length_cons,List.length_nil];omega)
  ·rw[if_neg h7] at fg
   obtain⟨x,y,hx⟩:=xp (show t.kids.length=2 by omega)
   rw[e,hx,au9,au9,avC,b4b];(simp only[List.length_append,List.length_cons,List.length_nil];omega)
 ·have fg:=Vh e hu
  rw[hp] at fg;have fg:=fg.symm;simp only[auT,jv,au1] at fg;obtain⟨x,y,z,hx⟩:=M3 (show t.kids.length=3 by omega)
  rw[e,hx,au9,au9,au9,avC,b5];(simp only[List.length_append,List.length_cons,List.length_nil];omega)
 ·have fg:=Vi e hu
  rw[hp] at fg;have fg:=fg.symm;simp only[auT,jv,au1] at fg;obtain⟨x,y,hx⟩:=xp (show t.kids.length=2 by omega)
  obtain⟨p,hn⟩:=Bm (show t.names.length=1 by omega)
  rw[e,hx,hn,au9,au9,avC,b6];(simp only[List.length_append,List.length_cons,List.length_nil];omega)
 ·grind [b7]
 ·have fg:=O2 e hu
  rw[hp] at fg;have fg:=fg.symm;simp only[auT,au1] at fg;obtain⟨x,hx⟩:=Bm (show t.kids.length=1 by omega)
  rw[e,hx,au9,avC,b8];(simp only[List.length_append,List.length_cons,List.length_nil];omega)
 ·have fg:=O3 e hu
  rw[hp] at fg;have fg:=fg.symm;simp only[auT,au1] at fg;obtain⟨x,hx⟩:=Bm (show t.kids.length=1 by omega)
  rw[e,hx,au9,avC,b9];(simp only[List.length_append,List.length_cons,List.length_nil];omega)
 ·have fg:=Ip e hu
  rw[hp] at fg;have fg:=fg.symm;simp only[auT,au1] at fg;obtain⟨x,rest,hx⟩:∃ x rest,t.kids=x :: rest:=by
   cases h:t.kids with
   | nil=>rw[h] at fg;simp at fg
   | cons a r=>exact⟨a,r,rfl⟩
  rw[e,hx]
  show 0<([[109,97,116,99,104]]++aJ t.name++[[40]]++af x++[[41]]++[[123]]++av (jl t.names (rest.map fun t=>(af t,bH t)))++[[125]]).length
  (simp only[List.length_append,List.length_cons,List.length_nil];omega)
 ·grind [b11]
 ·have fg:=Nt e hu
  rw[hp] at fg;have fg:=fg.symm;simp only[auT,jv,au1] at fg;obtain⟨x,y,z,hx⟩:=M3 (show t.kids.length=3 by omega)
  obtain⟨p,q,hn⟩:=xp (show t.names.length=2 by omega)
  rw[e,hx,hn,au9,au9,au9,avC,b12];(simp only[List.length_append,List.length_cons,List.length_nil];omega)
 ·have:=yW (vy hp)
  omega
def OO{ks:List Tm}(gG:∀ u∈ks,mS u):ks.length<=(av (ks.map af)).length:=by
 have:=MU (tb:=fun _=>[]) (ks:=ks) (fun i hi=>.inr (by
  rw[List.getD_eq_getElem?_getD,auS hi];exact agp (gG _ (avj _)).1))
 rwa [yH] at this
def af7{t:Tm}(hk:t.kind=0)(hp:ay t=true)(gG:∀ u∈t.kids,mS u)(hP:PW mm K):xS mm K 66 [.ref mm 0,.agg (aK t)] (af t):=by
 intro l hl;have hu:=iA hp;have fg:=Vf hk hu;rw[hp] at fg;have fg:=fg.symm;have hU:=akX hk hu;have kJ:=bN t;rw[hk] at kJ;obtain⟨K1,fN,dj,fO,hT,hO⟩:=oC hP t;have aZ:=hP.lt;have oU:=fun K=>jb t K
 rw[hu,ai] at oU;have ji:=fun ok l b=>ga fN ok l b
 have h0:=fun l b=>fQ (l:=l) (b:=b) fN
 unfold nq at h0;rw[au1] at fg;obtain⟨r1,r2⟩:=fg;have HQ:=fun K=>MV t.n K ⟨ah,ah⟩
 have Qq:(rp t.n).length<=10000000:=by
  by_cases h:t.n<0
  ·rw[itoa_neg h];have:=x9 (n:=(-t.n).toNat) ah;simp;omega
  ·rw[H7 ah];have:=x9 (n:=t.n.toNat) ah;omega
 have htr:=fun K=>agn (rp t.n) 45 K Qq
 rw[Rt] at htr;rw[kJ] at hl ⊢
 by_cases Qu:t.n<0
 ·rw[b0,if_pos Qu] at hl ⊢
  simp only[List.length_cons,List.length_nil] at hl;rw[if_pos Qu] at htr;have e1:=dE fN [[45]] l false ag dw;have e2:=dE fN [lR (-t.n).toNat] (l++[[45]]) false ag dw;rw[tT] at e1 e2;rw[show l++[[45],lR (-t.n).toNat]=l++[[45]]++[lR (-t.n).toNat] by simp]
  have ho:=hO (l++[[45]]++[lR (-t.n).toNat]) false;rw[ai];refine cW tR.eq_1 ?_;simp(disch:=omega)only[aO,aa,simprocAttr,dj,fO,oU,ji,h0,hT,avX,au4,bw,ab,ho,HQ,htr,e1,e2]
 ·rw[b0,if_neg Qu] at hl ⊢
  simp only[List.length_cons,List.length_nil] at hl;rw[if_neg Qu] at htr;have e1:=dE fN [lR t.n.toNat] l false ag dw;rw[tT] at e1;have ho:=hO (l++[lR t.n.toNat]) false;rw[ai];refine cW tR.eq_1 ?_;simp(disch:=omega)only[aO,aa,simprocAttr,dj,fO,oU,ji,h0,hT,avX,au4,bw,ab,ho,HQ,htr,e1]
def af9{t:Tm}(hk:t.kind=1)(hp:ay t=true)(gG:∀ u∈t.kids,mS u)(hP:PW mm K):xS mm K 66 [.ref mm 0,.agg (aK t)] (af t):=by
 intro l hl;have hu:=iA hp;have fg:=aj8 hk hu;rw[hp] at fg;have fg:=fg.symm;have hU:=akY hk hu;have kJ:=bN t;rw[hk] at kJ;obtain⟨K1,fN,dj,fO,hT,hO⟩:=oC hP t;have aZ:=hP.lt;have oU:=fun K=>jb t K
 rw[hu,ai] at oU;have ji:=fun ok l b=>ga fN ok l b
 have h0:=fun l b=>fQ (l:=l) (b:=b) fN
 unfold nq at h0;rw[au1] at fg;rw[kJ,b1] at hl ⊢;simp only[List.length_cons,List.length_nil] at hl;have fb:=fun b K=>ac0 b K
 have e1:=fun s=>dE fN [s] l false ag ko
 simp only[tT] at e1;rw[ai]
 rcases fg with z|z
 ·rw[if_pos z]
  have ho:=hO (l++[[102,97,108,115,101]]) false;refine cW tR.eq_1 ?_;simp(disch:=omega)only[aO,aa,simprocAttr,dj,fO,oU,ji,h0,hT,avX,au4,bw,ab,ho,fb,e1]
 ·rw[if_neg ah]
  have ho:=hO (l++[[116,114,117,101]]) false;refine cW tR.eq_1 ?_;simp(disch:=omega)only[aO,aa,simprocAttr,dj,fO,oU,ji,h0,hT,avX,au4,bw,ab,ho,fb,e1]
def af'{t:Tm}(hk:t.kind=2)(hp:ay t=true)(gG:∀ u∈t.kids,mS u)(hP:PW mm K):xS mm K 66 [.ref mm 0,.agg (aK t)] (af t):=by
 intro l hl;have hu:=iA hp;have fg:=abN hk hu;rw[hp] at fg;have fg:=fg.symm;have hU:=akZ hk hu;have kJ:=bN t;rw[hk] at kJ;obtain⟨K1,fN,dj,fO,hT,hO⟩:=oC hP t;have aZ:=hP.lt;have oU:=fun K=>jb t K
 rw[hu,ai] at oU;have ji:=fun ok l b=>ga fN ok l b
 have h0:=fun l b=>fQ (l:=l) (b:=b) fN
 unfold nq at h0;rw[kJ,b2] at hl ⊢;simp only[List.length_cons,List.length_nil] at hl;have e1:=wu fN fg (by have:=lI fg;omega) l ah
 have ho:=hO (l++[t.name]) false;rw[ai];refine cW tR.eq_1 ?_;simp(disch:=omega)only[aO,aa,simprocAttr,dj,fO,oU,ji,h0,hT,avX,au4,bw,ab,ho,e1]
def aga{t:Tm}(hk:t.kind=3)(hp:ay t=true)(gG:∀ u∈t.kids,mS u)(hP:PW mm K):xS mm K 66 [.ref mm 0,.agg (aK t)] (af t):=by
 intro l hl;have hu:=iA hp;have fg:=abO hk hu;rw[hp] at fg;have fg:=fg.symm;have hU:=ak0 hk hu;have kJ:=bN t;rw[hk] at kJ;obtain⟨K1,fN,dj,fO,hT,hO⟩:=oC hP t;have aZ:=hP.lt;have oU:=fun K=>jb t K
 rw[hu,ai] at oU;have ji:=fun ok l b=>ga fN ok l b
 have h0:=fun l b=>fQ (l:=l) (b:=b) fN
 unfold nq at h0;rw[auT] at fg;obtain⟨g1,g2⟩:=fg;rw[b3,avT] at kJ;rw[show ((fun x:List aB × Int=>x.1) ∘ fun t=>(af t,bH t))=af from rfl] at kJ
 have Qp:=OO gG;rw[kJ] at hl ⊢;simp only[List.length_append,List.length_cons,List.length_nil] at hl;have sJ:=vE g1;have e1:=Dx fN g1 ah l ah;have e2:=dE fN [[40]] (l++aJ t.name) false ag ko;rw[tT] at e2
 by_cases zh:t.kids.length=0
 ·have CO:t.kids=[]:=avc.1 zh
  have e3:∀ Q:ae,aj A 105 [.ref mm 0,.slice [] false,.func (.func 102) [] []] Q=some (.undef,none):=fun Q=>Ii
  have e4:=dE fN [[41]] (l++aJ t.name++[[40]]) false ag ko;rw[tT] at e4;rw[CO,avC,show av ([]:List (List aB))=[] from rfl,List.append_nil]
  rw[show l++(aJ t.name++[[40]]++[[41]])=l++aJ t.name++[[40]]++[[41]] by simp only[au8]]
  have ho:=hO (l++aJ t.name++[[40]]++[[41]]) false;rw[ai];rw[CO,ts0] at dj oU fO;rw[CO,ts0];refine cW tR.eq_1 ?_;simp(disch:=omega)only[aO,aa,simprocAttr,dj,fO,oU,ji,h0,hT,avX,au4,bw,ab,ho,e1,e2,e3,e4]
 ·have e3:=BP (tb:=fun _=>[]) (fb:=102) (cs:=[]) fN gG ah ah (fun i _=>GJ i) (l++aJ t.name++[[40]]) (by rw[yH];simp only[List.length_append,List.length_cons,List.length_nil];omega)
  rw[yH] at e3;generalize av (t.kids.map af)=ll at e3 hl Qp ⊢;have e4:=dE fN [[41]] (l++aJ t.name++[[40]]++ll) false ag ko;rw[tT] at e4;rw[show l++(aJ t.name++[[40]]++ll++[[41]])=l++aJ t.name++[[40]]++ll++[[41]] by simp only[au8]]
  have ho:=hO (l++aJ t.name++[[40]]++ll++[[41]]) false;rw[ai];refine cW tR.eq_1 ?_;simp(disch:=omega)only[aO,aa,simprocAttr,dj,fO,oU,ji,h0,hT,avX,au4,bw,ab,ho,e1,e2,e3,e4]
def Z9{t:Tm}(hk:t.kind=11)(hp:ay t=true)(gG:∀ u∈t.kids,mS u)(hP:PW mm K):xS mm K 66 [.ref mm 0,.agg (aK t)] (af t):=by
 intro l hl;have hu:=iA hp;have fg:=Vg hk hu;rw[hp] at fg;have fg:=fg.symm;have hU:=ab3 hk hu;have kJ:=bN t;rw[hk] at kJ;obtain⟨K1,fN,dj,fO,hT,hO⟩:=oC hP t;have aZ:=hP.lt;have oU:=fun K=>jb t K
 rw[hu,ai] at oU;have ji:=fun ok l b=>ga fN ok l b
 have h0:=fun l b=>fQ (l:=l) (b:=b) fN
 unfold nq at h0;rw[auT] at fg;obtain⟨g1,g2⟩:=fg;rw[b11,avT] at kJ;rw[show ((fun x:List aB × Int=>x.1) ∘ fun t=>(af t,bH t))=af from rfl] at kJ
 have Qp:=OO gG;have kJ:af t=[cS]++([[40]]++bQ (.mk t.wn t.wk)++[[41]])++[[91]]++av (t.kids.map af)++[[93]]:=by rw[kJ];simp only[au8]
 have hw:=fun l=>aaN fN (Pk _ g1) l
 generalize [[40]]++bQ (.mk t.wn t.wk)++[[41]]=TW at kJ hw;rw[kJ] at hl ⊢;simp only[List.length_append,List.length_cons,List.length_nil] at hl;have e1:=dE fN [cS] l false ag ko;rw[tT] at e1;have e2:=hw (l++[cS]) ko;rw[show aG [.mk t.wn t.wk]=[[.str t.wn,.slice (aG t.wk) false]] from by simp[aG,gR]] at e2
 have e3:=dE fN [[91]] (l++[cS]++TW) false ag ko;rw[tT] at e3
 by_cases zh:t.kids.length=0
 ·have CO:t.kids=[]:=avc.1 zh
  have e4:∀ Q:ae,aj A 105 [.ref mm 0,.slice [] false,.func (.func 102) [] []] Q=some (.undef,none):=fun Q=>Ii
  have e5:=dE fN [[93]] (l++[cS]++TW++[[91]]) false ag ko;rw[tT] at e5;rw[CO,avC,show av ([]:List (List aB))=[] from rfl,List.append_nil]
  rw[show l++([cS]++TW++[[91]]++[[93]])=l++[cS]++TW++[[91]]++[[93]] by simp only[au8]]
  have ho:=hO (l++[cS]++TW++[[91]]++[[93]]) false;rw[ai];rw[CO,ts0] at dj oU fO;rw[CO,ts0];refine cW tR.eq_1 ?_;simp(disch:=omega)only[aO,aa,simprocAttr,dj,fO,oU,ji,h0,hT,avX,au4,bw,ab,ho,e1,e2,e3,e4,e5]
 ·have e4:=BP (tb:=fun _=>[]) (fb:=102) (cs:=[]) fN gG ah ah (fun i _=>GJ i) (l++[cS]++TW++[[91]]) (by rw[yH];simp only[List.length_append,List.length_cons,List.length_nil];omega)
  rw[yH] at e4;generalize av (t.kids.map af)=ll at e4 hl Qp ⊢;have e5:=dE fN [[93]] (l++[cS]++TW++[[91]]++ll) false ag ko;rw[tT] at e5;rw[show l++([cS]++TW++[[91]]++ll++[[93]])=l++[cS]++TW++[[91]]++ll++[[93]] by simp only[au8]]
  have ho:=hO (l++[cS]++TW++[[91]]++ll++[[93]]) false;rw[ai];refine cW tR.eq_1 ?_;simp(disch:=omega)only[aO,aa,simprocAttr,dj,fO,oU,ji,h0,hT,avX,au4,bw,ab,ho,e1,e2,e3,e4,e5]
def agc{t:Tm}(hk:t.kind=5)(hp:ay t=true)(gG:∀ u∈t.kids,mS u)(hP:PW mm K):xS mm K 66 [.ref mm 0,.agg (aK t)] (af t):=by
 intro l hl;have hu:=iA hp;have fg:=Vh hk hu;rw[hp] at fg;have fg:=fg.symm;have hU:=ak2 hk hu;have kJ:=bN t;rw[hk] at kJ;obtain⟨K1,fN,dj,fO,hT,hO⟩:=oC hP t;have aZ:=hP.lt;have oU:=fun K=>jb t K
 rw[hu,ai] at oU;have ji:=fun ok l b=>ga fN ok l b
 have h0:=fun l b=>fQ (l:=l) (b:=b) fN
 unfold nq at h0;rw[auT] at fg;obtain⟨hh,g2⟩:=fg;have hv:=yt fN hh l;unfold jv at hh;simp only[auT,au1] at hh;obtain⟨x,y,z,zS⟩:=M3 (show t.kids.length=3 by omega)
 have MB:∀ u∈[x,y,z],mS u:=fun u HW=>gG u (by rw[zS];exact HW)
 have kJ:af t=Ad [[105,102],[116,104,101,110],[101,108,115,101]] [x,y,z] 3:=by rw[kJ,zS,pt3];simp[b5]
 rw[kJ] at hl ⊢;have e1:=Dt (ts:=[[105,102],[116,104,101,110],[101,108,115,101]]) fN MB ag ag rfl l hl;rw[show ([x,y,z]:List Tm).length=3 from rfl] at e1
 generalize Ad [[105,102],[116,104,101,110],[101,108,115,101]] [x,y,z] 3=TT at e1 hl ⊢;rw[<- zS] at e1;rw[show strs [[105,102],[116,104,101,110],[101,108,115,101]]=[[.str [105,102]],[.str [116,104,101,110]],[.str [101,108,115,101]]] from rfl] at e1
 have ho:=hO (l++TT) false;rw[ai] at hv ⊢;refine cW tR.eq_1 ?_;simp(disch:=omega)only[aO,aa,simprocAttr,dj,fO,oU,ji,h0,hT,avX,au4,bw,ab,ho,hv,e1]
def agd{t:Tm}(hk:t.kind=6)(hp:ay t=true)(gG:∀ u∈t.kids,mS u)(hP:PW mm K):xS mm K 66 [.ref mm 0,.agg (aK t)] (af t):=by
 intro l hl;have hu:=iA hp;have fg:=Vi hk hu;rw[hp] at fg;have fg:=fg.symm;have hU:=ak3 hk hu;have kJ:=bN t;rw[hk] at kJ;obtain⟨K1,fN,dj,fO,hT,hO⟩:=oC hP t;have aZ:=hP.lt;have oU:=fun K=>jb t K
 rw[hu,ai] at oU;have ji:=fun ok l b=>ga fN ok l b
 have h0:=fun l b=>fQ (l:=l) (b:=b) fN
 unfold nq at h0;rw[auT,auT] at fg;obtain⟨⟨hh,g1⟩,g2⟩:=fg;have hv:=yt fN hh l;unfold jv at hh;simp only[auT,au1] at hh;obtain⟨x,y,zS⟩:=xp (show t.kids.length=2 by omega)
 obtain⟨p,AN⟩:=Bm (show t.names.length=1 by omega)
 have IZ:isWord p=true:=by rw[AN] at g1;simpa using g1
 have vN:(strs t.names)[0]?=some [.str p]:=by rw[AN];rfl
 have MB:∀ u∈[x,y],mS u:=fun u HW=>gG u (by rw[zS];exact HW)
 have ij:=lI IZ;have kJ:af t=[[108,101,116]]++[p]++Ad [[61],[105,110]] [x,y] 2:=by rw[kJ,zS,AN,pt2];simp[b6]
 rw[kJ] at hl ⊢;simp only[List.length_append,List.length_cons,List.length_nil] at hl;have e1:=dE fN [[108,101,116]] l false ag ko;rw[tT] at e1;have e2:=wu fN IZ ah (l++[[108,101,116]]) ko;have e3:=Dt (ts:=[[61],[105,110]]) fN MB ag ag rfl (l++[[108,101,116]]++[p]) (by rw[show ([x,y]:List Tm).length=2 from rfl];simp only[List.length_append,List.length_cons,List.length_nil];omega)
 rw[show ([x,y]:List Tm).length=2 from rfl] at e3
 generalize Ad [[61],[105,110]] [x,y] 2=TT at e3 hl ⊢;rw[<- zS] at e3;rw[show strs [[61],[105,110]]=[[.str [61]],[.str [105,110]]] from rfl] at e3
 rw[show l++([[108,101,116]]++[p]++TT)=l++[[108,101,116]]++[p]++TT by simp only[au8]]
 have ho:=hO (l++[[108,101,116]]++[p]++TT) false;rw[ai] at hv ⊢;refine cW tR.eq_1 ?_;simp(disch:=omega)only[aO,aa,simprocAttr,dj,fO,oU,ji,h0,hT,avX,au4,bw,ab,ho,hv,vN,e1,e2,e3]
def aaa{t:Tm}(hk:t.kind=12)(hp:ay t=true)(gG:∀ u∈t.kids,mS u)(hP:PW mm K):xS mm K 66 [.ref mm 0,.agg (aK t)] (af t):=by
 intro l hl;have hu:=iA hp;have fg:=Nt hk hu;rw[hp] at fg;have fg:=fg.symm;have hU:=ab4 hk hu;have kJ:=bN t;rw[hk] at kJ;obtain⟨K1,fN,dj,fO,hT,hO⟩:=oC hP t;have aZ:=hP.lt;have oU:=fun K=>jb t K
 rw[hu,ai] at oU;have ji:=fun ok l b=>ga fN ok l b
 have h0:=fun l b=>fQ (l:=l) (b:=b) fN
 unfold nq at h0;rw[auT,auT] at fg;obtain⟨⟨hh,g1⟩,g2⟩:=fg;have hv:=yt fN hh l;unfold jv at hh;simp only[auT,au1] at hh;obtain⟨x,y,z,zS⟩:=M3 (show t.kids.length=3 by omega)
 obtain⟨p,q,AN⟩:=xp (show t.names.length=2 by omega)
 have IZ:isWord p=true/\isWord q=true:=by rw[AN] at g1;simpa using g1
 obtain⟨IZ,hqw⟩:=IZ;have vN:(strs t.names)[0]?=some [.str p]:=by rw[AN];rfl
 have haq:(strs t.names)[1]?=some [.str q]:=by rw[AN];rfl
 have MB:∀ u∈[y,x,z],mS u:=fun u HW=>gG u (by rw[zS];simp only[avi,avE,awk] at HW ⊢;rcases HW with rfl|rfl|rfl<;>simp)
 have ij:=lI IZ;have hql:=lI hqw;have kJ:af t=[[102,111,108,100]]++[p]++[[44]]++[q]++Ad [[61],[111,118,101,114],[100,111]] [y,x,z] 3:=by rw[kJ,zS,AN,pt3];simp[b12]
 rw[kJ] at hl ⊢;simp only[List.length_append,List.length_cons,List.length_nil] at hl;have e1:=dE fN [[102,111,108,100]] l false ag ko;have e2:=wu fN IZ ah (l++[[102,111,108,100]]) ko;have e3:=dE fN [[44]] (l++[[102,111,108,100]]++[p]) false ag ko;have e4:=wu fN hqw ah (l++[[102,111,108,100]]++[p]++[[44]]) ko;rw[tT] at e1 e3;have e5:=Dt (ts:=[[61],[111,118,101,114],[100,111]]) fN MB ag ag rfl (l++[[102,111,108,100]]++[p]++[[44]]++[q]) (by rw[show ([y,x,z]:List Tm).length=3 from rfl];simp only[List.length_append,List.length_cons,List.length_nil];omega)
 rw[show ([y,x,z]:List Tm).length=3 from rfl] at e5
 generalize Ad [[61],[111,118,101,114],[100,111]] [y,x,z] 3=TT at e5 hl ⊢;have zh:(aC t.kids)[0]?=some (aK x):=by rw[zS];simp[aC]
 have zi:(aC t.kids)[1]?=some (aK y):=by rw[zS];simp[aC]
 have hk2:(aC t.kids)[2]?=some (aK z):=by rw[zS];simp[aC]
 rw[ai] at zh zi hk2;rw[show aC [y,x,z]=[aK y,aK x,aK z] from by simp[aC],ai x,ai y,ai z] at e5
 rw[show strs [[61],[111,118,101,114],[100,111]]=[[.str [61]],[.str [111,118,101,114]],[.str [100,111]]] from rfl] at e5
 rw[show l++([[102,111,108,100]]++[p]++[[44]]++[q]++TT)=l++[[102,111,108,100]]++[p]++[[44]]++[q]++TT by simp only[au8]]
 have ho:=hO (l++[[102,111,108,100]]++[p]++[[44]]++[q]++TT) false;rw[ai] at hv ⊢;refine cW tR.eq_1 ?_;simp(disch:=omega)only[aO,aa,simprocAttr,dj,fO,oU,ji,h0,hT,avX,au4,bw,ab,ho,hv,vN,haq,zh,zi,hk2,e1,e2,e3,e4,e5]
def aj2{t:Tm}(hk:t.kind=4)(hp:ay t=true)(gG:∀ u∈t.kids,mS u)(hP:PW mm K):xS mm K 106 [.ref mm 0,.agg (aK t)] (af t):=by
 intro l hl;have hu:=iA hp;have fg:=GQ hk hu;rw[hp] at fg;have fg:=fg.symm;rw[auT,auT,au1] at fg;obtain⟨⟨hr,hh⟩,g2⟩:=fg;have kJ:=bN t;rw[hk] at kJ;obtain⟨K1,fN,dj,fO,hT,hO⟩:=oC hP t;have aZ:=hP.lt;have hs:=fun K=>Lb t.n K
 have hsw:n8 t.n=da t.n:=O7 ah;have dp:=O8 hr;obtain⟨v0,v7⟩:=VZ t.n;rw[hsw] at hs;generalize hsg:da t.n=sg at *;obtain⟨s,lv⟩:=sg;simp only at dp v0 v7 hs hh;have hse:(s==[])=false:=cT dp
 by_cases h7:lv=7
 ·subst h7
  rw[if_pos rfl] at hh;have hc:=ga fN true l false;simp only[avW,awp] at hc;have hv:=yt fN hh l;unfold jv at hh;simp only[auT,au1] at hh;obtain⟨x,hx⟩:∃ x,t.kids=[x]:=Bm ah;have RJ:=gG x (by rw[hx];simp)
  have gb:(aC t.kids)[0]?=some (aK x):=by rw[hx];simp[aC]
  have kJ:af t=[s]++gH (af x,bH x) 7:=by rw[kJ,hx];simp[b4a,hsg]
  rw[kJ] at hl ⊢;simp only[List.length_append,List.length_cons,List.length_nil] at hl;have e1:=dE fN [s] l false ag ko;rw[tT] at e1;have e2:=MX RJ 7 fN (l++[s]) ko;rw[ai x] at gb e2;rw[<- au8];have ho:=hO (l++[s]++gH (af x,bH x) 7) false;rw[ai] at hv ⊢;refine cW OL.eq_1 ?_;simp(disch:=omega)only[aO,aa,simprocAttr,dj,fO,hs,hse,hc,hv,gb,e1,e2,hT,ho,au4,bw,ab]
 ·rw[if_neg h7] at hh
  have hv:=yt fN hh l;unfold jv at hh;simp only[auT,au1] at hh;obtain⟨x,y,hx⟩:∃ x y,t.kids=[x,y]:=xp ah;have RJ:=gG x (by rw[hx];simp)
  have hky:=gG y (by rw[hx];simp)
  have gb:(aC t.kids)[0]?=some (aK x):=by rw[hx];simp[aC]
  have HL:(aC t.kids)[1]?=some (aK y):=by rw[hx];simp[aC]
  have kJ:af t=gH (af x,bH x) (if lv=3 then 4 else lv)++[s]++gH (af y,bH y) (lv+1):=by rw[kJ,hx];simp[b4b,hsg]
  rw[kJ] at hl ⊢;simp only[List.length_append,List.length_cons,List.length_nil] at hl;have e1:=MX RJ (if lv=3 then 4 else lv) fN l ah
  have e2:=dE fN [s] (l++gH (af x,bH x) (if lv=3 then 4 else lv)) false ag ko
  rw[tT] at e2;have e3:=MX hky (lv+1) fN (l++gH (af x,bH x) (if lv=3 then 4 else lv)++[s]) ko
  rw[ai x] at gb e1;rw[ai y] at HL e3;rw[<- au8,<- au8];have ho:=hO (l++gH (af x,bH x) (if lv=3 then 4 else lv)++[s]++gH (af y,bH y) (lv+1)) false
  rw[ai] at hv ⊢
  by_cases h3:lv=3
  ·subst h3
   rw[if_pos rfl] at e1 e2 e3 ho ⊢;rw[show (3:Int)+1=4 from rfl] at e3 ho ⊢
   generalize gH (af x,bH x) 4=kx at e1 e2 e3 ho ⊢;generalize gH (af y,bH y) 4=ky at e3 ho ⊢;refine cW OL.eq_1 ?_;simp(disch:=omega)only[aO,aa,simprocAttr,dj,fO,hs,hv,gb,HL,e1,e2,e3,hT,ho,au4,bw,ab]
  ·rw[if_neg h3] at e1 e2 e3 ho ⊢
   generalize gH (af x,bH x) lv=kx at e1 e2 e3 ho ⊢;generalize gH (af y,bH y) (lv+1)=ky at e3 ho ⊢;refine cW OL.eq_1 ?_;simp(disch:=omega)only[aO,aa,simprocAttr,dj,fO,hs,hv,gb,HL,e1,e2,e3,hT,ho,au4,bw,ab]
def agb{t:Tm}(hk:t.kind=4)(hp:ay t=true)(gG:∀ u∈t.kids,mS u)(hP:PW mm K):xS mm K 66 [.ref mm 0,.agg (aK t)] (af t):=by
 intro l hl;have hu:=iA hp;have fg:=GQ hk hu;rw[hp] at fg;have fg:=fg.symm;have hU:=ak1 hk hu;have kJ:=bN t;rw[hk] at kJ;obtain⟨K1,fN,dj,fO,hT,hO⟩:=oC hP t;have aZ:=hP.lt;have oU:=fun K=>jb t K
 rw[hu,ai] at oU;have ji:=fun ok l b=>ga fN ok l b
 have h0:=fun l b=>fQ (l:=l) (b:=b) fN
 unfold nq at h0;have e1:=aj2 hk hp gG fN l hl;have ho:=hO (l++af t) false;generalize af t=TT at e1 ho ⊢;rw[ai] at e1 ⊢;refine cW tR.eq_1 ?_;simp(disch:=omega)only[aO,aa,simprocAttr,dj,fO,oU,ji,h0,hT,avX,au4,bw,ab,ho,e1]
def age{t:Tm}(hk:t.kind=7)(hp:ay t=true)(gG:∀ u∈t.kids,mS u)(hP:PW mm K):xS mm K 66 [.ref mm 0,.agg (aK t)] (af t):=by
 intro l hl;have hu:=iA hp;have fg:=Vj hk hu;rw[hp] at fg;have fg:=fg.symm;have hU:=ak4 hk hu;have kJ:=bN t;rw[hk] at kJ;obtain⟨K1,fN,dj,fO,hT,hO⟩:=oC hP t;have aZ:=hP.lt;have oU:=fun K=>jb t K
 rw[hu,ai] at oU;have ji:=fun ok l b=>ga fN ok l b
 have h0:=fun l b=>fQ (l:=l) (b:=b) fN
 unfold nq at h0;have e1:=aae hk hp gG fN l hl;have ho:=hO (l++af t) false;generalize af t=TT at e1 ho ⊢;rw[ai] at e1 ⊢;refine cW tR.eq_1 ?_;simp(disch:=omega)only[aO,aa,simprocAttr,dj,fO,oU,ji,h0,hT,avX,au4,bw,ab,ho,e1]
def agf{t:Tm}(hk:t.kind=8)(hp:ay t=true)(gG:∀ u∈t.kids,mS u)(hP:PW mm K):xS mm K 66 [.ref mm 0,.agg (aK t)] (af t):=by
 intro l hl;have hu:=iA hp;have fg:=O2 hk hu;rw[hp] at fg;have fg:=fg.symm;have hU:=agt hk hu;have kJ:=bN t;rw[hk] at kJ;obtain⟨K1,fN,dj,fO,hT,hO⟩:=oC hP t;have aZ:=hP.lt;have oU:=fun K=>jb t K
 rw[hu,ai] at oU;have ji:=fun ok l b=>ga fN ok l b
 have h0:=fun l b=>fQ (l:=l) (b:=b) fN
 unfold nq at h0;have e1:=aaf hk hp gG fN l hl;have ho:=hO (l++af t) false;generalize af t=TT at e1 ho ⊢;rw[ai] at e1 ⊢;refine cW tR.eq_1 ?_;simp(disch:=omega)only[aO,aa,simprocAttr,dj,fO,oU,ji,h0,hT,avX,au4,bw,ab,ho,e1]
def agh{t:Tm}(hk:t.kind=9)(hp:ay t=true)(gG:∀ u∈t.kids,mS u)(hP:PW mm K):xS mm K 66 [.ref mm 0,.agg (aK t)] (af t):=by
 intro l hl;have hu:=iA hp;have fg:=O3 hk hu;rw[hp] at fg;have fg:=fg.symm;have hU:=agu hk hu;have kJ:=bN t;rw[hk] at kJ;obtain⟨K1,fN,dj,fO,hT,hO⟩:=oC hP t;have aZ:=hP.lt;have oU:=fun K=>jb t K
 rw[hu,ai] at oU;have ji:=fun ok l b=>ga fN ok l b
 have h0:=fun l b=>fQ (l:=l) (b:=b) fN
 unfold nq at h0;have e1:=aag hk hp gG fN l hl;have ho:=hO (l++af t) false;generalize af t=TT at e1 ho ⊢;rw[ai] at e1 ⊢;refine cW tR.eq_1 ?_;simp(disch:=omega)only[aO,aa,simprocAttr,dj,fO,oU,ji,h0,hT,avX,au4,bw,ab,ho,e1]
def Z8{t:Tm}(hk:t.kind=10)(hp:ay t=true)(gG:∀ u∈t.kids,mS u)(hP:PW mm K):xS mm K 66 [.ref mm 0,.agg (aK t)] (af t):=by
 intro l hl;have hu:=iA hp;have fg:=Ip hk hu;rw[hp] at fg;have fg:=fg.symm;have hU:=ab2 hk hu;have kJ:=bN t;rw[hk] at kJ;obtain⟨K1,fN,dj,fO,hT,hO⟩:=oC hP t;have aZ:=hP.lt;have oU:=fun K=>jb t K
 rw[hu,ai] at oU;have ji:=fun ok l b=>ga fN ok l b
 have h0:=fun l b=>fQ (l:=l) (b:=b) fN
 unfold nq at h0;have e1:=We hk hp gG fN l hl;have ho:=hO (l++af t) false;generalize af t=TT at e1 ho ⊢;rw[ai] at e1 ⊢;refine cW tR.eq_1 ?_;simp(disch:=omega)only[aO,aa,simprocAttr,dj,fO,oU,ji,h0,hT,avX,au4,bw,ab,ho,e1]
def akU{t:Tm}(hp:ay t=true)(gG:∀ u∈t.kids,mS u):mS t:=by
 refine⟨hp,fun mm K hP=>?_⟩
 rcases uK t.kind with e|e|e|e|e|e|e|e|e|e|e|e|e|e
 ·exact af7 e hp gG hP
 ·exact af9 e hp gG hP
 ·exact af' e hp gG hP
 ·exact aga e hp gG hP
 ·exact agb e hp gG hP
 ·exact agc e hp gG hP
 ·exact agd e hp gG hP
 ·exact age e hp gG hP
 ·exact agf e hp gG hP
 ·exact agh e hp gG hP
 ·exact Z8 e hp gG hP
 ·exact Z9 e hp gG hP
 ·exact aaa e hp gG hP
 ·have:=yW (vy hp)
  omega
theorem aeJ{t u:Tm}(h:u∈t.kids):SizeOf.sizeOf u<SizeOf.sizeOf t:=by
 cases t with
 | mk k n a f wn wk ks ns =>
  have:=List.sizeOf_lt_of_mem (show u∈ks from h)
  grind
def Lh(t:Tm)(hp:ay t=true):mS t :=
 akU hp (fun u hu=>Lh u ((vy hp).kids u hu))
termination_by SizeOf.sizeOf t
decreasing_by exact aeJ hu
def uN:∀ (l:List (List aB)) (i:Nat),(av (l.take i)).length<=(av l).length
 | [],i=>ag
 | a :: r,0=>by simp[av]
 | [a],i+1=>ag
 | a :: b :: r,1=>by simp only[av2,avV,av,List.length_append];omega
 | a :: b :: r,i+2=>by
  have ih:=uN (b :: r) (i+1);simp only[av2,av,List.length_append] at ih ⊢;omega
theorem Y1(h:fB k u=true):isWord u.name=true/\bX (.mk u.wn u.wk)=true/\(0<=u.jy/\u.jy<=1099511627776)/\(k=4\/u.jy=0):=by
 unfold fB at h
 grind
def Qa : 0<(cc k u).length:=by
 unfold cc;split<;>(simp only[List.length_append,List.length_cons,List.length_nil];omega)
theorem V4{f:Fm} : f.bP.length<=(av (f.bP.map (cc f.kind))).length:=by
 have:=z6 (f.bP.map (cc f.kind)) (fun x hx=>by obtain⟨u,_,rfl⟩:=List.mem_map.1 hx;exact Qa)
 grind
theorem G8{f:Fm}(hk:0<=f.kind/\f.kind<=5)(hp:gP f=true)(hlen:(fj f).length<=8000000)(H:ae):aj A 30 [.agg (bZ f)] H=some (.slice (strs (fj f)) true,none):=by
 obtain⟨kn,Qr⟩:∃ kn,kn=fI.getD f.kind.toNat []:=⟨_,rfl⟩;have fta:fj f=[kn,f.name,[40]]++av (f.bP.map (cc f.kind))++[[41]]++(if f.kind=0\/f.kind=1 then [] else bQ (.mk f.rn f.rk)++[[61]]++af f.body):=by unfold fj;rw[Qr]
 have hpf:=hp;unfold gP at hpf;rw[auT,auT] at hpf;obtain⟨⟨p1,p2⟩,p3⟩:=hpf;have ri:=V4 (f:=f);have hle:=fun i=>uN (f.bP.map (cc f.kind)) i
 have fq:∀ u∈f.bP,fB f.kind u=true:=fun u hu=>auX.1 p2 u hu
 generalize hLL:av (f.bP.map (cc f.kind))=LL at *;have uB:LL.length+4+(if f.kind=0\/f.kind=1 then [] else bQ (.mk f.rn f.rk)++[[61]]++af f.body).length<=8000000:=by
  grind
 rw[bZ];obtain⟨K,hK⟩:∃ K,K=H++[.box 85 [.int .i64 f.kind,.str f.name,.slice (f.bP.map fF) false,.str f.rn,.slice (aG f.rk) false,.int .i64 f.body.kind,.int .i64 f.body.n,.str f.body.name,.str f.body.field,.str f.body.wn,.slice (aG f.body.wk) false,.slice (aC f.body.kids) false,.slice (strs f.body.names) false,.slice (strs f.layout) false],.box 115 [.aq,.bool false]]:=⟨_,rfl⟩;obtain⟨mm,AM⟩:∃ mm,mm=H.length+1:=⟨_,rfl⟩;have hKl:K.length=H.length+2:=by rw[hK];simp
 have hP:PW mm K:=⟨ah,fun j cs hj=>by
  rw[hK,AM] at *;intro e;rw[List.getElem?_append_right ah] at e
  match tU:j-H.length with
  | 0=>omega
  | 1=>rw[tU] at e;cases e
  | n+2=>rw[tU] at e;simp at e⟩
 have h0:K[mm]?=some (.box 115 [.aq,.bool false]):=by rw[hK,AM];exact h2b
 obtain⟨k0,k5⟩:=hk;have adC:(strs fI)[f.kind.toNat]?=some [.str kn]:=by rw[Qr];exact ke (by show f.kind.toNat<6;omega)
 have ef:=Nw hP [kn] ag h0;rw[tT] at ef;have uF:=lI p1;have e1:=wu hP p1 ah [kn] ag;have e2:=dE hP [[40]] ([kn]++[f.name]) false ag ag;rw[tT] at e2;have fO:∀ l b,(cI mm l b K)[H.length]?=some (.box 85 [.int .i64 f.kind,.str f.name,.slice (f.bP.map fF) false,.str f.rn,.slice (aG f.rk) false,.int .i64 f.body.kind,.int .i64 f.body.n,.str f.body.name,.str f.body.field,.str f.body.wn,.slice (aG f.body.wk) false,.slice (aC f.body.kids) false,.slice (strs f.body.names) false,.slice (strs f.layout) false]):=fun l b=>by rw[hK,AM];exact IK
 have tG:∀ l b,(cI mm l b K).take H.length=H:=fun l b=>by rw[hK,AM];exact Am
 have CX:∀ l b x,((cI mm l b K).set mm x).take H.length=H:=fun l b x=>by rw[hK,AM];exact xH
 have qD:decide (mm<H.length)=false:=dw;have I2:=fun l b=>fQ (l:=l) (b:=b) hP
 unfold nq at I2;refine cB (fn:=C3) rfl rfl rfl ?_;refine im 5 (fun st=>∃ T g,st=⟨T,cI mm [kn,f.name,[40]] false K,H.length,g⟩/\T 1=.ref H.length 0/\T 3=.ref mm 0) ?_ ?_
 ·unfold C3
  simp only[aH.pre];have hKs:=hK.symm;have TK:=AM.symm;have hab:=mG (H:=H) (o:=.box 85 [.int .i64 f.kind,.str f.name,.slice (f.bP.map fF) false,.str f.rn,.slice (aG f.rk) false,.int .i64 f.body.kind,.int .i64 f.body.n,.str f.body.name,.str f.body.field,.str f.body.wn,.slice (aG f.body.wk) false,.slice (aC f.body.kids) false,.slice (strs f.body.names) false,.slice (strs f.layout) false]);have e2:aj A 60 [.ref mm 0,.slice [[.str [40]]] false] (cI mm ([kn]++[f.name]) false K)=some (.undef,some ⟨cI mm [kn,f.name,[40]] false K,mm⟩):=e2;generalize [kn]++[f.name]=l2 at e1 e2;simp(disch:=omega)only[aO,aa,simprocAttr,hab,TK,hKs,ahQ,adC,ef,e1,e2,fO,qD,au4,ab];exact⟨_,_,rfl,jd,jd⟩
 rintro st ⟨T,g,rfl,q1,q3⟩
 refine im 0 (fun st=>∃ T g,st=⟨T,cI mm ([kn,f.name,[40]]++LL) false K,H.length,g⟩/\T 1=.ref H.length 0/\T 3=.ref mm 0) ?_ ?_
 ·unfold C3
  simp only[aH.post,aH.pre];simp(disch:=omega)only[aO,aa,simprocAttr,q1,fO,ab];refine cj f.bP.length 0 (fun i st=>∃ T g,st=⟨T,cI mm ([kn,f.name,[40]]++av ((f.bP.map (cc f.kind)).take i)) false K,H.length,g⟩/\T 1=.ref H.length 0/\T 3=.ref mm 0/\T 32=.slice (f.bP.map fF) false/\T 33=.int .i64 f.bP.length/\T 34=.int .i64 i)
   (fun st=>∃ T g,st=⟨T,cI mm ([kn,f.name,[40]]++LL) false K,H.length,g⟩/\T 1=.ref H.length 0/\T 3=.ref mm 0) (fun _=>False) ?_ (fun st h=>h) (fun _ h=>h.elim) 0 _ ah ?_
  ·rintro i st hi ⟨T,g,rfl,q1,q3,q32,Y8,q34⟩
   by_cases aZ:i<f.bP.length
   ·have hx:=auS aZ
    have hm:=avj aZ;have mO:(f.bP.map (cc f.kind)).take (i+1)=(f.bP.map (cc f.kind)).take i++[cc f.kind f.bP[i]]:=by
     rw[awj,List.getElem?_map,hx];rfl
    have TO:=hle (i+1);have jX:=jH (cc f.kind f.bP[i]) ((f.bP.map (cc f.kind)).take i);rw[<- mO] at jX;generalize f.bP[i]=u at hx hm jX;have gb:=Tf hx;rw[fF] at gb;obtain⟨u1,u2,⟨m0,m1⟩,u4⟩:=Y1 (fq u hm);have T6:=lI u1;have hwX:=Pk _ u2;rw[hLL.symm] at uB;generalize yq:av ((f.bP.map (cc f.kind)).take i)=acc at *;have RG:((f.bP.map (cc f.kind)).take i=[])↔i=0:=by
     constructor
     ·intro h
      have:=awu List.length h
      rw[avK,List.length_map,List.length_nil] at this;omega
     ·intro h;rw[h];rfl
    rw[hLL] at uB;have fin:∀ (T' : aD) (g' : Nat) (lz:List aB),lz=[kn,f.name,[40]]++av ((f.bP.map (cc f.kind)).take (i+1))->T' 1=.ref H.length 0->T' 3=.ref mm 0->T' 32=.slice (f.bP.map fF) false->T' 33=.int .i64 f.bP.length->T' 34=.int .i64 ((i:Int)+1) ->
      i<f.bP.length/\∃ T g,(⟨T',cI mm lz false K,H.length,g'⟩:AS)=⟨T,cI mm ([kn,f.name,[40]]++av ((f.bP.map (cc f.kind)).take (i+1))) false K,H.length,g⟩/\T 1=.ref H.length 0/\T 3=.ref mm 0/\T 32=.slice (f.bP.map fF) false/\T 33=.int .i64 f.bP.length/\T 34=.int .i64 ((i:Int)+1) :=
     fun T' g' lz hz r1 r3 r32 r33 r34=>⟨aZ,T',g',by rw[hz],r1,r3,r32,r33,r34⟩
    obtain⟨nxt,aiC⟩:∃ x,x=av ((f.bP.map (cc f.kind)).take (i+1)):=⟨_,rfl⟩;rw[<- aiC] at jX TO;have fin:=fun T' g' lz (h:lz=[kn,f.name,[40]]++nxt)=>fin T' g' lz (by rw[h,aiC])
    obtain⟨la,hla,XU,adF,adG⟩:∃ la:List aB,la++cc f.kind u=[kn,f.name,[40]]++nxt/\la.length+(cc f.kind u).length<=8000000/\(i=0->la=[kn,f.name,[40]]++acc)/\(i≠0->aj A 60 [.ref mm 0,.slice [[.str [44]]] false] (cI mm ([kn,f.name,[40]]++acc) false K)=some (.undef,some ⟨cI mm la false K,mm⟩)):=by
     by_cases i0:i=0
     ·rw[if_pos (RG.2 i0)] at jX
      have hac:acc=[]:=by rw[<- yq,i0];rfl
      refine⟨[kn,f.name,[40]]++acc,by rw[hac,jX,List.append_nil],?_,fun _=>rfl,fun h=>absurd i0 h⟩
      rw[jX] at TO;rw[hac];simp only[List.length_append,List.length_cons,List.length_nil] at TO ⊢;omega
     ·rw[if_neg (fun h=>i0 (RG.1 h))] at jX
      rw[jX] at TO;simp only[List.length_append,List.length_cons,List.length_nil] at TO;refine⟨[kn,f.name,[40]]++acc++[[44]],by rw[jX];simp only[au8],?_,fun h=>absurd h i0,fun _=>?_⟩
      ·simp only[List.length_append,List.length_cons,List.length_nil];omega
      ·have:=dE hP [[44]] ([kn,f.name,[40]]++acc) false ag ko
       rwa [tT] at this
    generalize [kn,f.name,[40]]++acc=pra at adF adG ⊢;have eb:=wu hP u1 ah la ah
    by_cases k4:f.kind=4
    ·have hfd:cc f.kind u=[u.name]++bQ (.mk u.wn u.wk)++[lR u.jy.toNat]:=by unfold cc;rw[if_pos k4]
     rw[hfd] at hla XU;simp only[List.length_append,List.length_cons,List.length_nil] at XU;have ew:=hwX mm K hP (la++[u.name]) ko;rw[gR] at ew;have ji:=ga hP true (la++[u.name]++bQ (.mk u.wn u.wk)) false;simp only[avW,awp] at ji;have ed:=dE hP [lR u.jy.toNat] (la++[u.name]++bQ (.mk u.wn u.wk)) false ag ko;rw[tT] at ed;have HQ:=fun K=>MV u.jy K ⟨ah,ah⟩
     rw[H7 m0] at HQ;have fin:=fun T' g'=>fin T' g' (la++[u.name]++bQ (.mk u.wn u.wk)++[lR u.jy.toNat]) (by rw[<- hla];simp only[au8])
     generalize la++[u.name]++bQ (.mk u.wn u.wk)++[lR u.jy.toNat]=ld at *;generalize la++[u.name]++bQ (.mk u.wn u.wk)=lc at *;generalize la++[u.name]=lb at *
     by_cases i0:i=0
     ·rw[adF i0] at eb
      simp(disch:=omega)only[aO,aa,simprocAttr,q1,q3,q32,Y8,q34,gb,fO,eb,ew,ji,HQ,ed,qD,ab];refine fin _ _ ?_ ?_ ?_ ?_ ?_
      all_goals exact WI q1 q3 q32 Y8
     ·have ec:=adG i0
      simp(disch:=omega)only[aO,aa,simprocAttr,q1,q3,q32,Y8,q34,gb,fO,ec,eb,ew,ji,HQ,ed,qD,ab];refine fin _ _ ?_ ?_ ?_ ?_ ?_
      all_goals exact WI q1 q3 q32 Y8
    ·have hfd:cc f.kind u=[u.name]++bQ (.mk u.wn u.wk):=by unfold cc;rw[if_neg k4,List.append_nil]
     have hz:=u4.resolve_left k4;rw[hfd] at hla XU;simp only[List.length_append,List.length_cons,List.length_nil] at XU;have ew:=hwX mm K hP (la++[u.name]) ko;rw[gR] at ew;have ji:=ga hP true (la++[u.name]++bQ (.mk u.wn u.wk)) false;simp only[avW,awp] at ji;have fin:=fun T' g'=>fin T' g' (la++[u.name]++bQ (.mk u.wn u.wk)) (by rw[<- hla];simp only[au8])
     generalize la++[u.name]++bQ (.mk u.wn u.wk)=lc at *;generalize la++[u.name]=lb at *
     by_cases i0:i=0
     ·rw[adF i0] at eb
      simp(disch:=omega)only[aO,aa,simprocAttr,q1,q3,q32,Y8,q34,gb,fO,eb,ew,ji,qD,ab];refine fin _ _ ?_ ?_ ?_ ?_ ?_
      all_goals exact WI q1 q3 q32 Y8
     ·have ec:=adG i0
      simp(disch:=omega)only[aO,aa,simprocAttr,q1,q3,q32,Y8,q34,gb,fO,ec,eb,ew,ji,qD,ab];refine fin _ _ ?_ ?_ ?_ ?_ ?_
      all_goals exact WI q1 q3 q32 Y8
   ·obtain rfl:i=f.bP.length:=ah
    rw[avq ag,hLL];simp(disch:=omega)only[aO,aa,simprocAttr,Y8,q34,au4];exact⟨_,_,rfl,fY q1,fY q3⟩
  ·refine⟨_,_,rfl,?_,?_,?_,?_,?_⟩
   all_goals exact RQ q1 q3
 rintro st ⟨T,g,rfl,q1,q3⟩
 refine im 1 (fun st=>∃ T g,st=⟨T,cI mm (fj f) false K,H.length,g⟩/\T 3=.ref mm 0) ?_ ?_
 ·have e4:=dE hP [[41]] ([kn,f.name,[40]]++LL) false ag ko
  rw[tT] at e4;have e6:((C3.body.post 5).post 0)=C3.body.post 6:=oW 5 _;rw[e6]
  by_cases b01:f.kind=0\/f.kind=1
  ·have adi:(decide (f.kind=0) || decide (f.kind=1))=true:=by rcases b01 with b|b<;>simp[b]
   rw[adi,cond_true,zero_eq] at p3;simp only[auT] at p3;obtain⟨d1,d2,d3,d4,d5⟩:=p3;have oU:=fun K=>jb f.body K
   rw[ai] at oU;have ji:=ga hP true ([kn,f.name,[40]]++LL++[[41]]) false;simp only[avW,awp] at ji;rw[if_pos b01,List.append_nil] at fta;rw[<- fta] at ji e4;have ann:(f.kind==0)=true\/(f.kind==0)=false/\(f.kind==1)=true:=by
    rcases b01 with b|b
    ·exact .inl (by simp[b])
    ·exact .inr (by simp[b])
   generalize [kn,f.name,[40]]++LL=lx at e4 ⊢;generalize fj f=ly at ji e4 ⊢;unfold C3;simp only[aH.post,aH.pre]
   rcases ann with hk|⟨hk,zi⟩
   ·simp(disch:=omega)only[aO,aa,simprocAttr,q1,q3,fO,ig,oU,hk,d1,d2,d3,d4,d5,e4,ji,qD,ab]
    exact⟨_,_,rfl,fY q3⟩
   ·simp(disch:=omega)only[aO,aa,simprocAttr,q1,q3,fO,ig,oU,hk,zi,d1,d2,d3,d4,d5,e4,ji,qD,ab]
    exact⟨_,_,rfl,fY q3⟩
  ·have adi:(decide (f.kind=0) || decide (f.kind=1))=false:=by
    have h1:¬ f.kind=0:=fun h=>b01 (.inl h)
    have h2:¬ f.kind=1:=fun h=>b01 (.inr h)
    simp[h1,h2]
   rw[adi,cond_false,auT] at p3;obtain⟨d1,d2⟩:=p3;rw[if_neg b01] at fta uB;simp only[List.length_append,List.length_cons,List.length_nil] at uB;have zh:(f.kind==0)=false:=by simpa using fun h=>b01 (.inl h)
   have zi:(f.kind==1)=false:=by simpa using fun h=>b01 (.inr h)
   have e5:=Pk _ d1 mm K hP ([kn,f.name,[40]]++LL++[[41]]) ko;rw[gR] at e5;have e7:=dE hP [[61]] ([kn,f.name,[40]]++LL++[[41]]++bQ (.mk f.rn f.rk)) false ag ko;rw[tT] at e7;have e8:=(Lh f.body d2).2 mm K hP ([kn,f.name,[40]]++LL++[[41]]++bQ (.mk f.rn f.rk)++[[61]]) ko;rw[ai] at e8;rw[show fj f=[kn,f.name,[40]]++LL++[[41]]++bQ (.mk f.rn f.rk)++[[61]]++af f.body by rw[fta];simp only[au8]]
   generalize [kn,f.name,[40]]++LL++[[41]]++bQ (.mk f.rn f.rk)++[[61]]++af f.body=l6 at e8 ⊢;generalize [kn,f.name,[40]]++LL++[[41]]++bQ (.mk f.rn f.rk)++[[61]]=l5 at e7 e8;generalize [kn,f.name,[40]]++LL++[[41]]++bQ (.mk f.rn f.rk)=l4 at e5 e7;generalize [kn,f.name,[40]]++LL++[[41]]=l3 at e4 e5;generalize [kn,f.name,[40]]++LL=lx at e4 ⊢;unfold C3;simp only[aH.post,aH.pre];simp(disch:=omega)only[aO,aa,simprocAttr,q1,q3,fO,zh,zi,e4,e5,e7,e8,qD,ab];exact⟨_,_,rfl,fY q3⟩
 ·rintro st ⟨T,g,rfl,q3⟩
  have e6:((C3.body.post 5).post 0).post 1=C3.body.post 8:=rfl;rw[e6];unfold C3;simp only[aH.post];simp(disch:=omega)only[aO,aa,simprocAttr,q3,I2,CX,qD,cO,cJ,avd,ab]
def aal{f:Fm}(hk:0<=f.kind/\f.kind<=5)(hp:gP f=true)(hlen:(fj f).length<=1000000):WK f :=
 ⟨fun H=>by unfold l9;rw[if_pos hp];exact G8 hk hp ah H,by unfold l9;rw[if_pos hp];exact hlen⟩
def jz(s:aB):So × Int:=(qI 80000 s).getD (⟨[],[],[],[],[]⟩,0)
theorem Ds(s:aB):qI 80000 s=some (jz s):=by
 obtain⟨r,hr⟩:=Np (n:=80000) (s:=s) (by omega)
 unfold jz;rw[hr];rfl
def Vd(hs:s.length<=4611686018427387904)(H:ae):aj (PL 80000) 8 [.str s] H=some (.tuple [.agg (nu (jz s).1),.int .i64 (jz s).2],none):=by
 refine Y0 (n:=80000) (by omega) hs (fun mN q hq hb f hf=>?_) (Ds s)
 ·obtain⟨_,_,qq,_,_⟩:=y6 mN
  have ho:=ZE qq hq hb f hf;exact aal ho.k ho.p (by have:=ho.n;omega)
def dA(l:aB):List (List AV):=l.map fun b=>[.int .u8 b.toNat]
def Ce{l:aB} : (dA l).length=l.length:=by simp[dA]
def FV:∀ l:aB,bytesOf (dA l)=some l
 | []=>rfl
 | b :: l=>by
  have:=FV l
  simp only[dA] at this;simp only[dA,au9,bytesOf,this,au2];simp
def Cd:∀ l:aB,nS (dA l)=true
 | []=>rfl
 | b :: l=>by
  have:=Cd l
  simp only[nS,dA] at this;simp only[nS,dA,au9,List.all_cons,this,avI]
def Aw:∀ l:aB,vb (dA l)=true
 | []=>rfl
 | b :: l=>by
  have:=Aw l
  simp only[vb,dA] at this;have hb:=axz b;simp only[vb,dA,au9,List.all_cons,this,avI,auT,au1];omega
def Sv{l:aB} : ∀ r∈dA l,r.length=1:=fun r hr=>by simp only[dA,List.mem_map] at hr;obtain⟨n,_,rfl⟩:=hr;rfl
def FN{a:aB}(h:a.length+s.length<=1000000000):aF true 1 1 (.slice (dA a) true) (.str s)=some (.slice (dA (a++s)) true):=by
 have e:(s.map fun (b:UInt8)=>[AV.int .u8 b.toNat])=dA s:=rfl
 simp only[aF,bu,Jg,cond_true,auW,e];have ha:dA a++dA s=dA (a++s):=by simp[dA]
 cases s with
 | nil=>simp[dA]
 | cons b s =>
  have hf:cE 1 1 (dA a) (dA (b :: s))=true:=by
   simp only[cE,zQ Sv,Ce,avA (show (a.length+(b :: s).length)*1<=70368744177664 by omega),avA (show a.length+(b :: s).length<=70368744177664 by omega),Bool.and_self]
  have hr:mz true (dA a++dA (b :: s))=true:=by rw[ha];exact Cd _
  show (cond (true&&cE 1 1 (dA a) (dA (b :: s))&&mz true (dA a++dA (b :: s))) (some (AV.slice (dA a++dA (b :: s)) true)) none)=_
  rw[hf,hr,ha];rfl
def Bd(n:Nat)(p v:AV)(s:aB):Prop:=(p=.kX/\v=.aq/\s=[])\/(p=.ref n 0/\v=.slice (dA s) true)
def OV{B:ae}{ty:TypeId} : l7 (B.length+1) B.length (B++[.box ty cs])=true:=by
 unfold l7;have h1:(B++[bM.box ty cs]).take (B.length+1)=B++[.box ty cs]:=avq ag;rw[h1];have h2:(B++[bM.box ty cs]).drop B.length=[.box ty cs]:=ag;rw[h2];cases Nat.beq B.length (B.length+1)<;>rfl
def Pb{B:ae}{o:bM} : (B++[o]).take (B.length+1)=B++[o]:=avq ag
def LQ(h:s.length<=1000000000):aF true 1 1 (.slice [] true) (.str s)=some (.slice (dA s) true):=FN (a:=[]) (cT h)
def Lk(B:ae)(p v:AV)(s t:aB)(hp:Bd B.length p v s)(hl:s.length+t.length<=1000000000):aj A 71 [.ref B.length 0,.str t] (B++[.box 125 [p,v]]) =
  some (.tuple [.int .i64 t.length,.de],some ⟨B++[.box 125 [.ref B.length 0,.slice (dA (s++t)) true]],B.length⟩):=by
 refine cW ajr.eq_1 ?_
 rcases hp with ⟨rfl,rfl,rfl⟩|⟨rfl,rfl⟩
 ·have hc:aj A 112 [.ref B.length 0] (B++[.box 125 [.kX,.aq]])=some (.undef,some ⟨B++[.box 125 [.ref B.length 0,.aq]],B.length⟩):=by
   refine fZ (A:=A) (f:=112) (g:=jI) rfl ?_;simp only[jI,mG,heap_set]
  have a1:=LQ (s:=t) ah;rw[avM];simp(disch:=omega)only[aO,aa,simprocAttr,hc,a1,aX,Pb,OV,Nat.lt_add_one,au4,cO,cJ,avp,avd,ab]
 ·have hc:aj A 112 [.ref B.length 0] (B++[.box 125 [.ref B.length 0,.slice (dA s) true]])=some (.undef,none):=by
   refine fZ (A:=A) (f:=112) (g:=jI) rfl ?_;simp only[jI,mG,awF,cond_true]
  have a1:=FN (a:=s) (s:=t) ah;simp(disch:=omega)only[aO,aa,simprocAttr,hc,a1,aX,Pb,OV,Nat.lt_add_one,au4,cO,cJ,avp,avd,ab]
def Rq(B:ae)(p:AV)(s:aB)(hl:s.length<=1000000000)(hs0:s≠[]):aj A 72 [.ref B.length 0] (B++[.box 125 [p,.slice (dA s) true]])=some (.str s,none):=by
 refine fZ (A:=A) (f:=72) (g:=rD) rfl ?_;have he:(!(dA s).isEmpty)=true:=by cases s with|nil=>exact absurd rfl hs0|cons a r=>rfl
 simp only[rD,mG,Ce,FV,au2,avA (show s.length<=4611686018427387904 by omega),Aw,he,Bool.and_self,cond_true]
structure JH (n0:Nat) (l y:List aB) (B:ae):Prop where
 lt:n0+1<B.length
 t:B[n0]?=some (.bV [.slice (strs l) false])
 y:B[n0+1]?=some (.bV [.slice (strs y) false])
def Gi{B:ae}{o p:bM}{i:Nat}(h:B[i]?=some p):(B++[o])[i]?=some p:=by
 have:=(auU.1 h).1
 rw[au3 this];exact h
def Xg{n0:Nat}{y:List aB}{B:ae}(h:JH n0 l y B)(i:Nat)(hi:i<l.length)(hy:y.length=l.length+1)(p v:AV)(s:aB)(hp:Bd B.length p v s)(CL:∀ s∈l,s.length<=8192)(j7:∀ s∈y,s.length<=8192)(hs:s.length<=400000000)(oT:l.length<=20000) :
  aj A 70 [.int .i64 i,.ref B.length 0,.ref (n0+1) 0,.ref n0 0] (B++[.box 125 [p,v]])=some (.undef,some ⟨B++[.box 125 [.ref B.length 0,.slice (dA (s++(y.getD i []++l.getD i []))) true]],B.length⟩):=by
 have g1:=ph CL i;have g2:=ph j7 i;have hl1:=ke hi;have D7:=Lk B p v s (y.getD i []) hp ah;have Qy:=Lk B (.ref B.length 0) (.slice (dA (s++y.getD i [])) true) (s++y.getD i []) (l.getD i []) (.inr ⟨rfl,rfl⟩) (by rw[List.length_append];omega)
 rw[au8] at Qy;have ht1:=Gi (o:=.box 125 [p,v]) h.t;have ht2:=fun w=>Gi (o:=.box 125 [.ref B.length 0,w]) h.t
 refine cW ajq.eq_1 ?_;have hyy:=h.y;have hy1:=Gi (o:=.box 125 [p,v]) hyy;have hyl:=ke (l:=y) (i:=i) ah;generalize y.getD i []=a at *;generalize l.getD i []=b at *;simp(disch:=omega)only[aO,aa,simprocAttr,ht2,hy1,hyl,hl1,D7,Qy,Pb,OV,au4,u9,ab]
def Xf{n0:Nat}{y:List aB}{B:ae}(h:JH n0 l y B)(hy:y.length=l.length+1)(h0:0<l.length)(CL:∀ s∈l,s.length<=8192)(j7:∀ s∈y,s.length<=8192)(oT:l.length<=20000) :
  aj A 69 [.func (.func 70) [] [.ref B.length 0,.ref (n0+1) 0,.ref n0 0],.ref n0 0] (B++[.box 125 [.kX,.aq]])=some (.undef,some ⟨B++[.box 125 [.ref B.length 0,.slice (dA (nX l y l.length)) true]],B.length⟩):=by
 have ht:=fun o=>Gi (o:=o) h.t
 refine cW ajp.eq_1 ?_;simp(disch:=omega)only[aO,aa,simprocAttr,ht,bG,u9,ab];refine cj l.length 0 (fun i st=>∃ T p v lo,st=⟨T,B++[.box 125 [p,v]],lo,0⟩/\Bd B.length p v (nX l y i)/\(lo=B.length\/lo=B.length+1)/\(i=0\/(lo=B.length/\p=.ref B.length 0/\v=.slice (dA (nX l y i)) true))/\T 0=.func (.func 70) [] [.ref B.length 0,.ref (n0+1) 0,.ref n0 0]/\T 5=.int .i64 l.length/\T 6=.int .i64 i)
  (fun st=>∃ T,st=⟨T,B++[.box 125 [.ref B.length 0,.slice (dA (nX l y l.length)) true]],B.length,0⟩) (fun _=>False) ?_ ?_ (fun _ h=>h.elim) 0 _ ah ?_
 ·rintro i st hi ⟨T,p,v,lo,rfl,hp,we,RG,q0,q5,q6⟩
  by_cases aZ:i<l.length
  ·have tU:=vl CL j7 i
   have hjm:i*(2*8192)<=20000*(2*8192):=au6 _ ah;have he:=Xg h i aZ hy p v (nX l y i) hp CL j7 ah oT;rw[<- sO] at he;have Kd:(bif decide (B.length<lo) then B.length else lo)=B.length:=by
    rcases we with rfl|rfl
    ·simp
    ·simp
   simp(disch:=omega)only[aO,aa,simprocAttr,q0,q5,q6,he,Kd];refine⟨aZ,_,_,_,_,rfl,.inr ⟨rfl,rfl⟩,.inl rfl,.inr ⟨rfl,rfl,rfl⟩,?_,?_,?_⟩
   all_goals exact RQ q0 q5
  ·obtain rfl:i=l.length:=ah
   simp(disch:=omega)only[aO,aa,simprocAttr,q5,q6,au4]
   rcases RG with XJ|⟨rfl,rfl,rfl⟩
   ·omega
   ·exact⟨_,rfl⟩
 ·rintro st ⟨T,rfl⟩
  simp(disch:=omega)only[aO,aa,simprocAttr,Pb,OV]
 ·refine⟨_,_,_,_,rfl,.inl ⟨rfl,rfl,rfl⟩,.inr rfl,.inl rfl,?_,?_,?_⟩
  all_goals exact jd
def Gv{y:List aB}(h0:0<l.length)(h:0<(l.getD 0 []).length):0<(nX l y l.length).length:=by
 have hm:∀ i,(nX l y 1).length<=(nX l y (i+1)).length:=fun i=>by
  induction i with
  | zero=>exact Nat.le_refl _
  | succ i ih=>rw[sO (i:=i+1),List.length_append];omega
 have h1:=hm (l.length-1);rw[show l.length-1+1=l.length by omega] at h1
 have h2:0<(nX l y 1).length:=by rw[sO,List.length_append,List.length_append];omega
 omega
def qs(l y:List aB):aB:=nX l y l.length++y.getD l.length []
def Gw(l y:List aB)(H:ae)(h0:0<l.length)(hl:l.length<=20000)(hb:∀ s∈l,s.length<=8192)(j7:∀ s∈y,s.length<=8192)(hyl:y.length=l.length+1)(hfs:0<(l.getD 0 []).length) :
  aj A 32 [.slice (strs l) false,.slice (strs y) false] H=some (.str (qs l y),none):=by
 have tU:=vl hb j7 l.length;have hjm:l.length*(2*8192)<=20000*(2*8192):=au6 _ hl;have g2:=ph j7 l.length;have tP:decide (H.length+1<H.length)=false:=ag;refine cB (fn:=Yi) rfl rfl rfl ?_;refine im 1 (fun st=>∃ T B,st=⟨T,B,H.length,0⟩/\JH H.length l y B/\B.take H.length=H/\H.length+2<=B.length/\T 2=.ref H.length 0/\T 3=.ref (H.length+1) 0) ?_ ?_
 ·unfold Yi
  simp only[aH.pre];simp(disch:=omega)only[nK,cY,cb,ct,cm,gC,aP,aQ,br,aE.eval,AS.bW,↓reduceIte,Nat.reduceEqDiff,Option.isSome,Option.isNone,cond_true,cond_false,Nat.reduceBEq,Nat.reduceAdd,Nat.reduceMul,aa,cn,avs,reduceCtorEq,gr,cZ,cd,bD,bound,dc,AS.bC,aN,bI,bu,Nat.reduceLeDiff,cq,putAt,Int.reduceEq,Int.reduceLT,Int.reduceLE,Int.reduceBEq,Int.reduceBNe,Int.reduceAdd,Int.reduceNeg,Int.reduceSub,Int.reduceMul,dQ,dP,dO,dN,dM,dL,dS,dR,au,bA,au5,au7,aft,tP,bG,au4,cond_false,cond_true,u9,ab];refine⟨_,_,rfl,⟨ag,h2a,h2b⟩,h2t,ag,?_,?_⟩
  all_goals simp(disch:=omega)only[nK,cY,cb,ct,cm,gC,aP,aQ,br,aE.eval,AS.bW,↓reduceIte,Nat.reduceEqDiff,Option.isSome,Option.isNone,cond_true,cond_false,Nat.reduceBEq,Nat.reduceAdd,Nat.reduceMul,aa,cn,avs,reduceCtorEq,gr,cZ,cd,bD,bound,dc,AS.bC,aN,bI,bu,Nat.reduceLeDiff,cq,putAt,Int.reduceEq,Int.reduceLT,Int.reduceLE,Int.reduceBEq,Int.reduceBNe,Int.reduceAdd,Int.reduceNeg,Int.reduceSub,Int.reduceMul,dQ,dP,dO,dN,dM,dL,dS,dR]
 ·rintro st ⟨T,B,rfl,hJ,hBt,hBl,q2,q3⟩
  unfold Yi qs;have he:=Xf hJ hyl h0 hb j7 ah;have gZ:=Rq B (.ref B.length 0) (nX l y l.length) ah (fun h=>by have:=Gv (y:=y) h0 hfs;rw[h] at this;simp at this)
  have w5:decide (B.length<H.length)=false:=dw;have mO:∀ o,(B++[o]).take H.length=H:=fun o=>by rw[awg ah,hBt]
  have ht:=fun o=>Gi (o:=o) hJ.t
  simp only[aH.post];have hy1:=fun o=>Gi (o:=o) hJ.y
  have hyg:=ke (l:=y) (i:=l.length) ah;generalize y.getD l.length []=a at *;simp(disch:=omega)only[nK,cY,cb,ct,cm,gC,aP,aQ,br,aE.eval,AS.bW,↓reduceIte,Nat.reduceEqDiff,Option.isSome,Option.isNone,cond_true,cond_false,Nat.reduceBEq,Nat.reduceAdd,Nat.reduceMul,aa,cn,avs,reduceCtorEq,gr,cZ,cd,bD,bound,dc,AS.bC,aN,bI,bu,Nat.reduceLeDiff,cq,putAt,Int.reduceEq,Int.reduceLT,Int.reduceLE,Int.reduceBEq,Int.reduceBNe,Int.reduceAdd,Int.reduceNeg,Int.reduceSub,Int.reduceMul,dQ,dP,dO,dN,dM,dL,dS,dR,au,bA,au5,au7,q2,q3,he,gZ,w5,ht,hy1,hyg,bG,mO,cond_false,cond_true,u9,ab]
end Go.Proofs.YtnhpoddlmjpapaaGreatDoor
end
