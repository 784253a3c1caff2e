/-
  A part of the proof of SyntaxErrors: UR44, UR45, UR46, UR47, UW1, UW2, UW3.
-/
import Derived.Test.YtbadnagdfefbnaaGreatDoorQ13
set_option linter.unusedSimpArgs false
set_option linter.unusedVariables false
set_option linter.defProp false
set_option maxHeartbeats 1000000
set_option maxRecDepth 100000
noncomputable section
namespace Go.Proofs.YtbadnagdfefbnaaGreatDoor
open Go Go.Abs Go.Proofs
variable {kd lv o:Int}{h0 ts:List ay}{i mm off:Nat}{tb:Nat->List ay}{s:PS}{β:Type}{K:ae}{u w:ay}
section
def LB(xs:List (List ay)):List ay:=if xs=[] then [] else au xs++[[44]]
def NA(xs:List (List ay))(x:List ay):au (xs++[x])=LB xs++x:=by rw[jg];unfold LB;split<;>simp_all
def aaC{xs:List (List ay)}(h:xs≠[]):LB xs=au xs++[[44]]:=if_neg h
def FO(p q:ay)(y:List ay × Int):∀ (ys:List (List ay × Int)) (ns:List ay),ns.length=2*ys.length->jA (ns++[p,q]) (ys++[y])=jA ns ys++[[p,q,[45,62]]++y.1]
 | [],[],_=>rfl
 | [],_ :: _,h=>by simp at h
 | z :: ys,[],h=>by simp at h
 | z :: ys,[_],h=>by simp at h;omega
 | z :: ys,a :: b :: ns,h=>by
  show (([a,b,[45,62]]++z.1) :: jA (ns++[p,q]) (ys++[y]))=([a,b,[45,62]]++z.1) :: (jA ns ys++[[p,q,[45,62]]++y.1])
  rw[FO p q y ys ns (by simp at h;omega)]
def aoa(t:Tm):0<=bE t:=by
 unfold bE;split
 ·omega
 ·split
  ·have ft:∀ x∈BX,0<=x:=by decide
   unfold cQ;split
   ·exact awM 0
   ·show 0<=BX.getD _ 0
    rw[List.getD_eq_getElem?_getD];cases h:BX[t.n.toNat]? with
    | none=>exact awM 0
    | some x=>exact ft x (avb h)
  ·omega
section
variable {tk:List Tk}{E B:EP}
def ajH(h:(pk (aq tk) s==w)=true)(hw:w≠[]):s.bad=false:=by
 cases hb:s.bad with
 | false=>rfl
 | true =>
  have h:=eq_of_beq h;unfold pk at h;rw[hb,cond_true] at h;exact absurd h.symm hw
def Rd.pk(h:(pk (aq tk) s==w)=true)(hw:w≠[]):Rd tk s.i [w] s.up.i:=Rd.tok (ajH h hw) h hw
def II(tk:List Tk)(l:Int)(E:EP):Prop:=∀ s r,E s=some r->r.2.bad=false->az r.1=true/\NP (af r.1)/\Rd tk s.i (fT (af r.1,bE r.1) l) r.2.i
def II.ge{l:Int}{E:EP}(h:II tk l E)(hl:0<=l){r:Tm × PS}(hr:E s=some r)(hb:r.2.bad=false):az r.1=true/\NP (af r.1)/\Rd tk s.i (af r.1) r.2.i:=by
 obtain⟨h1,h2,h3⟩:=h s r hr hb;have:=h3.QG hl h2
 rw[OC _ (aoa r.1)] at this;exact⟨h1,h2,this⟩
def hiR{t:Tm}{j:Nat}{k:Int}(h:k<=bE t)(h2:Rd tk i (af t) j):Rd tk i (fT (af t,bE t) k) j:=by rw[OC _ h];exact h2
def HZ(hE:II tk 0 E){ks:List Tm}{r:List Tm × PS}(h:rm E ks s=some r)(hb:r.2.bad=false):∃ t,r.1=ks++[t]/\az t=true/\Rd tk s.i (af t) r.2.i:=by
 unfold rm at h;rw[au2] at h;obtain⟨q,hq,rfl⟩:=h;obtain⟨h1,h2,h3⟩:=hE.ge (awM 0) hq hb;exact⟨q.1,rfl,h1,h3⟩
def xw(hE:II tk 0 E)(hw:w≠[]){ks:List Tm}{r:List Tm × PS}(h:nG (aq tk) E w ks s=some r)(hb:r.2.bad=false):(∃ t,r.1=ks++[t]/\az t=true/\Rd tk s.i ([w]++af t) r.2.i)/\s.bad=false:=by
 unfold nG at h;cases hx:(aQ (aq tk) w s).bad with
 | true=>rw[hx,cond_true,au4] at h;subst h;rw[hx] at hb;cases hb
 | false =>
  rw[hx,cond_false] at h;obtain⟨t,h1,h2,h3⟩:=HZ hE h hb;exact⟨⟨t,h1,h2,(Rd.want hw hx).app h3⟩,(ff hx).1⟩
section
variable {n:Int}{a f p q:ay}{wn:ay}{wk:List Wd}{ns:List ay}{ks:List Tm}{x y z:Tm}
def tt5:af (.mk 5 n a f wn wk [x,y,z] ns)=[Hf]++af x++([Ch]++af y)++([Cf]++af z):=by rw[bJ];show [[105,102]]++af x++[[116,104,101,110]]++af y++[[101,108,115,101]]++af z=_;simp[Hf,Ch,Cf]
def tt6:af (.mk 6 n a f wn wk [x,y] [p])=[xZ]++[p]++([[61]]++af x)++([RR]++af y):=by rw[bJ];show [[108,101,116],p,[61]]++af x++[[105,110]]++af y=_;simp[xZ,RR]
def aoD:af (.mk 12 n a f wn wk [x,y,z] [p,q])=[sJ]++([p]++[[44]]++[q])++([[61]]++af y)++([Cg]++af x)++([RQ]++af z):=by rw[bJ];show [[102,111,108,100],p,[44],q,[61]]++af y++[[111,118,101,114]]++af x++[[100,111]]++af z=_;simp[sJ,Cg,RQ]
def aoB:af (.mk 10 n a f wn wk (x :: ks) ns)=[nV]++(aL a++[[40]]++af x++[[41]]++[[123]]++(au (jA ns (ks.map fun t=>(af t,bE t)))++[[125]])):=by
 rw[bJ];show [[109,97,116,99,104]]++aL a++[[40]]++af x++[[41]]++[[123]]++au (jA ns (ks.map fun t=>(af t,bE t)))++[[125]]=_;simp[nV]
def tt7:af (.mk 7 n a f wn wk ks ns)=aL a++[[123]]++(au (List.zipWith (fun s (x:List ay × Int)=>[s,[61]]++x.1) ns (ks.map fun t=>(af t,bE t)))++[[125]]):=by
 rw[bJ];show aL a++[[123]]++au (List.zipWith (fun s (x:List ay × Int)=>[s,[61]]++x.1) ns (ks.map fun t=>(af t,bE t)))++[[125]]=_;simp
def tt3:af (.mk 3 n a f wn wk ks ns)=aL a++[[40]]++(au (ks.map af)++[[41]]):=by
 rw[bJ];show gp 3 n a f (.mk wn wk) ns (ks.map fun t=>(af t,bE t))=_
 rw[b3,awh,show ((fun x:List ay × Int=>x.1) ∘ fun t=>(af t,bE t))=af from rfl];simp
def aoC:af (.mk 11 n a f wn wk ks ns)=[iN]++([[40]]++bW (.mk wn wk)++[[41]])++[[91]]++(au (ks.map af)++[[93]]):=by
 rw[bJ];show gp 11 n a f (.mk wn wk) ns (ks.map fun t=>(af t,bE t))=_
 rw[b11,awh,show ((fun x:List ay × Int=>x.1) ∘ fun t=>(af t,bE t))=af from rfl];simp[iN]
def tt8:af (.mk 8 n a f wn wk [x] ns)=aL a++[[58]]++[f]++[[91]]++af x++[[93]]:=by rw[bJ];show aL a++[[58],f]++[[91]]++af x++[[93]]=_;simp
def tt9:af (.mk 9 n a f wn wk [x] ns)=aL a++[[58]]++[f]++[[40]]++af x++[[41]]:=by rw[bJ];show aL a++[[58],f]++[[40]]++af x++[[41]]=_;simp
def akx:af (.mk 4 n a f wn wk [x] ns)=[(cQ n).1]++fT (af x,bE x) 7:=by rw[bJ];rfl
def aoE:af (.mk 4 n a f wn wk [x,y] ns)=fT (af x,bE x) (if (cQ n).2=3 then 4 else (cQ n).2)++[(cQ n).1]++fT (af y,bE y) ((cQ n).2+1):=by rw[bJ];rfl
def tt0:af (.mk 0 n a f wn wk ks ns)=if n<0 then [[45],jT (-n).toNat] else [jT n.toNat]:=by rw[bJ];exact b0
def tt2:af (.mk 2 n a f wn wk ks ns)=[a]:=by rw[bJ];rfl
end
def acZ(hE:II tk 0 E)(hB:II tk 1 B):II tk 0 (qG (aq tk) E B):=by
 intro s r h hb;unfold qG at h;cases h1:(pk (aq tk) s==Hf) with
 | true =>
  rw[h1,cond_true,au3] at h;obtain⟨a,ha,h⟩:=h;rw[au3] at h;obtain⟨b,kO,h⟩:=h;rw[au2] at h;obtain⟨c,hc,rfl⟩:=h;obtain⟨⟨z,ez,pz,lz⟩,bb⟩:=xw hE aI hc hb;obtain⟨⟨y,ey,py,ly⟩,ba⟩:=xw hE aI kO bb;obtain⟨x,ex,px,lx⟩:=HZ hE ha ba;have e:c.1=[x,y,z]:=by rw[ez,ey,ex];rfl
  show az (.mk 5 0 [] [] [] [] c.1 [])=true/\NP (af (.mk 5 0 [] [] [] [] c.1 []))/\Rd tk s.i (fT (af (.mk 5 0 [] [] [] [] c.1 []),bE (.mk 5 0 [] [] [] [] c.1 [])) 0) c.2.i
  rw[e,tt5];refine⟨?_,.l (.l (.l (.c aI))),?_⟩
  ·rw[Vu rfl rfl]
   show (true&&List.all [x,y,z] az)=true
   simp[px,py,pz]
  ·exact (((Rd.pk h1 aI).app lx).app ly).app lz
 | false =>
  rw[h1,cond_false] at h;cases h2:(pk (aq tk) s==xZ) with
  | true =>
   rw[h2,cond_true,au3] at h;obtain⟨a,ha,h⟩:=h;rw[au2] at h;obtain⟨c,hc,rfl⟩:=h;obtain⟨⟨y,ey,py,ly⟩,ba⟩:=xw hE aI hc hb;obtain⟨⟨x,ex,px,lx⟩,bn⟩:=xw hE aI ha ba;have hn:=(ig bn).2.1;have e:c.1=[x,y]:=by rw[ey,ex];rfl
   show az (.mk 6 0 [] [] [] [] c.1 [(aF (aq tk) s.up).1])=true/\NP (af (.mk 6 0 [] [] [] [] c.1 [(aF (aq tk) s.up).1]))/\Rd tk s.i (fT (af (.mk 6 0 [] [] [] [] c.1 [(aF (aq tk) s.up).1]),0) 0) c.2.i
   rw[e,tt6];refine⟨?_,.l (.l (.l (.c aI))),?_⟩
   ·rw[Vv rfl rfl]
    show (true&&List.all [(aF (aq tk) s.up).1] isWord&&List.all [x,y] az)=true
    simp[px,py,hn]
   ·exact (((Rd.pk h2 aI).app (Rd.name bn)).app lx).app ly
  | false =>
   rw[h2,cond_false] at h;cases h3:(pk (aq tk) s==sJ) with
   | true =>
    rw[h3,cond_true,au3] at h;obtain⟨a,ha,h⟩:=h;rw[au3] at h;obtain⟨b,kO,h⟩:=h;rw[au2] at h;obtain⟨c,hc,rfl⟩:=h;obtain⟨⟨z,ez,pz,lz⟩,bb⟩:=xw hE aI hc hb;obtain⟨⟨y,ey,py,ly⟩,ba⟩:=xw hE aI kO bb;obtain⟨⟨x,ex,px,lx⟩,bn⟩:=xw hE aI ha ba;have hf:∃ u v,(oe (aq tk) s.up).1=[u,v]/\isWord u=true/\isWord v=true/\Rd tk s.up.i ([u]++[[44]]++[v]) (oe (aq tk) s.up).2.i:=by
     unfold oe at bn ⊢;cases gV:(aQ (aq tk) [44] (aF (aq tk) s.up).2).bad with
     | true=>rw[gV,cond_true] at bn;rw[gV] at bn;cases bn
     | false =>
      rw[gV,cond_false] at bn;exact⟨_,_,rfl,(ig (ff gV).1).2.1,(ig bn).2.1,((Rd.name (ff gV).1).app (Rd.want aI gV)).app (Rd.name bn)⟩
    obtain⟨u,v,ef,pu,pv,lf⟩:=hf;have hcb:c.2.bad=false:=hb;have e:(bif c.2.bad then c.1 else xM c.1)=[y,x,z]:=by rw[hcb,cond_false,ez,ey,ex];rfl
    show az (.mk 12 0 [] [] [] [] (bif c.2.bad then c.1 else xM c.1) (oe (aq tk) s.up).1)=true/\NP (af (.mk 12 0 [] [] [] [] (bif c.2.bad then c.1 else xM c.1) (oe (aq tk) s.up).1))/\Rd tk s.i (fT (af (.mk 12 0 [] [] [] [] (bif c.2.bad then c.1 else xM c.1) (oe (aq tk) s.up).1),0) 0) c.2.i
    rw[e,ef,aoD];refine⟨?_,.l (.l (.l (.l (.c aI)))),?_⟩
    ·rw[M8 rfl rfl]
     show (true&&List.all [u,v] isWord&&List.all [y,x,z] az)=true
     simp[px,py,pz,pu,pv]
    ·exact ((((Rd.pk h3 aI).app lf).app lx).app ly).app lz
   | false =>
    rw[h3,cond_false] at h;obtain⟨p1,p2,p3⟩:=hB s r h hb;exact⟨p1,p2,p3.QG (by omega) p2⟩
def Cm(a:List ay × List Tm):List (List ay):=jA a.1 (a.2.tail.map fun t=>(af t,bE t))
def Cn{ns:List ay}{x:Tm}{ks:List Tm}(h:ns.length=2*ks.length)(p q:ay)(t:Tm):Cm (ns++[p,q],x :: ks++[t])=Cm (ns,x :: ks)++[[p,q,[45,62]]++af t]:=by
 unfold Cm;simp only[avK,List.tail_cons,List.map_append,avm,avN];exact FO p q _ _ _ (by simpa using h)
def Ki(hE:II tk 0 E)(gE:gZ tk E){c:Nat}{x:Tm} : ∀ (k:Nat) (ns:List ay) (ks:List Tm) (s:PS) (r:(List ay × List Tm) × PS),nJ (aq tk) E k (ns,x :: ks) s=some r->r.2.bad=false->ns.all isWord=true->ks.all az=true->Rd tk c (LB (Cm (ns,x :: ks))) s.i->ns.length=2*ks.length ->
  (∃ ms ls,r.1=(ms,x :: ls)/\ms.all isWord=true/\ls.all az=true/\Rd tk c (au (Cm (ms,x :: ls))) r.2.i/\ms.length=2*ls.length/\1<=ls.length)/\s.bad=false
 | 0,_,_,_,_,h,_,_,_,_,_=>by cases h
 | k+1,ns,ks,s,r,h,hb,h1,h2,h3,h4=>by
  unfold nJ at h;rw[au3] at h;obtain⟨q,hq,h⟩:=h;have step:q.2.bad=false->isWord (aF (aq tk) s).1=true/\isWord (aF (aq tk) (aF (aq tk) s).2).1=true/\az q.1=true/\Rd tk s.i ([(aF (aq tk) s).1,(aF (aq tk) (aF (aq tk) s).2).1,[45,62]]++af q.1) q.2.i/\s.bad=false:=fun CW=>by
   have b0:(aQ (aq tk) [45,62] (aF (aq tk) (aF (aq tk) s).2).2).bad=false:=by
    cases hx:(aQ (aq tk) [45,62] (aF (aq tk) (aF (aq tk) s).2).2).bad with
    | false=>rfl
    | true=>rw[(gE _ _ hq).bad hx] at CW;cases CW
   have n2:=ig (ff b0).1;have n1:=ig n2.1;obtain⟨p1,_,p3⟩:=hE.ge (awM 0) hq CW;exact⟨n1.2.1,n2.2.1,p1,(((Rd.name n2.1).app (Rd.name (ff b0).1)).app (Rd.want aI b0)).app p3,n1.1⟩
  have next:q.2.bad=false->(ns++[(aF (aq tk) s).1,(aF (aq tk) (aF (aq tk) s).2).1]).all isWord=true/\(ks++[q.1]).all az=true/\Rd tk c (au (Cm (ns++[(aF (aq tk) s).1,(aF (aq tk) (aF (aq tk) s).2).1],x :: ks++[q.1]))) q.2.i/\(ns++[(aF (aq tk) s).1,(aF (aq tk) (aF (aq tk) s).2).1]).length=2*(ks++[q.1]).length/\s.bad=false:=fun CW=>by
   obtain⟨w1,w2,p1,p2,p3⟩:=step CW;refine⟨by simp[h1,w1,w2],by simp[h2,p1],?_,by simp;omega,p3⟩
   rw[Cn h4,NA];exact h3.app p2
  cases hc:(!q.2.bad&&(pk (aq tk) q.2==[44])) with
  | true =>
   simp only[hc,cond_true] at h;simp only[au6,avo] at hc;obtain⟨t1,t2,t3,t4,t5⟩:=next hc.1;refine⟨(Ki hE gE k _ (ks++[q.1]) _ r h hb t1 t2 ?_ t4).1,t5⟩;rw[aaC (by rw[<- avK,Cn h4];simp)]
   exact t3.app (Rd.pk hc.2 aI)
  | false =>
   simp only[hc,cond_false,au4] at h;subst h;obtain⟨t1,t2,t3,t4,t5⟩:=next hb;exact⟨⟨_,ks++[q.1],rfl,t1,t2,t3,t4,by simp⟩,t5⟩
def YR(hE:II tk 0 E)(gE:gZ tk E){n:Nat} : ∀ s r,oC (aq tk) n E s=some r->r.2.bad=false->Rd tk i [nV] s.i->az r.1=true/\NP (af r.1)/\Rd tk i (fT (af r.1,bE r.1) 7) r.2.i:=by
 intro s r h hb hi;unfold oC at h;rw[au3] at h;obtain⟨q,hq,h⟩:=h;rw[au2] at h;obtain⟨m,hm,rfl⟩:=h;have hmb:=(ff hb).1;have hs:(aQ (aq tk) [123] (aQ (aq tk) [41] q.2)).bad=false:=by
  cases hx:(aQ (aq tk) [123] (aQ (aq tk) [41] q.2)).bad with
  | false=>rfl
  | true=>rw[(rW gE n _ _ _ hm).bad hx] at hmb;cases hmb
 have CW:=(ff (ff hs).1).1;have h0:(aQ (aq tk) [40] (aU (aq tk) s).2).bad=false:=by
  cases hx:(aQ (aq tk) [40] (aU (aq tk) s).2).bad with
  | false=>rfl
  | true=>rw[(gE _ _ hq).bad hx] at CW;cases CW
 have hqn:=zi (ff h0).1;obtain⟨p1,_,p3⟩:=hE.ge (awM 0) hq CW;obtain⟨⟨ms,ls,em,t1,t2,t3,t4,t5⟩, -⟩:=Ki hE gE (c:=(aQ (aq tk) [123] (aQ (aq tk) [41] q.2)).i) (x:=q.1) n [] [] _ m hm hmb rfl rfl (by rw[show LB (Cm ([],[q.1]))=[] from rfl];exact Rd.nil) rfl
 show az (.mk 10 0 (aU (aq tk) s).1 [] [] [] m.1.2 m.1.1)=true/\NP (af (.mk 10 0 (aU (aq tk) s).1 [] [] [] m.1.2 m.1.1))/\Rd tk i (fT (af (.mk 10 0 (aU (aq tk) s).1 [] [] [] m.1.2 m.1.1),8) 7) (aQ (aq tk) [125] m.2).i
 rw[em];simp only;rw[aoB];refine⟨?_,.l (.c aI),?_⟩
 ·rw[Ih rfl rfl]
  show (decide (2<=(q.1 :: ls).length)&&decide ((ms.length:Int)=2*(((q.1 :: ls).length:Int)-1))&&ms.all isWord&&gA (aU (aq tk) s).1&&(q.1 :: ls).all az)=true
  simp[t1,t2,hqn,p1];omega
 ·exact hi.app ((((((tF (ff h0).1).app (Rd.want aI h0)).app p3).app (Rd.want aI (ff hs).1)).app (Rd.want aI hs)).app (t3.app (Rd.want aI hb)))
def MJ{α:Type}{elem:α->PS->Option (α × PS)}{fin:ay}(X:α->List (List ay))(G:α->Prop)(he:∀ a s r,elem a s=some r->r.2.bad=false->G a->G r.1/\∃ x,X r.1=X a++[x]/\Rd tk s.i x r.2.i)(iS:∀ a s r,elem a s=some r->s.bad=true->r.2.bad=true)(jW:fin≠[]){k:Nat}{a:α}{r:α × PS}(h:nB (aq tk) elem fin k a s=some r)(hb:r.2.bad=false)(ha:G a)(hx:X a=[]):(G r.1/\Rd tk s.i (au (X r.1)++[fin]) r.2.i)/\s.bad=false:=by
 refine aeL (P:=fun a s'=>G a/\Rd tk s.i (LB (X a)) s'.i) (Q:=fun a s'=>G a/\X a≠[]/\Rd tk s.i (au (X a)) s'.i) (F:=fun a s'=>G a/\Rd tk s.i (au (X a)++[fin]) s'.i) ?_ ?_ ?_ iS jW h hb ⟨ha,by rw[hx];exact Rd.nil⟩ fun hr=>⟨ha,by rw[hx];exact hr⟩
 ·intro a s2 r iZ kO hP
  obtain⟨g,x,e,hx⟩:=he a s2 r iZ kO hP.1;refine⟨g,by rw[e];simp,?_⟩
  rw[e,NA];exact hP.2.app hx
 ·intro a s2 hr hQ
  refine⟨hQ.1,?_⟩;rw[aaC hQ.2.1];exact hQ.2.2.app hr
 ·intro a s2 hr hQ
  exact⟨hQ.1,hQ.2.2.app hr⟩
def UQ(hE:II tk 0 E)(gE:gZ tk E){fin:ay}(jW:fin≠[]){k:Nat}{r:List Tm × PS}(h:nB (aq tk) (rm E) fin k [] s=some r)(hb:r.2.bad=false):(r.1.all az=true/\Rd tk s.i (au (r.1.map af)++[fin]) r.2.i)/\s.bad=false :=
 MJ (fun ks:List Tm=>ks.map af) (fun ks=>ks.all az=true) (fun a s r he hb hg=>by
  obtain⟨t,e,p,l⟩:=HZ hE he hb;rw[e];exact⟨by simp[hg,p],af t,by simp,l⟩) (fun a s r he=>(jh gE he).bad) jW h hb rfl rfl
abbrev akQ(a:List ay × List Tm):List (List ay):=List.zipWith (fun s (x:List ay × Int)=>[s,[61]]++x.1) a.1 (a.2.map fun t=>(af t,bE t))
def aeH(hE:II tk 0 E)(gE:gZ tk E){fin:ay}(jW:fin≠[]){k:Nat}{r:(List ay × List Tm) × PS}(h:nB (aq tk) (Ag (aq tk) E) fin k ([],[]) s=some r)(hb:r.2.bad=false):((r.1.1.length=r.1.2.length/\r.1.1.all isWord=true/\r.1.2.all az=true)/\Rd tk s.i (au (akQ r.1)++[fin]) r.2.i)/\s.bad=false :=
 MJ akQ (fun a=>a.1.length=a.2.length/\a.1.all isWord=true/\a.2.all az=true) (fun a s r he hb hg=>by
  unfold Ag at he;rw[au2] at he;obtain⟨q,hq,rfl⟩:=he;have b0:(aQ (aq tk) [61] (aF (aq tk) s).2).bad=false:=by
   cases hx:(aQ (aq tk) [61] (aF (aq tk) s).2).bad with
   | false=>rfl
   | true =>
    have iR:q.2.bad=false:=hb;rw[(jh gE hq).bad hx] at iR;cases iR
  have n1:=ig (ff b0).1;obtain⟨t,et,pt,lt⟩:=HZ hE hq hb;obtain⟨g1,g2,g3⟩:=hg;refine⟨⟨?_,?_,?_⟩,[(aF (aq tk) s).1,[61]]++af t,?_,?_⟩
  ·show (a.1++[(aF (aq tk) s).1]).length=q.1.length
   rw[et];simp[g1]
  ·show (a.1++[(aF (aq tk) s).1]).all isWord=true
   simp[g2,n1.2.1]
  ·show q.1.all az=true
   rw[et];simp[g3,pt]
  ·show List.zipWith _ (a.1++[(aF (aq tk) s).1]) (q.1.map _)=_
   rw[et,List.map_append,List.zipWith_append (by simp[g1])]
   rfl
  ·exact ((Rd.name (ff b0).1).app (Rd.want aI b0)).app lt) (fun a s r he=>(y6 gE he).bad) jW h hb ⟨rfl,rfl,rfl⟩ rfl
def OW{q:ay}(h:gA q=true){w:List ay} : NP (aL q++w):=(KH h).l
theorem Y1(hE:II tk 0 E)(gE:gZ tk E){n:Nat} : II tk 7 (mZ (aq tk) n E):=by
 intro s r h hb;unfold mZ at h;simp only at h;have qn:(aU (aq tk) s).2.bad=false->gA (aU (aq tk) s).1=true:=zi;cases h1:(pk (aq tk) (aU (aq tk) s).2==[40]) with
 | true =>
  rw[h1,cond_true,au2] at h;obtain⟨q,hq,rfl⟩:=h;obtain⟨⟨p1,p2⟩,p3⟩:=UQ hE gE aI hq hb;have hp:=Rd.pk h1 aI;have qq:=qn p3
  show az (.mk 3 0 (aU (aq tk) s).1 [] [] [] q.1 [])=true/\NP (af (.mk 3 0 (aU (aq tk) s).1 [] [] [] q.1 []))/\Rd tk s.i (fT (af (.mk 3 0 (aU (aq tk) s).1 [] [] [] q.1 []),8) 7) q.2.i
  rw[tt3];refine⟨?_,.l (OW qq),((tF p3).app hp).app p2⟩;rw[abY rfl rfl]
  show (gA (aU (aq tk) s).1&&q.1.all az)=true
  rw[qq,p1];rfl
 | false =>
  rw[h1,cond_false] at h;cases h2:(pk (aq tk) (aU (aq tk) s).2==[123]) with
  | true =>
   rw[h2,cond_true,au2] at h;obtain⟨q,hq,rfl⟩:=h;obtain⟨⟨⟨p1,p4,p5⟩,p2⟩,p3⟩:=aeH hE gE aI hq hb;have hp:=Rd.pk h2 aI;have qq:=qn p3
   show az (.mk 7 0 (aU (aq tk) s).1 [] [] [] q.1.2 q.1.1)=true/\NP (af (.mk 7 0 (aU (aq tk) s).1 [] [] [] q.1.2 q.1.1))/\Rd tk s.i (fT (af (.mk 7 0 (aU (aq tk) s).1 [] [] [] q.1.2 q.1.1),8) 7) q.2.i
   rw[tt7];refine⟨?_,.l (OW qq),((tF p3).app hp).app p2⟩;rw[Vw rfl rfl]
   show (decide ((q.1.1.length:Int)=q.1.2.length)&&q.1.1.all isWord&&gA (aU (aq tk) s).1&&q.1.2.all az)=true
   simp_all
  | false =>
   rw[h2,cond_false] at h;cases h3:(pk (aq tk) (aU (aq tk) s).2==[58]) with
   | true =>
    rw[h3,cond_true] at h;unfold pX at h;have hp:=Rd.pk h3 aI;cases h4:(pk (aq tk) (aF (aq tk) (aU (aq tk) s).2.up).2==[91]) with
    | true =>
     rw[h4,cond_true,au2] at h;obtain⟨q,hq,rfl⟩:=h;have qb:=(ff hb).1;have nb:(aF (aq tk) (aU (aq tk) s).2.up).2.bad=false:=by
      cases hx:(aF (aq tk) (aU (aq tk) s).2.up).2.bad with
      | false=>rfl
      | true=>rw[(gE _ _ hq).bad hx] at qb;cases qb
     have n1:=ig nb;obtain⟨g1, -,g3⟩:=hE.ge (awM 0) hq qb;have qq:=qn n1.1
     show az (.mk 8 0 (aU (aq tk) s).1 (aF (aq tk) (aU (aq tk) s).2.up).1 [] [] [q.1] [])=true/\NP (af (.mk 8 0 (aU (aq tk) s).1 (aF (aq tk) (aU (aq tk) s).2.up).1 [] [] [q.1] []))/\Rd tk s.i (fT (af (.mk 8 0 (aU (aq tk) s).1 (aF (aq tk) (aU (aq tk) s).2.up).1 [] [] [q.1] []),8) 7) (aQ (aq tk) [93] q.2).i
     rw[tt8];refine⟨?_,.l (.l (.l (.l (OW qq)))),(((((tF n1.1).app hp).app (Rd.name nb)).app (Rd.pk h4 aI)).app g3).app (Rd.want aI hb)⟩;rw[OU rfl rfl]
     show (true&&gA (aU (aq tk) s).1&&isWord (aF (aq tk) (aU (aq tk) s).2.up).1&&List.all [q.1] az)=true
     rw[qq,n1.2.1];simp[g1]
    | false =>
     rw[h4,cond_false,au2] at h;obtain⟨q,hq,rfl⟩:=h;have qb:=(ff hb).1;have nb:(aQ (aq tk) [40] (aF (aq tk) (aU (aq tk) s).2.up).2).bad=false:=by
      cases hx:(aQ (aq tk) [40] (aF (aq tk) (aU (aq tk) s).2.up).2).bad with
      | false=>rfl
      | true=>rw[(gE _ _ hq).bad hx] at qb;cases qb
     have n1:=ig (ff nb).1;obtain⟨g1, -,g3⟩:=hE.ge (awM 0) hq qb;have qq:=qn n1.1
     show az (.mk 9 0 (aU (aq tk) s).1 (aF (aq tk) (aU (aq tk) s).2.up).1 [] [] [q.1] [])=true/\NP (af (.mk 9 0 (aU (aq tk) s).1 (aF (aq tk) (aU (aq tk) s).2.up).1 [] [] [q.1] []))/\Rd tk s.i (fT (af (.mk 9 0 (aU (aq tk) s).1 (aF (aq tk) (aU (aq tk) s).2.up).1 [] [] [q.1] []),8) 7) (aQ (aq tk) [41] q.2).i
     rw[tt9];refine⟨?_,.l (.l (.l (.l (OW qq)))),(((((tF n1.1).app hp).app (Rd.name (ff nb).1)).app (Rd.want aI nb)).app g3).app (Rd.want aI hb)⟩;rw[OV rfl rfl]
     show (true&&gA (aU (aq tk) s).1&&isWord (aF (aq tk) (aU (aq tk) s).2.up).1&&List.all [q.1] az)=true
     rw[qq,n1.2.1];simp[g1]
   | false =>
    rw[h3,cond_false] at h;cases h4:decide (0<=dp 46 0 (aU (aq tk) s).1) with
    | true =>
     rw[h4,cond_true,au4] at h;subst h;cases hb
    | false =>
     rw[h4,cond_false,au4] at h;subst h;have hq:=qn hb;have hix:=Ac (aU (aq tk) s).1 0;have hd:(aX (aU (aq tk) s).1).2.2=false:=by
      cases hd:(aX (aU (aq tk) s).1).2.2 with
      | true=>grind
      | false=>rfl
     have hw:isWord (aU (aq tk) s).1=true:=by
      unfold gA at hq
      grind [qJ]
     have e:aL (aU (aq tk) s).1=[(aU (aq tk) s).1]:=by
      unfold aL;rw[hd,if_neg (by simp),qJ hd]
     show az (.mk 2 0 (aU (aq tk) s).1 [] [] [] [] [])=true/\NP (af (.mk 2 0 (aU (aq tk) s).1 [] [] [] [] []))/\Rd tk s.i (fT (af (.mk 2 0 (aU (aq tk) s).1 [] [] [] [] []),8) 7) (aU (aq tk) s).2.i
     rw[tt2,<- e];refine⟨?_,KH hq,tF hb⟩;rw[abX rfl rfl];exact hw
def aoi{l:Int}(h:By w=some (o,l)):0<=o/\o<=11/\(cQ o).2≠7/\(cQ o).2=l/\(cQ o).1=w/\w≠[]/\w≠lp:=by
 unfold By at h;rw[au3] at h;obtain⟨r,hr,h⟩:=h;have hm:=List.mem_of_find?_eq_some hr;have he:=List.find?_some hr;simp only[mO,avs,avQ,aww] at hm
 rcases hm with rfl|rfl|rfl|rfl|rfl|rfl|rfl|rfl|rfl|rfl
 all_goals
  simp only[au4,au8] at h;obtain⟨rfl,rfl⟩:=h;have he:=eq_of_beq he;subst he
  decide
def aeK{l:Int}{a f wn:ay}{wk:List Wd}{ks:List Tm}{ns:List ay}(h:(cQ o).2=l)(hl:l=lv):lv<=bE (.mk 4 o a f wn wk ks ns):=by
 show lv<=(cQ o).2
 omega
def SG{n:Int}(h:0<=n):jT n.toNat≠lp/\jT n.toNat≠[]:=by
 rw[<- vy h];have key:∀ f (n:Nat) (acc:ay),f≠0->acc≠[]/\acc≠lp\/acc=[]->fS f n acc≠lp/\fS f n acc≠[]:=by
  intro f
  induction f with
  | zero=>intro n acc h;exact absurd rfl h
  | succ f ih =>
   intro n acc _ ha;unfold fS;cases hb:Nat.blt n 10 with
   | true =>
    rw[cond_true];refine⟨fun e=>?_,axw _ _⟩
    have h1:=(awS e).1;have hn:n<10:=avn.mp hb;have:=awt UInt8.toNat h1
    rw[awW] at this;have h40:(40:UInt8).toNat=40:=rfl;omega
   | false =>
    rw[cond_false]
    by_cases hf:f=0
    ·subst hf
     unfold fS;refine⟨fun e=>?_,axw _ _⟩
     have h1:=(awS e).1;have:=awt UInt8.toNat h1
     rw[awW] at this;have h40:(40:UInt8).toNat=40:=rfl;omega
    ·refine ih _ _ hf (.inl ⟨axw _ _,fun e=>?_⟩)
     have h1:=(awS e).1;have:=awt UInt8.toNat h1
     rw[awW] at this;have h40:(40:UInt8).toNat=40:=rfl;omega
 obtain⟨k,rfl⟩:=axB h;exact key (k+1) k [] (by omega) (.inr rfl)
theorem Vh{least:Int}(h0:0<=least)(h:(gR (aq tk) least s).2.bad=false):Rd tk s.i [jT (gR (aq tk) least s).1.toNat] (gR (aq tk) least s).2.i:=by
 have hv:=Ib h0 h;have hi:=ajy h;rw[hi,<- vy (by omega)]
 unfold gR at h hv ⊢;cases hc:decide (dD (pk (aq tk) s)<least) with
 | true=>rw[hc,cond_true] at h;cases h
 | false =>
  rw[hc,cond_false] at h hv;simp only[cond_false];have hs:s.bad=false:=h;have JY:0<=dD (pk (aq tk) s):=by have:least<=dD (pk (aq tk) s):=hv.1;omega
  have e:qM (dD (pk (aq tk) s))=pk (aq tk) s:=by
   unfold dD at JY ⊢
   grind
  refine Rd.tok hs (by rw[e];exact aw6 _) ?_
  rw[vy JY];exact (SG JY).2
def acB(hE:II tk 0 E)(gE:gZ tk E){n:Nat} : II tk 7 (mS (aq tk) n E):=by
 intro s r h hb;unfold mS at h;cases h1:decide (0<=dD (pk (aq tk) s)) with
 | true =>
  rw[h1,cond_true,au4] at h;subst h;have hv:=Ib ah hb;have hr:=Vh ah hb;have e:af (.mk 0 (gR (aq tk) 0 s).1 [] [] [] [] [] [])=[jT (gR (aq tk) 0 s).1.toNat]:=by rw[tt0,if_neg (by omega)]
  show az (.mk 0 (gR (aq tk) 0 s).1 [] [] [] [] [] [])=true/\NP (af (.mk 0 (gR (aq tk) 0 s).1 [] [] [] [] [] []))/\Rd tk s.i (fT (af (.mk 0 (gR (aq tk) 0 s).1 [] [] [] [] [] []),8) 7) (gR (aq tk) 0 s).2.i
  rw[e];refine⟨?_,.c (SG hv.1).1,hr⟩;rw[Vs rfl rfl]
  show decide (-1099511627776<=(gR (aq tk) 0 s).1/\(gR (aq tk) 0 s).1<=1099511627776)=true
  rw[decide_eq_true];omega
 | false =>
 rw[h1,cond_false] at h;cases h2:(pk (aq tk) s==[45]) with
 | true =>
  rw[h2,cond_true,au4] at h;subst h;have hv:=Ib (show (0:Int)<=1 by decide) hb
  have hr:=Vh (show (0:Int)<=1 by decide) hb
  have hp:=Rd.pk h2 aI;have e:af (.mk 0 (-(gR (aq tk) 1 s.up).1) [] [] [] [] [] [])=[[45]]++[jT (gR (aq tk) 1 s.up).1.toNat]:=by
   rw[tt0,if_pos (by omega),Int.neg_neg];rfl
  show az (.mk 0 (-(gR (aq tk) 1 s.up).1) [] [] [] [] [] [])=true/\NP (af (.mk 0 (-(gR (aq tk) 1 s.up).1) [] [] [] [] [] []))/\Rd tk s.i (fT (af (.mk 0 (-(gR (aq tk) 1 s.up).1) [] [] [] [] [] []),8) 7) (gR (aq tk) 1 s.up).2.i
  rw[e];refine⟨?_,.c aI,hp.app hr⟩;rw[Vs rfl rfl]
  show decide (-1099511627776<=-(gR (aq tk) 1 s.up).1/\-(gR (aq tk) 1 s.up).1<=1099511627776)=true
  rw[decide_eq_true];omega
 | false =>
 rw[h2,cond_false] at h;cases h3:(pk (aq tk) s==wT) with
 | true =>
  rw[h3,cond_true,au4] at h;subst h;have e:af (.mk 1 1 [] [] [] [] [] [])=[wT]:=by rw[bJ];rfl
  show az (.mk 1 1 [] [] [] [] [] [])=true/\NP (af (.mk 1 1 [] [] [] [] [] []))/\Rd tk s.i (fT (af (.mk 1 1 [] [] [] [] [] []),8) 7) s.up.i
  rw[e];exact⟨by decide,.c aI,Rd.pk h3 aI⟩
 | false =>
 rw[h3,cond_false] at h;cases h4:(pk (aq tk) s==sI) with
 | true =>
  rw[h4,cond_true,au4] at h;subst h;have e:af (.mk 1 0 [] [] [] [] [] [])=[sI]:=by rw[bJ];rfl
  show az (.mk 1 0 [] [] [] [] [] [])=true/\NP (af (.mk 1 0 [] [] [] [] [] []))/\Rd tk s.i (fT (af (.mk 1 0 [] [] [] [] [] []),8) 7) s.up.i
  rw[e];exact⟨by decide,.c aI,Rd.pk h4 aI⟩
 | false =>
 rw[h4,cond_false] at h;cases h5:(pk (aq tk) s==[40]) with
 | true =>
  rw[h5,cond_true,au2] at h;obtain⟨q,hq,rfl⟩:=h;obtain⟨p1,p2,p3⟩:=hE.ge (awM 0) hq (ff hb).1;have hp:=Rd.pk h5 aI;have hw:=Rd.want (w:=[41]) aI hb;refine⟨p1,p2,?_⟩
  show Rd tk s.i (fT (af q.1,bE q.1) 7) (aQ (aq tk) [41] q.2).i
  unfold fT;split
  ·exact (hp.app p3).app hw
  ·rw[WC hb] at hw ⊢
   exact hp.par p3 hw p2
 | false =>
 rw[h5,cond_false] at h;cases h6:(pk (aq tk) s==iN) with
 | true =>
  rw[h6,cond_true,au3] at h;obtain⟨w,hw,h⟩:=h;rw[au2] at h;obtain⟨q,hq,rfl⟩:=h;obtain⟨⟨p1,p2⟩,p3⟩:=UQ hE gE aI hq hb;have pw:=L0 hw (ff p3).1;have hp:=Rd.pk h6 aI;have ew:Wd.mk w.1.name w.1.kids=w.1:=by cases w.1;rfl
  show az (.mk 11 0 [] [] w.1.name w.1.kids q.1 [])=true/\NP (af (.mk 11 0 [] [] w.1.name w.1.kids q.1 []))/\Rd tk s.i (fT (af (.mk 11 0 [] [] w.1.name w.1.kids q.1 []),8) 7) q.2.i
  rw[aoC,ew];refine⟨?_,.l (.l (.l (.c aI))),((hp.app (PH hw (ff p3).1)).app (Rd.want aI p3)).app p2⟩;rw[Vt rfl rfl]
  show (bY (.mk w.1.name w.1.kids)&&q.1.all az)=true
  rw[ew,pw,p1];rfl
 | false =>
 rw[h6,cond_false] at h;cases h7:(pk (aq tk) s==nV) with
 | true =>
  rw[h7,cond_true] at h;exact YR hE gE _ _ h hb (Rd.pk h7 aI)
 | false =>
  rw[h7,cond_false] at h;exact Y1 hE gE _ _ h hb
theorem Sj(h0:0<=lv)(hB:II tk (lv+1) B)(gB:gZ tk B){c:Nat} : ∀ (k:Nat) (t:Tm) (s:PS) (r:Tm × PS),uz (aq tk) B lv k t s=some r->r.2.bad=false->az t=true/\NP (af t)/\Rd tk c (fT (af t,bE t) (if lv=3 then 4 else lv)) s.i->az r.1=true/\NP (af r.1)/\Rd tk c (fT (af r.1,bE r.1) lv) r.2.i
 | 0,_,_,_,h,_,_=>by cases h
 | k+1,t,s,r,h,hb,ht=>by
  have ht0:az t=true/\NP (af t)/\Rd tk c (fT (af t,bE t) lv) s.i:=⟨ht.1,ht.2.1,ht.2.2.QG (by split<;>omega) ht.2.1⟩
  unfold uz at h;cases hs:s.bad with
  | true=>rw[hs,cond_true,au4] at h;subst h;exact ht0
  | false =>
   rw[hs,cond_false] at h;split at h
   ·rw[au4] at h;subst h;exact ht0
   ·rename_i o l ho
    cases hl:decide (l=lv) with
    | false=>rw[hl,cond_false,au4] at h;subst h;exact ht0
    | true =>
     rw[hl,cond_true,au3] at h;obtain⟨q,hq,h⟩:=h;obtain⟨o1,o2,o3,o4,o5,o6,o7⟩:=aoi ho;have uc:lv=l:=(of_decide_eq_true hl).symm;subst uc;have mk:q.2.bad=false->az (.mk 4 o [] [] [] [] [t,q.1] [])=true/\NP (af (.mk 4 o [] [] [] [] [t,q.1] []))/\Rd tk c (af (.mk 4 o [] [] [] [] [t,q.1] [])) q.2.i:=fun CW=>by
      obtain⟨h1,h2,h3⟩:=hB _ _ hq CW;have hp:Rd tk s.i [(cQ o).1] s.up.i:=Rd.tok hs (by rw[o5];exact aw6 _) (by rw[o5];exact o6)
      rw[aoE,o4];refine⟨?_,.l (.r (.c (by rw[o5];exact o7))),(ht.2.2.app hp).app h3⟩
      rw[KC rfl rfl]
      show (decide (0<=o/\o<=11)&&jf (.mk 4 o [] [] [] [] [t,q.1] []) (if (cQ o).2=7 then 1 else 2) 0&&List.all [t,q.1] az)=true
      rw[if_neg o3,decide_eq_true ⟨o1,o2⟩];simp[ht.1,h1,jf,Tm.kids,Tm.names]
     cases h3:decide (lv=3) with
     | true =>
      rw[h3,cond_true,au4] at h;subst h;obtain⟨m1,m2,m3⟩:=mk hb;exact⟨m1,m2,hiR (aeK o4 rfl) m3⟩
     | false =>
      rw[h3,cond_false] at h;have CW:q.2.bad=false:=by
       cases hx:q.2.bad with
       | false=>rfl
       | true=>rw[(tA gB k _ _ _ h).bad hx] at hb;cases hb
      obtain⟨m1,m2,m3⟩:=mk CW;exact Sj h0 hB gB k _ _ r h hb ⟨m1,m2,by rw[if_neg (of_decide_eq_false h3)];exact hiR (aeK o4 rfl) m3⟩
def Vn:∀ (n l:Nat),l<=7->II tk l (pE (aq tk) n l)
 | 0,l,_=>fun s r h=>by cases h
 | n+1,l,hl=>by
  have h0:=Vn n 0 ah;have g0:=iO (tk:=tk) n 0
  by_cases hl0:l=0
  ·subst hl0
   exact acZ h0 (Vn n 1 ah)
  by_cases hl7:l=7
  ·subst hl7
   intro s r h hb
   replace h:(bif pk (aq tk) s==tP then (pE (aq tk) n 7 s.up).map fun r=>(.mk 4 9 [] [] [] [] [r.1] [],r.2)
    else bif pk (aq tk) s==uq then (pE (aq tk) n 7 s.up).map fun r=>(.mk 4 11 [] [] [] [] [r.1] [],r.2)
    else mS (aq tk) n (pE (aq tk) n 0) s)=some r:=h
   have un:∀ (o:Int) (w:ay) (q:Tm × PS),(pk (aq tk) s==w)=true->w≠[]->w≠lp->(cQ o).1=w->(cQ o).2=7->decide (0<=o/\o<=11)=true->pE (aq tk) n 7 s.up=some q->q.2.bad=false->az (.mk 4 o [] [] [] [] [q.1] [])=true/\NP (af (.mk 4 o [] [] [] [] [q.1] []))/\Rd tk s.i (fT (af (.mk 4 o [] [] [] [] [q.1] []),bE (.mk 4 o [] [] [] [] [q.1] [])) 7) q.2.i:=by
    intro o w q h1 h2 h3 h4 h5 h6 hq hb;obtain⟨p1,p2,p3⟩:=Vn n 7 ah _ _ hq hb;have hp:=Rd.pk h1 h2;refine⟨?_,?_,hiR (aeK h5 rfl) ?_⟩
    ·rw[KC rfl rfl]
     show (decide (0<=o/\o<=11)&&jf (.mk 4 o [] [] [] [] [q.1] []) (if (cQ o).2=7 then 1 else 2) 0&&List.all [q.1] az)=true
     rw[if_pos h5,h6];simp[p1,jf,Tm.kids,Tm.names]
    ·rw[akx,h4];exact .l (.c h3)
    ·rw[akx,h4];exact hp.app p3
   cases h1:(pk (aq tk) s==tP) with
   | true =>
    rw[h1,cond_true,au2] at h;obtain⟨q,hq,rfl⟩:=h;exact un 9 _ q h1 aI aI rfl rfl aI hq hb
   | false =>
    rw[h1,cond_false] at h;cases h2:(pk (aq tk) s==uq) with
    | true =>
     rw[h2,cond_true,au2] at h;obtain⟨q,hq,rfl⟩:=h;exact un 11 _ q h2 aI aI rfl rfl aI hq hb
    | false =>
     rw[h2,cond_false] at h;exact acB h0 g0 _ _ h hb
  intro s r h hb;rw[M0 ah ah,au3] at h;obtain⟨q,hq,h⟩:=h;have hB:II tk ((l:Int)+1) (pE (aq tk) n (l+1)):=Vn n (l+1) ah;have gB:=iO (tk:=tk) n (l+1);have CW:q.2.bad=false:=by
   cases hx:q.2.bad with
   | false=>rfl
   | true=>rw[(tA gB n _ _ _ h).bad hx] at hb;cases hb
  obtain⟨p1,p2,p3⟩:=hB _ _ hq CW;exact Sj (by omega) hB gB n _ _ r h hb ⟨p1,p2,p3.QG (by split<;>omega) p2⟩
end
end
section
section
variable {tk:List Tk}{E B:EP}
theorem afY{n:Nat}{a:List Fd}{r:List Fd × PS}(h:oP (aq tk) n kd a s=some r)(hb:r.2.bad=false):∃ u,r.1=a++[u]/\fW kd u=true/\Rd tk s.i (cb kd u) r.2.i:=by
 unfold oP at h;rw[au2] at h;obtain⟨w,hw,h⟩:=h;have nm:w.2.bad=false->(aF (aq tk) s).2.bad=false:=fun IV=>by
  cases hx:(aF (aq tk) s).2.bad with
  | false=>rfl
  | true=>rw[(ji _ _ _ hw).bad hx] at IV;cases IV
 have ew:Wd.mk w.1.name w.1.kids=w.1:=by cases w.1;rfl
 have pf:∀ m:Int,w.2.bad=false->0<=m->m<=1099511627776->(kd=4\/m=0)->fW kd ⟨(aF (aq tk) s).1,w.1.name,w.1.kids,m⟩=true:=fun m IV h1 h2 h3=>by
  have pw:=B8 n _ w hw IV;unfold fW;simp only[(ig (nm IV)).2.1,ew,pw,avE]
  grind
 cases h4:decide (kd=4) with
 | true =>
  rw[h4,cond_true] at h;subst h;have IV:w.2.bad=false:=by
   cases hx:w.2.bad with
   | false=>rfl
   | true=>rw[(Aj (tk:=tk) ah).bad hx] at hb;cases hb
  have n1:=Ib ah hb;refine⟨_,rfl,pf _ IV n1.1 n1.2 (.inl (of_decide_eq_true h4)),?_⟩;unfold cb;rw[if_pos (of_decide_eq_true h4),ew];exact ((Rd.name (nm IV)).app (D1 n _ w hw IV)).app (Vh ah hb)
 | false =>
  rw[h4,cond_false] at h;subst h;refine⟨_,rfl,pf _ hb (awM 0) ah (.inr rfl),?_⟩;unfold cb;rw[if_neg (of_decide_eq_false h4),ew,List.append_nil];exact (Rd.name (nm hb)).app (D1 n _ w hw hb)
def Tl{n:Nat}{r:Fm × PS}(h:pL (aq tk) n (pE (aq tk) n 0) s=some r)(hb:r.2.bad=false):((0<=r.1.kind/\r.1.kind<=5)/\ij r.1=true/\r.1.layout=[])/\Rd tk s.i (j8 r.1) r.2.i:=by
 unfold pL at h;simp only at h;have kd:0<=kM (pk (aq tk) s) dJ 0->dJ.getD (kM (pk (aq tk) s) dJ 0).toNat []=pk (aq tk) s/\pk (aq tk) s≠[]/\kM (pk (aq tk) s) dJ 0<=5:=by
  have key:∀ (w:ay) (l:List ay) (i:Nat),0<=kM w l i->∃ j:Nat,kM w l i=(i+j:Nat)/\l[j]?=some w:=by
   intro w l
   induction l with
   | nil=>intro i h;unfold kM at h;omega
   | cons a l ih =>
    intro i h;unfold kM at h ⊢;cases ha:(a==w) with
    | true=>exact⟨0,by rw[if_pos rfl];rfl,by rw[eq_of_beq ha];rfl⟩
    | false =>
     rw[ha,if_neg Bool.false_ne_true] at h;obtain⟨j,h1,h2⟩:=ih _ h;exact⟨j+1,by rw[if_neg Bool.false_ne_true,h1];congr 1;omega,h2⟩
  intro h0;obtain⟨j,h1,h2⟩:=key _ _ _ h0;rw[h1];refine⟨by rw[avH,List.getD_eq_getElem?_getD,avA,h2];rfl,?_⟩
  have hm:=avb h2;have hj:=(au7.1 h2).1;rw[show dJ.length=6 from rfl] at hj
  refine⟨fun e=>?_,by omega⟩
  rw[e] at hm;exact absurd hm (by decide)
 cases hk:decide (kM (pk (aq tk) s) dJ 0<0) with
 | true =>
  rw[hk,cond_true,au4] at h;subst h;cases hb
 | false =>
  rw[hk,cond_false] at h;have yL:0<=kM (pk (aq tk) s) dJ 0:=by have:=of_decide_eq_false hk;omega
  obtain⟨k1,k2,hk5⟩:=kd yL;have kp:s.bad=false->Rd tk s.i [dJ.getD (kM (pk (aq tk) s) dJ 0).toNat []] s.up.i:=fun hs=>by
   rw[k1];exact Rd.tok hs (aw6 _) k2
  generalize kM (pk (aq tk) s) dJ 0=k at *;simp only[au3] at h;obtain⟨sl,qv,h⟩:=h;have slp:sl.2.bad=false->(sl.1.all (fW k)=true/\isWord (aF (aq tk) s.up).1=true)/\Rd tk s.i ([dJ.getD k.toNat [],(aF (aq tk) s.up).1,[40]]++au (sl.1.map (cb k))++[[41]]) sl.2.i:=fun kO=>by
   obtain⟨⟨p0,p1⟩,p2⟩:=MJ (fun a:List Fd=>a.map (cb k)) (fun a=>a.all (fW k)=true) (fun a s r he hb hg=>by
    obtain⟨u,e,p,l⟩:=afY he hb;rw[e];exact⟨by simp[hg,p],_,by simp,l⟩) (fun a s r he=>(qP he).bad) aI qv kO rfl rfl
   have nb:=(ff p2).1;have sb:s.bad=false:=(ig nb).1;have:=(((kp sb).app (Rd.name nb)).app (Rd.want aI p2)).app p1
   exact⟨⟨p0,(ig nb).2.1⟩,by simpa using this⟩
  cases h2:(decide (k=0) || decide (k=1)) with
  | true =>
   rw[h2,cond_true,au4] at h;subst h;have h01:k=0\/k=1:=by simpa using h2
   obtain⟨⟨p1,p2⟩,p3⟩:=slp hb;refine⟨⟨⟨yL,hk5⟩,?_,rfl⟩,?_⟩
   ·show (isWord (aF (aq tk) s.up).1&&sl.1.all (fW k)&&bif decide (k=0) || decide (k=1) then qk [] []&&im tm0 else _)=true
    rw[h2,p1,p2];rfl
   unfold j8
   show Rd tk s.i ([_,_,[40]]++au (sl.1.map (cb k))++[[41]]++(if k=0\/k=1 then [] else _)) sl.2.i
   rw[if_pos h01,List.append_nil];exact p3
  | false =>
   rw[h2,cond_false,au3] at h;obtain⟨w,hw,h⟩:=h;rw[au2] at h;obtain⟨b,xR,rfl⟩:=h;have Gp:(aQ (aq tk) [61] w.2).bad=false:=by
    cases hx:(aQ (aq tk) [61] w.2).bad with
    | false=>rfl
    | true =>
     have iR:b.2.bad=false:=hb;rw[(iO (tk:=tk) n 0 _ _ xR).bad hx] at iR;cases iR
   have IV:=(ff Gp).1;have anq:sl.2.bad=false:=by
    cases hx:sl.2.bad with
    | false=>rfl
    | true=>rw[(ji _ _ _ hw).bad hx] at IV;cases IV
   obtain⟨pt, -,pb⟩:=(Vn n 0 ah).ge (awM 0) xR hb;obtain⟨⟨p1,p2⟩,p3⟩:=slp anq;have pw:=B8 n _ w hw IV;have ew:Wd.mk w.1.name w.1.kids=w.1:=by cases w.1;rfl
   have h01:¬ (k=0\/k=1):=by simpa using h2
   refine⟨⟨⟨yL,hk5⟩,?_,rfl⟩,?_⟩
   ·show (isWord (aF (aq tk) s.up).1&&sl.1.all (fW k)&&bif decide (k=0) || decide (k=1) then _ else bY (.mk w.1.name w.1.kids)&&az b.1)=true
    rw[h2,cond_false,ew,p1,p2,pw,pt];rfl
   unfold j8
   show Rd tk s.i ([_,_,[40]]++au (sl.1.map (cb k))++[[41]]++(if k=0\/k=1 then [] else bW (.mk w.1.name w.1.kids)++[[61]]++af b.1)) b.2.i
   rw[if_neg h01,ew];exact p3.app (((D1 n _ w hw IV).app (Rd.want aI Gp)).app pb)
def Wy{c:Nat} : ∀ (k:Nat) (a:List ay) (s:PS) (r:List ay × PS),nC (aq tk) k a s=some r->r.2.bad=false->(s.bad=false->Rd tk c (h0++(a.map fun u=>[rC,u]).flatten) s.i)->Rd tk c (h0++(r.1.map fun u=>[rC,u]).flatten) r.2.i
 | 0,_,_,_,h,_,_=>by cases h
 | k+1,a,s,r,h,hb,hP=>by
  unfold nC at h;cases hc:(!s.bad&&(pk (aq tk) s==rC)) with
  | false=>rw[hc,cond_false,au4] at h;subst h;exact hP hb
  | true =>
   rw[hc,cond_true] at h;simp only[au6,avo] at hc;refine Wy k _ _ r h hb fun nb=>?_
   have:=((hP hc.1).app (Rd.tok hc.1 hc.2 aI)).app (Rd.name nb)
   simpa using this
def SF{c n:Nat} : ∀ (k:Nat) (a:List Fm × List Nat) (s:PS) (r:(List Fm × List Nat) × PS),lS (aq tk) n k a s=some r->r.2.bad=false->(s.bad=false->Rd tk c (h0++(a.1.map j8).flatten) s.i)->Rd tk c (h0++(r.1.1.map j8).flatten) r.2.i/\tk.length<=r.2.i
 | 0,_,_,_,h,_,_=>by cases h
 | k+1,a,s,r,h,hb,hP=>by
  unfold lS at h;cases hc:(!s.bad&&Nat.blt s.i (aq tk).length) with
  | false =>
   rw[hc,cond_false,au4] at h;subst h;refine⟨hP hb,?_⟩;have hbs:s.bad=false:=hb;rw[hbs] at hc
   simpa [aq,<- aw2,avn] using hc
  | true =>
   rw[hc,cond_true,au3] at h;obtain⟨⟨f,s2⟩,hf,h⟩:=h;simp only[au6,avo] at hc;refine SF k _ _ r h hb fun nb=>?_
   have:=(hP hc.1).app (Tl hf nb).2
   simpa using this
structure OkF (f:Fm):Prop where
 k:0<=f.kind/\f.kind<=5
 p:ij f=true
 l:f.layout=[]
 n:(j8 f).length<=8192
def Fit(fs:List Fm)(es:List Nat):Prop:=es.length=fs.length+1/\∀ i (f:Fm),fs[i]?=some f->(j8 f).length+es.getD i 0<=es.getD (i+1) 0
theorem Fit.snoc{fs:List Fm}{es:List Nat}{f:Fm}{e:Nat}(h:Fit fs es)(hf:(j8 f).length+es.getD fs.length 0<=e):Fit (fs++[f]) (es++[e]):=by
 obtain⟨h1,h2⟩:=h;refine⟨by simp[h1],fun i g hg=>?_⟩
 grind
theorem NU{n:Nat} : ∀ (k:Nat) (a:List Fm × List Nat) (s:PS) (r:(List Fm × List Nat) × PS),lS (aq tk) n k a s=some r->r.2.bad=false->s.i<=tk.length->Fit a.1 a.2/\(tk.length<=8192->∀ f∈a.1,OkF f)/\a.2.getD a.1.length 0=s.i->Fit r.1.1 r.1.2/\(tk.length<=8192->∀ f∈r.1.1,OkF f)/\r.1.2.getD r.1.1.length 0=r.2.i/\tk.length<=r.2.i
 | 0,_,_,_,h,_,_,_=>by cases h
 | k+1,a,s,r,h,hb,hsi,hP=>by
  unfold lS at h;cases hc:(!s.bad&&Nat.blt s.i (aq tk).length) with
  | false =>
   rw[hc,cond_false,au4] at h;subst h;refine⟨hP.1,hP.2.1,hP.2.2,?_⟩;have hbs:s.bad=false:=hb;rw[hbs] at hc
   simpa [aq,<- aw2,avn] using hc
  | true =>
   rw[hc,cond_true,au3] at h;obtain⟨⟨f,s2⟩,hf,h⟩:=h;have kO:s2.bad=false:=by
    cases xR:s2.bad with
    | false=>rfl
    | true =>
     match k with
     | 0=>cases h
     | k+1 =>
      unfold lS at h
      grind
   have hle:=(y5 (iO (tk:=tk) n 0) hf).le hsi;obtain⟨⟨f1,f2,f3⟩,f4⟩:=Tl hf kO;have f5:=f4.le;have f6:s2.i<=tk.length:=hle;refine NU k _ _ r h hb hle ⟨hP.1.snoc (by rw[hP.2.2];exact f5),fun ql g hg=>?_,?_⟩
   ·rcases au'.1 hg with hg|hg
    ·exact hP.2.1 ql g hg
    ·rw[avi] at hg
     subst hg;exact⟨f1,f2,f3,by simp only at f5;omega⟩
   ·show (a.2++[s2.i]).getD (a.1++[f]).length 0=s2.i
    rw[List.getD_eq_getElem?_getD,show (a.1++[f]).length=a.2.length by rw[hP.1.1];simp,List.getElem?_append_right (Nat.le_refl _),awR]
    rfl
def VO{n:Nat}{q:(ay × List ay × List Fm × List Nat) × PS}(h:oo (aq tk) n=some q)(hb:q.2.bad=false):Fit q.1.2.2.1 q.1.2.2.2/\(tk.length<=8192->∀ f∈q.1.2.2.1,OkF f)/\q.1.2.2.2.getD q.1.2.2.1.length 0=q.2.i/\tk.length<=q.2.i:=by
 unfold oo at h;simp only[au3,au2] at h;obtain⟨u,hu,d,hd,rfl⟩:=h;exact NU n _ _ d hd hb (((bP aI).tr (dP.tr (tB _ _ _ _ hu))).le (avB _)) ⟨⟨rfl,fun i f hf=>by simp at hf⟩,fun _ f hf=>(by cases hf),rfl⟩
def OX{n:Nat}(ql:tk.length<=8192){q:(ay × List ay × List Fm × List Nat) × PS}(h:oo (aq tk) n=some q)(hb:q.2.bad=false):∀ f∈q.1.2.2.1,OkF f:=(VO h hb).2.1 ql
def afQ{n:Nat}{q:(ay × List ay × List Fm × List Nat) × PS}(h:oo (aq tk) n=some q)(hb:q.2.bad=false):FM (aq tk) ([gH,q.1.1]++(q.1.2.1.map fun u=>[rC,u]).flatten++(q.1.2.2.1.map j8).flatten):=by
 unfold oo at h;simp only[au3,au2] at h;obtain⟨u,hu,d,hd,rfl⟩:=h;have h1:u.2.bad=false->Rd tk 0 ([gH,(aF (aq tk) (aQ (aq tk) gH ⟨0,false⟩)).1]++(u.1.map fun u=>[rC,u]).flatten) u.2.i:=fun ub=>by
  refine Wy (h0:=[gH,(aF (aq tk) (aQ (aq tk) gH ⟨0,false⟩)).1]) n [] _ u hu ub fun nb=>?_
  have:=(Rd.want (s:=⟨0,false⟩) (w:=gH) aI (ig nb).1).app (Rd.name nb)
  simpa using this
 obtain⟨h2,h3⟩:=SF n _ _ d hd hb fun ub=>by simpa using h1 ub
 have:=h2.fm
 unfold Wb at this
 rwa [List.drop_zero,List.take_of_length_le (by unfold aq;simpa using h3)] at this
end
end
section
def gl{α:Type}{b:Bool}{x y x' y':Option α}{r:α}(h1:b=true->x=some r->x'=some r)(h2:b=false->y=some r->y'=some r)(h:(bif b then x else y)=some r):(bif b then x' else y')=some r:=by
 cases b with
 | true=>exact h1 rfl h
 | false=>exact h2 rfl h
def qT{α:Type}{x x':Option α}{f f':α->Option β}{r:β}(hf:∀ a,x=some a->f a=some r->x'=some a/\f' a=some r)(h:x.bind f=some r):x'.bind f'=some r:=by
 rw[au3] at h;obtain⟨a,h1,h2⟩:=h;obtain⟨h3,h4⟩:=hf a h1 h2;rw[h3];exact h4
def nS{α:Type}{x x':Option α}{f f':α->β}{r:β}(hf:∀ a,x=some a->f a=r->x'=some a/\f' a=r)(h:x.map f=some r):x'.map f'=some r:=by
 rw[au2] at h;obtain⟨a,h1,h2⟩:=h;obtain⟨h3,h4⟩:=hf a h1 h2;rw[h3,ave,h4]
section
variable {tk qA:List Tk}{k:Nat}
def WR(tk qA:List Tk)(k:Nat):Prop:=∀ j,j<=k->(aq qA).getD j []=(aq tk).getD j []
def WS(k:Nat)(E E' : EP):Prop:=∀ s r,E s=some r->r.2.i<=k->E' s=some r
def yW{E E':EP}(hE:WS k E E'){ks:List Tm}{r:List Tm × PS}(h:rm E ks s=some r)(hr:r.2.i<=k):rm E' ks s=some r:=by
 unfold rm at h ⊢;revert h;refine nS fun a ha e=>?_
 subst e;exact⟨hE _ _ ha hr,rfl⟩
def BZ{n:Nat} : ∀ (m:Nat) (a:List Fm × List Nat) (s:PS) (r:(List Fm × List Nat) × PS),lS (aq tk) n m a s=some r->s.i<=r.2.i
 | 0,_,_,_,h=>by cases h
 | m+1,a,s,r,h=>by
  unfold lS at h;cases hc:(!s.bad&&Nat.blt s.i (aq tk).length) with
  | true =>
   rw[hc,cond_true,au3] at h;obtain⟨q,hq,h⟩:=h;exact avz (y5 (iO n 0) hq).i (BZ m _ _ _ h)
  | false=>rw[hc,cond_false,au4] at h;subst h;exact Nat.le_refl _
variable (hA:WR tk qA k)
include hA
def oN(h:s.i<=k):pk (aq qA) s=pk (aq tk) s:=by unfold pk;rw[hA _ h]
def gT(hw:w≠[])(h:(aQ (aq tk) w s).i<=k):aQ (aq qA) w s=aQ (aq tk) w s:=by
 have:=(bP (tk:=tk) (s:=s) hw).i
 unfold aQ;rw[oN hA (by omega)]
def kI(h:(aF (aq tk) s).2.i<=k):aF (aq qA) s=aF (aq tk) s:=by
 have:=(dP (tk:=tk) (s:=s)).i
 unfold aF;rw[oN hA (by omega)]
def MV{l:Int}(hl:0<=l)(h:(gR (aq tk) l s).2.i<=k):gR (aq qA) l s=gR (aq tk) l s:=by
 have:=(Aj (tk:=tk) (s:=s) hl).i
 unfold gR;rw[oN hA (by omega)]
def Dz(h:(aU (aq tk) s).2.i<=k):aU (aq qA) s=aU (aq tk) s:=by
 have h1:(aF (aq tk) s).2.i<=(aU (aq tk) s).2.i:=by
  unfold aU;cases e:(!(aF (aq tk) s).2.bad&&(pk (aq tk) (aF (aq tk) s).2==[46])) with
  | true=>have:=(dP (tk:=tk) (s:=(aF (aq tk) s).2.up)).i;exact avz (Nat.le_succ _) this
  | false=>exact Nat.le_refl _
 have h2:=avz h1 h;unfold aU at h ⊢;rw[kI hA (s:=s) h2,oN hA (s:=(aF (aq tk) s).2) h2];cases e:(!(aF (aq tk) s).2.bad&&(pk (aq tk) (aF (aq tk) s).2==[46])) with
 | true=>rw[e,cond_true] at h;rw[cond_true,cond_true,kI hA h]
 | false=>rfl
def Tj(h:(oe (aq tk) s).2.i<=k):oe (aq qA) s=oe (aq tk) s:=by
 have h1:(aQ (aq tk) [44] (aF (aq tk) s).2).i<=(oe (aq tk) s).2.i:=by
  unfold oe;cases e:(aQ (aq tk) [44] (aF (aq tk) s).2).bad with
  | true=>exact Nat.le_refl _
  | false=>exact (dP (tk:=tk)).i
 have h2:=(bP (tk:=tk) (s:=(aF (aq tk) s).2) (w:=[44]) ag).i;have h3:=avz h1 h;unfold oe at h ⊢;rw[kI hA (s:=s) (by omega),gT hA ag (s:=(aF (aq tk) s).2) h3]
 cases e:(aQ (aq tk) [44] (aF (aq tk) s).2).bad with
 | true=>rfl
 | false=>rw[e,cond_false] at h;rw[cond_false,cond_false,kI hA h]
def zy:∀ (n:Nat) (s:PS) (r:Wd × PS),nE (aq tk) n s=some r->r.2.i<=k->nE (aq qA) n s=some r
 | 0,_,_,h,_=>by cases h
 | n+1,s,r,h,hr=>by
  have hs:=(ji _ _ _ h).i;unfold nE at h ⊢;rw[oN hA (by omega)]
  revert h;refine gl (fun _ h=>h) fun _=>gl (fun _ h=>h) fun _=>gl (fun _=>nS fun a ha e=>?_) fun _ h=>?_
  ·subst e
   have h1:=(bP (tk:=tk) (s:=a.2) (w:=[41]) ag).i;have h2:=(ji _ _ _ ha).i;have hr:(aQ (aq tk) [41] a.2).i<=k:=hr;rw[gT hA ag hr,gT hA ag (by omega)]
   exact⟨zy n _ _ ha (by omega),rfl⟩
  ·rw[au4] at h
   subst h;rw[Dz hA hr]
def L1{n:Nat}{r:Wd × PS}(h:jD (aq tk) n s=some r)(hr:r.2.i<=k):jD (aq qA) n s=some r:=by
 unfold jD at h ⊢;revert h;refine nS fun a ha e=>?_
 subst e;have h1:=(bP (tk:=tk) (s:=a.2) (w:=[41]) ag).i;have h2:=(ji _ _ _ ha).i;have hr:(aQ (aq tk) [41] a.2).i<=k:=hr;rw[gT hA ag hr,gT hA ag (by omega)]
 exact⟨zy hA n _ _ ha (by omega),rfl⟩
section
variable {α:Type}{elem SP:α->PS->Option (α × PS)}{fin:ay}(hf:fin≠[])(hq:∀ a s r,elem a s=some r->Lq tk s r.2)(he:∀ a s r,elem a s=some r->r.2.i<=k->SP a s=some r)
include hf hq he
def Ke:∀ (m:Nat) (a:α) (s:PS) (r:α × PS),qO (aq tk) elem fin m a s=some r->r.2.i<=k->qO (aq qA) SP fin m a s=some r
 | 0,_,_,_,h,_=>by cases h
 | m+1,a,s,r,h,hr=>by
  unfold qO at h ⊢;revert h;refine qT fun q hq1 h=>?_
  have hi:q.2.i<=r.2.i:=by
   cases hc:(!q.2.bad&&(pk (aq tk) q.2==[44])) with
   | true =>
    rw[hc,cond_true] at h;have:=(Di hf hq _ _ _ _ h).i
    exact avz (Nat.le_succ _) this
   | false =>
    rw[hc,cond_false,au4] at h;subst h;cases hb:q.2.bad with
    | true=>exact Nat.le_refl _
    | false=>exact (bP (tk:=tk) (s:=q.2) hf).i
  refine⟨he _ _ _ hq1 (by omega),?_⟩
  rw[oN hA (by omega)]
  revert h;refine gl (fun _ h=>Ke m _ _ _ h hr) fun _ h=>?_
  rw[au4] at h;subst h;cases hb:q.2.bad with
  | true=>rfl
  | false =>
   rw[hb,cond_false] at hr;rw[cond_false,cond_false,gT hA hf hr]
def BY{m:Nat}{a:α}{r:α × PS}(h:nB (aq tk) elem fin m a s=some r)(hr:r.2.i<=k):nB (aq qA) SP fin m a s=some r:=by
 have hs:=(mX hf hq h).i;unfold nB at h ⊢;rw[oN hA (by omega)]
 revert h;exact gl (fun _ h=>h) fun _ h=>Ke hA hf hq he _ _ _ _ h hr
end
section
variable {E E' B B' : EP}(gE:gZ tk E)(hE:WS k E E')
include gE hE
def tz(hw:w≠[]){ks:List Tm}{r:List Tm × PS}(h:nG (aq tk) E w ks s=some r)(hr:r.2.i<=k):nG (aq qA) E' w ks s=some r:=by
 unfold nG at h ⊢;have hi:(aQ (aq tk) w s).i<=r.2.i:=by
  cases hb:(aQ (aq tk) w s).bad with
  | true=>rw[hb,cond_true,au4] at h;subst h;exact Nat.le_refl _
  | false=>rw[hb,cond_false] at h;exact (jh gE h).i
 rw[gT hA hw (by omega)]
 revert h;exact gl (fun _ h=>h) fun _ h=>yW hE h hr
def YE{a:List ay × List Tm}{r:(List ay × List Tm) × PS}(h:Ag (aq tk) E a s=some r)(hr:r.2.i<=k):Ag (aq qA) E' a s=some r:=by
 unfold Ag at h ⊢;revert h;refine nS fun q hq e=>?_
 subst e;have hr:q.2.i<=k:=hr;have h1:=(jh gE hq).i;have h2:=(bP (tk:=tk) (s:=(aF (aq tk) s).2) (w:=[61]) ag).i;rw[kI hA (s:=s) (by omega),gT hA ag (s:=(aF (aq tk) s).2) (by omega)]
 exact⟨yW hE hq hr,rfl⟩
def XM(hB:WS k B B')(gB:gZ tk B):WS k (qG (aq tk) E B) (qG (aq qA) E' B'):=by
 intro s r h hr;have hs:=(OI gE gB s r h).i;unfold qG at h ⊢;rw[oN hA (by omega)]
 revert h;refine gl (fun _=>qT fun a ha=>?_) fun _=>gl (fun _=>?_) fun _=>gl (fun _=>?_) fun _ h=>hB _ _ h hr
 ·intro h
  have ia:a.2.i<=r.2.i:=by
   rw[au3] at h;obtain⟨b,hb,h⟩:=h;rw[au2] at h;obtain⟨c,hc,rfl⟩:=h;exact ((gG gE aI hb).tr (gG gE aI hc)).i
  refine⟨yW hE ha (by omega),?_⟩
  revert h;refine qT fun b hb h=>?_
  have ib:b.2.i<=r.2.i:=by
   rw[au2] at h;obtain⟨c,hc,rfl⟩:=h;exact (gG gE aI hc).i
  refine⟨tz hA gE hE aI hb (by omega),?_⟩
  revert h;refine nS fun c hc e=>?_
  subst e;exact⟨tz hA gE hE aI hc hr,rfl⟩
 ·intro h
  have h0:=h;rw[au3] at h0;obtain⟨a,ha,h0⟩:=h0;rw[au2] at h0;obtain⟨c,hc,rfl⟩:=h0;have hr:c.2.i<=k:=hr;have i1:=(gG gE aI hc).i;have i2:=(gG gE ag ha).i;rw[kI hA (s:=s.up) (by omega)]
  revert h;refine qT fun a2 ha2 h=>?_
  rw[ha] at ha2;cases ha2;refine⟨tz hA gE hE ag ha (by omega),?_⟩
  revert h;refine nS fun c2 gV e=>?_
  rw[hc] at gV;cases gV;exact⟨tz hA gE hE aI hc hr,rfl⟩
 ·intro h
  have h0:=h;simp only[au3] at h0;obtain⟨a,ha,b,hb,h0⟩:=h0;rw[au2] at h0;obtain⟨c,hc,rfl⟩:=h0;have hr:c.2.i<=k:=hr;have i1:=(gG gE aI hc).i;have i2:=(gG gE aI hb).i;have i3:=(gG gE ag ha).i;rw[Tj hA (s:=s.up) (by omega),tz hA gE hE ag ha (by omega),au9,tz hA gE hE aI hb (by omega),au9,tz hA gE hE aI hc hr]
  rfl
def Gz:∀ (m:Nat) (a:List ay × List Tm) (s:PS) (r:(List ay × List Tm) × PS),nJ (aq tk) E m a s=some r->r.2.i<=k->nJ (aq qA) E' m a s=some r
 | 0,_,_,_,h,_=>by cases h
 | m+1,a,s,r,h,hr=>by
  unfold nJ at h ⊢;have h0:=h;rw[au3] at h0;obtain⟨q,hq,h0⟩:=h0;have hi:q.2.i<=r.2.i:=by
   simp only at h0;cases hc:(!q.2.bad&&(pk (aq tk) q.2==[44])) with
   | true =>
    rw[hc,cond_true] at h0;have:=(rW gE _ _ _ _ h0).i
    exact avz (Nat.le_succ _) this
   | false =>
    rw[hc,cond_false,au4] at h0;subst h0;exact Nat.le_refl _
  have i1:=(gE _ _ hq).i;have i2:=(bP (tk:=tk) (s:=(aF (aq tk) (aF (aq tk) s).2).2) (w:=[45,62]) ag).i;have i3:=(dP (tk:=tk) (s:=(aF (aq tk) s).2)).i;rw[kI hA (s:=s) (by omega),kI hA (s:=(aF (aq tk) s).2) (by omega),gT hA ag (s:=(aF (aq tk) (aF (aq tk) s).2).2) (by omega),hE _ _ hq (by omega),au9]
  simp only at h0 ⊢;rw[oN hA (by omega)]
  revert h0;exact gl (fun _ h=>Gz m _ _ _ h hr) fun _ h=>h
def U3{n:Nat} : WS k (oC (aq tk) n E) (oC (aq qA) n E'):=by
 intro s r h hr;unfold oC at h ⊢;rw[au3] at h;obtain⟨q,hq,h⟩:=h;rw[au2] at h;obtain⟨m,hm,rfl⟩:=h;have hr:(aQ (aq tk) [125] m.2).i<=k:=hr;have i1:=(bP (tk:=tk) (s:=m.2) (w:=[125]) ag).i;have i2:=(rW gE _ _ _ _ hm).i;have i3:=(bP (tk:=tk) (s:=aQ (aq tk) [41] q.2) (w:=[123]) ag).i;have i4:=(bP (tk:=tk) (s:=q.2) (w:=[41]) ag).i;have i5:=(gE _ _ hq).i;have i6:=(bP (tk:=tk) (s:=(aU (aq tk) s).2) (w:=[40]) ag).i;rw[Dz hA (s:=s) (by omega),gT hA ag (s:=(aU (aq tk) s).2) (by omega),hE _ _ hq (by omega),au9,gT hA ag (s:=q.2) (by omega),gT hA ag (s:=aQ (aq tk) [41] q.2) (by omega),Gz hA gE hE _ _ _ _ hm (by omega),ave,gT hA ag hr]
def QQ{nm:ay} : WS k (pX (aq tk) E nm) (pX (aq qA) E' nm):=by
 intro s r h hr;have hs:(aF (aq tk) s).2.i<=r.2.i:=by
  unfold pX at h;cases hc:(pk (aq tk) (aF (aq tk) s).2==[91]) with
  | true =>
   rw[hc,cond_true,au2] at h;obtain⟨q,hq,rfl⟩:=h;exact avz (Nat.le_succ _) ((gE _ _ hq).tr (bP ag)).i
  | false =>
   rw[hc,cond_false,au2] at h;obtain⟨q,hq,rfl⟩:=h;exact ((bP ag).tr ((gE _ _ hq).tr (bP ag))).i
 unfold pX at h ⊢;rw[kI hA (s:=s) (by omega),oN hA (s:=(aF (aq tk) s).2) (by omega)]
 revert h;refine gl (fun _=>nS fun q hq e=>?_) fun _=>nS fun q hq e=>?_
 ·subst e
  have hr:(aQ (aq tk) [93] q.2).i<=k:=hr;have i1:=(bP (tk:=tk) (s:=q.2) (w:=[93]) ag).i;rw[gT hA ag hr];exact⟨hE _ _ hq (by omega),rfl⟩
 ·subst e
  have hr:(aQ (aq tk) [41] q.2).i<=k:=hr;have i1:=(bP (tk:=tk) (s:=q.2) (w:=[41]) ag).i;have i2:=(gE _ _ hq).i;rw[gT hA ag hr,gT hA ag (s:=(aF (aq tk) s).2) (by omega)]
  exact⟨hE _ _ hq (by omega),rfl⟩
def Vc{n:Nat} : WS k (mZ (aq tk) n E) (mZ (aq qA) n E'):=by
 intro s r h hr;have hs:(aU (aq tk) s).2.i<=r.2.i:=by
  unfold mZ at h;simp only at h;cases h1:(pk (aq tk) (aU (aq tk) s).2==[40]) with
  | true =>
   rw[h1,cond_true,au2] at h;obtain⟨q,hq,rfl⟩:=h;exact avz (Nat.le_succ _) (mX (tk:=tk) ag (fun a s r h=>jh gE h) hq).i
  | false =>
  rw[h1,cond_false] at h;cases h2:(pk (aq tk) (aU (aq tk) s).2==[123]) with
  | true =>
   rw[h2,cond_true,au2] at h;obtain⟨q,hq,rfl⟩:=h;exact avz (Nat.le_succ _) (mX (tk:=tk) ag (fun a s r h=>y6 gE h) hq).i
  | false =>
  rw[h2,cond_false] at h;cases h3:(pk (aq tk) (aU (aq tk) s).2==[58]) with
  | true =>
   rw[h3,cond_true] at h;exact avz (Nat.le_succ _) (Gy gE _ _ h).i
  | false =>
  rw[h3,cond_false] at h;cases h4:decide (0<=dp 46 0 (aU (aq tk) s).1) with
  | true=>rw[h4,cond_true,au4] at h;subst h;exact Nat.le_refl _
  | false=>rw[h4,cond_false,au4] at h;subst h;exact Nat.le_refl _
 unfold mZ at h ⊢;simp only at h ⊢;rw[Dz hA (s:=s) (by omega),oN hA (s:=(aU (aq tk) s).2) (by omega)]
 revert h;refine gl (fun _=>nS fun q hq e=>?_) fun _=>gl (fun _=>nS fun q hq e=>?_) fun _=>gl (fun _ h=>QQ hA gE hE _ _ h hr) fun _ h=>h
 ·subst e
  exact⟨BY hA ag (fun a s r h=>jh gE h) (fun a s r h=>yW hE h) hq hr,rfl⟩
 ·subst e
  exact⟨BY hA ag (fun a s r h=>y6 gE h) (fun a s r h=>YE hA gE hE h) hq hr,rfl⟩
def Xl{n:Nat} : WS k (mS (aq tk) n E) (mS (aq qA) n E'):=by
 intro s r h hr;have hs:=(OH gE _ _ h).i;unfold mS at h ⊢;rw[oN hA (by omega)]
 revert h;refine gl (fun _ h=>?_) fun _=>gl (fun _ h=>?_) fun _=>gl (fun _ h=>h) fun _=>gl (fun _ h=>h) fun _=>gl (fun _=>nS fun q hq e=>?_) fun _=>gl (fun _ h=>?_) fun _=>gl (fun _ h=>U3 hA gE hE _ _ h hr) fun _ h=>Vc hA gE hE _ _ h hr
 ·rw[au4] at h;subst h;rw[MV hA ah hr]
 ·rw[au4] at h;subst h;rw[MV hA (show (0:Int)<=1 by decide) hr]
 ·subst e
  have hr:(aQ (aq tk) [41] q.2).i<=k:=hr;have i1:=(bP (tk:=tk) (s:=q.2) (w:=[41]) ag).i;rw[gT hA ag hr];exact⟨hE _ _ hq (by omega),rfl⟩
 ·rw[au3] at h
  obtain⟨w,hw,h⟩:=h;rw[au2] at h;obtain⟨q,hq,rfl⟩:=h;have hr:q.2.i<=k:=hr;have i1:=(mX (tk:=tk) ag (fun a s r h=>jh gE h) hq).i
  have i2:=(bP (tk:=tk) (s:=w.2) (w:=[91]) ag).i;rw[L1 hA hw (by omega),au9,gT hA ag (s:=w.2) (by omega),BY hA ag (fun a s r h=>jh gE h) (fun a s r h=>yW hE h) hq hr]
  rfl
end
def NQ{B B':EP}(gB:gZ tk B)(hB:WS k B B') : ∀ (m:Nat) (t:Tm) (s:PS) (r:Tm × PS),uz (aq tk) B lv m t s=some r->r.2.i<=k->uz (aq qA) B' lv m t s=some r
 | 0,_,_,_,h,_=>by cases h
 | m+1,t,s,r,h,hr=>by
  have hs:=(tA gB _ _ _ _ h).i;unfold uz at h ⊢;rw[oN hA (by omega)]
  revert h;refine gl (fun _ h=>h) fun _=>?_
  split
  ·exact id
  ·refine gl (fun _=>qT fun q hq h=>?_) fun _ h=>h
   have hi:q.2.i<=r.2.i:=by
    cases hc:decide (lv=3) with
    | true=>rw[hc,cond_true,au4] at h;subst h;exact Nat.le_refl _
    | false=>rw[hc,cond_false] at h;exact (tA gB _ _ _ _ h).i
   refine⟨hB _ _ hq (by omega),?_⟩
   revert h;exact gl (fun _ h=>h) fun _ h=>NQ gB hB m _ _ _ h hr
def GJ:∀ (n l:Nat),l<=7->WS k (pE (aq tk) n l) (pE (aq qA) n l)
 | 0,l,_=>fun s r h=>by cases h
 | n+1,l,hl=>by
  have g0:=iO (tk:=tk) n 0;have h0:=GJ n 0 ah
  by_cases hl0:l=0
  ·subst hl0
   exact XM hA g0 h0 (GJ n 1 ah) (iO n 1)
  intro s r h hr;have hs:=(iO _ _ _ _ h).i
  by_cases hl7:l=7
  ·subst hl7
   replace h:(bif pk (aq tk) s==tP then (pE (aq tk) n 7 s.up).map fun r=>(.mk 4 9 [] [] [] [] [r.1] [],r.2)
    else bif pk (aq tk) s==uq then (pE (aq tk) n 7 s.up).map fun r=>(.mk 4 11 [] [] [] [] [r.1] [],r.2)
    else mS (aq tk) n (pE (aq tk) n 0) s)=some r:=h
   show (bif pk (aq qA) s==tP then (pE (aq qA) n 7 s.up).map fun r=>(.mk 4 9 [] [] [] [] [r.1] [],r.2)
    else bif pk (aq qA) s==uq then (pE (aq qA) n 7 s.up).map fun r=>(.mk 4 11 [] [] [] [] [r.1] [],r.2)
    else mS (aq qA) n (pE (aq qA) n 0) s)=some r
   rw[oN hA (by omega)]
   revert h;refine gl (fun _=>nS fun q hq e=>?_) fun _=>gl (fun _=>nS fun q hq e=>?_) fun _ h=>Xl hA g0 h0 _ _ h hr
   all_goals
    subst e;exact⟨GJ n 7 ah _ _ hq hr,rfl⟩
  rw[M0 ah ah] at h ⊢;revert h;refine qT fun q hq h=>?_
  have gB:=iO (tk:=tk) n (l+1);have hi:=(tA gB _ _ _ _ h).i;exact⟨GJ n (l+1) ah _ _ hq (by omega),NQ hA gB (GJ n (l+1) ah) _ _ _ _ h hr⟩
def ZZ{n:Nat}{a:List Fd}{r:List Fd × PS}(h:oP (aq tk) n kd a s=some r)(hr:r.2.i<=k):oP (aq qA) n kd a s=some r:=by
 unfold oP at h ⊢;rw[au2] at h;obtain⟨w,hw,h⟩:=h;have i1:=(ji _ _ _ hw).i;cases h4:decide (kd=4) with
 | true =>
  rw[h4,cond_true] at h;subst h;have hr:(gR (aq tk) 0 w.2).2.i<=k:=hr;have i2:=(Aj (tk:=tk) (s:=w.2) (least:=0) ah).i;rw[kI hA (s:=s) (by omega),zy hA _ _ _ hw (by omega),ave,MV hA ah hr]
  rfl
 | false =>
  rw[h4,cond_false] at h;subst h;have hr:w.2.i<=k:=hr;rw[kI hA (s:=s) (by omega),zy hA _ _ _ hw (by omega)]
  rfl
def XU{n:Nat}{r:Fm × PS}(h:pL (aq tk) n (pE (aq tk) n 0) s=some r)(hr:r.2.i<=k):pL (aq qA) n (pE (aq qA) n 0) s=some r:=by
 have g0:=iO (tk:=tk) n 0;have hs:=(y5 g0 h).i;unfold pL at h ⊢;simp only at h ⊢;rw[oN hA (by omega)]
 revert h;refine gl (fun _ h=>h) fun _ h=>?_
 rw[au3] at h;obtain⟨sl,qv,h⟩:=h;have hi:sl.2.i<=r.2.i:=by
  cases hc:(decide (kM (pk (aq tk) s) dJ 0=0) || decide (kM (pk (aq tk) s) dJ 0=1)) with
  | true=>rw[hc,cond_true,au4] at h;subst h;exact Nat.le_refl _
  | false =>
   rw[hc,cond_false,au3] at h;obtain⟨w,hw,h⟩:=h;rw[au2] at h;obtain⟨b,hb,rfl⟩:=h;exact ((ji _ _ _ hw).tr ((bP (w:=[61]) ag).tr (g0 _ _ hb))).i
 have i1:=(mX (tk:=tk) ag (fun a s' r h'=>qP h') qv).i
 have i2:=(bP (tk:=tk) (s:=(aF (aq tk) s.up).2) (w:=[40]) ag).i;rw[kI hA (s:=s.up) (by omega),gT hA ag (s:=(aF (aq tk) s.up).2) (by omega),BY hA ag (fun a s' r h'=>qP h') (fun a s' r h'=>ZZ hA h') qv (by omega),au9]
 revert h;refine gl (fun _ h=>h) fun _=>qT fun w hw h=>?_
 rw[au2] at h;obtain⟨b,hb,rfl⟩:=h;have hr:b.2.i<=k:=hr;have i3:=(g0 _ _ hb).i;have i4:=(bP (tk:=tk) (s:=w.2) (w:=[61]) ag).i;refine⟨zy hA _ _ _ hw (by omega),?_⟩
 rw[gT hA ag (s:=w.2) (by omega),GJ hA n 0 ah _ _ hb hr]
 rfl
def O7:∀ (m:Nat) (us:List ay) (s:PS) (r:List ay × PS),nC (aq tk) m us s=some r->r.2.i<=k->nC (aq qA) m us s=some r
 | 0,_,_,_,h,_=>by cases h
 | m+1,us,s,r,h,hr=>by
  have hs:=(tB _ _ _ _ h).i;unfold nC at h ⊢;rw[oN hA (by omega)]
  revert h;refine gl (fun _ h=>?_) fun _ h=>h
  have i1:=(tB _ _ _ _ h).i;rw[kI hA (s:=s.up) (by omega)]
  exact O7 m _ _ _ h hr
def NV(h1:k<tk.length)(h2:k<qA.length){n:Nat} : ∀ (m:Nat) (a:List Fm × List Nat) (s:PS) (r:(List Fm × List Nat) × PS),lS (aq tk) n m a s=some r->r.2.i<=k->lS (aq qA) n m a s=some r
 | 0,_,_,_,h,_=>by cases h
 | m+1,a,s,r,h,hr=>by
  have hs:=BZ _ _ _ _ h;have e:Nat.blt s.i (aq qA).length=Nat.blt s.i (aq tk).length:=by
   rw[show Nat.blt s.i (aq qA).length=true by rw[avn];simp[aq];omega,show Nat.blt s.i (aq tk).length=true by rw[avn];simp[aq];omega]
  unfold lS at h ⊢;rw[e];revert h;refine gl (fun _=>qT fun q hq h=>?_) fun _ h=>h
  have i1:=BZ _ _ _ _ h;exact⟨XU hA hq (by omega),NV h1 h2 m _ _ _ h hr⟩
def ZJ(h1:k<tk.length)(h2:k<qA.length){n:Nat}{q:(ay × List ay × List Fm × List Nat) × PS}(h:oo (aq tk) n=some q)(hr:q.2.i<=k):oo (aq qA) n=some q:=by
 unfold oo at h ⊢;simp only[au3,au2] at h;obtain⟨u,hu,d,hd,rfl⟩:=h;have hr:d.2.i<=k:=hr;have i1:u.2.i<=d.2.i:=BZ _ _ _ _ hd;have i2:=(tB _ _ _ _ hu).i;have i3:=(dP (tk:=tk) (s:=aQ (aq tk) gH ⟨0,false⟩)).i;rw[gT hA aI (s:=⟨0,false⟩) (by omega),kI hA (by omega),O7 hA _ _ _ _ hu (by omega),au9,NV hA h1 h2 _ _ _ _ hd hr]
 rfl
end
end
theorem vS(b:UInt8)(r r2:ay):∀ (c:Bool) (a:ay),bI c (a++b :: r)=a.length->bI c (a++b :: r2)=a.length
 | c,[],h=>by
  simp only[avO,bI,List.length_nil] at h ⊢
  grind
 | c,x :: a,h=>by
  have h1:=vS b r r2 false a;have h2:=vS b r r2 true a;have h3:=vS b r r2 c a;simp only[avK,bI,List.length_cons] at h ⊢
  grind
def Beh(s r:ay):Prop:=r=[]\/(∃ r',r=32 :: r')\/∃ x s' r',s=x :: s'/\r=x :: r'
theorem KO{k:Int}{s r:ay}(hr:Beh s r):∀ v:ay,cV k (v++s)=v.length->cV k (v++r)=v.length
 | [],h=>by
  simp only[avO,List.length_nil] at h ⊢
  rcases hr with rfl|⟨r',rfl⟩|⟨x,s',r',rfl,rfl⟩
  ·rfl
  ·have e:kindOf 32=0:=by decide
   simp[cV,e]
  ·simp only[cV] at h ⊢
   grind
 | c :: v,h=>by
  have ih:=KO (k:=k) hr v;simp only[avK,cV,List.length_cons] at h ⊢
  grind
def Nn(b:UInt8):lj [b,32]=false:=by
 unfold lj;simp
theorem Wt{s r:ay}(hu:u≠[])(h:gI (u++s)=u.length)(hr:Beh s r):gI (u++r)=u.length:=by
 match u,hu with
 | b :: v,_ =>
  have key:=KO (k:=kindOf b) hr v;simp only[avK,gI,List.length_cons] at h ⊢
  by_cases hk:0<kindOf b
  ·rw[if_pos hk] at h ⊢
   have:=qi (kindOf b) (v++s)
   grind
  ·rw[if_neg hk] at h ⊢
   match v with
   | [] =>
    simp only[avO,List.length_nil] at h ⊢
    rcases hr with rfl|⟨r',rfl⟩|⟨x,s',r',rfl,rfl⟩
    ·grind
    ·have:=Nn b
     simp only[avR,avY] at h ⊢
     grind
    ·simp only[avR,avY,List.length_cons] at h ⊢
     grind
   | [x] =>
    simp only[avK,avO,avR,avY,List.length_cons] at h ⊢
    grind
   | x :: y :: v =>
    simp only[avK,avR,avY,List.length_cons] at h ⊢
    grind
def GY{s:ay}{t:Tok}{l:List Tok}(h:(fq s off).2.2=-1)(e:(fq s off).1=t :: l):∃ s' MZ,s=t.before++(t.text++s')/\bI false s=t.before.length/\gI (t.text++s')=t.text.length/\t.text≠[]/\(fq s' MZ).2.2=-1/\(fq s' MZ).1=l:=by
 rw[fq] at h e;have k1:=nw false s;split at h
 ·rename_i hs
  rw[if_pos hs] at e;cases e
 ·rename_i hs
  rw[if_neg hs] at e;split at h
  ·simp at h;omega
  ·rename_i ht
   rw[dif_neg ht] at e;simp only at h e;split at h
   ·rename_i hx
    rw[if_pos hx] at e;simp only[awe] at e;obtain⟨e1,e2⟩:=e;subst e1;have k2:=zt (s.drop (bI false s));refine⟨_,_,?_,?_,?_,?_,hx,e2⟩
    ·simp only
     rw[<- av7,awa,awa]
    ·simp only[avU];omega
    ·simp only[avU]
     rw[<- av7,awa];omega
    ·intro e
     have:=awt List.length e
     simp only[avU,List.length_nil] at this;omega
   ·rename_i hx
    exact absurd h hx
def V'{b r:ay}(h1:bI false (b++(u++r))=b.length)(h2:gI (u++r)=u.length)(hu:u≠[])(h:(fq (b++(u++r)) off).2.2=-1):∃ MZ,(fq r MZ).2.2=-1/\(fq (b++(u++r)) off).1=⟨u,b⟩ :: (fq r MZ).1:=by
 have T9:0<u.length:=awq.2 hu;rw[fq] at h ⊢;have hd:(b++(u++r)).drop b.length=u++r:=by simp
 have e1:¬ bI false (b++(u++r))=(b++(u++r)).length:=by rw[h1];simp only[List.length_append];omega
 rw[if_neg e1] at h ⊢;have e2:¬ gI ((b++(u++r)).drop (bI false (b++(u++r))))=0:=by rw[h1,hd,h2];omega
 rw[dif_neg e2] at h ⊢;simp only[h1,hd,h2] at h ⊢;rw[show (b++(u++r)).drop (b.length+u.length)=r by rw[<- av7,hd];simp] at h ⊢
 split at h
 ·rename_i hx
  refine⟨_,hx,?_⟩;rw[if_pos hx];simp
 ·rename_i hx
  exact absurd h hx
abbrev wr(l:List Tok):ay:=(l.map fun t=>t.before++t.text).flatten
def KT{r:ay}(hr:r=[]\/∃ r',r=32 :: r'){m:List Tok} : ∀ (l:List Tok) (s:ay) (off ae9:Nat),(fq s off).2.2=-1->(fq s off).1=l++m->(fq (wr l++r) ae9).2.2=-1->∃ m',(fq (wr l++r) ae9).1=l++m'
 | [],_,_,_,_,_,_=>⟨_,rfl⟩
 | t :: l,s,off,ae9,h,e,h2=>by
  obtain⟨s',MZ,e1,k1,k2,k3,k4,k5⟩:=GY h e;have ew:wr (t :: l)++r=t.before++(t.text++(wr l++r)):=by simp[wr]
  rw[ew] at h2 ⊢;have hb:Beh s' (wr l++r):=by
   match l,k5 with
   | [],_ =>
    rcases hr with rfl|⟨r',rfl⟩
    ·exact .inl rfl
    ·exact .inr (.inl ⟨r',rfl⟩)
   | t2 :: l,k5 =>
    obtain⟨s3,asL,f1, -, -,f3, -, -⟩:=GY k4 k5;have ew2:wr (t2 :: l)++r=t2.before++(t2.text++(wr l++r)):=by simp[wr]
    rw[ew2,f1]
    match t2.before,t2.text,f3 with
    | x :: b,u,_=>exact .inr (.inr ⟨x,_,_,rfl,rfl⟩)
    | [],x :: u,_=>exact .inr (.inr ⟨x,_,_,rfl,rfl⟩)
  have q2:=Wt k3 k2 hb;have q1:bI false (t.before++(t.text++(wr l++r)))=t.before.length:=by
   rw[e1] at k1
   match ht:t.text,k3 with
   | x :: u,_ =>
    rw[ht] at k1;exact vS x _ _ false _ k1
  obtain⟨aog,p1,p2⟩:=V' q1 q2 k3 h2;obtain⟨m',p3⟩:=KT hr l s' MZ aog k4 k5 p1;exact⟨m',by rw[p2,p3];rfl⟩
def Ri{s r:ay}{k:Nat}(hs:(bB s).2.2=-1)(hr:r=[]\/∃ r',r=32 :: r')(h:(bB (wr ((bB s).1.take k)++r)).2.2=-1):∃ m,(bB (wr ((bB s).1.take k)++r)).1=(bB s).1.take k++m:=by
 unfold bB at hs h ⊢;split at hs
 ·simp at hs
 ·rename_i h1
  rw[if_neg h1] at h ⊢;split at h
  ·simp at h
  ·rename_i h2
   rw[if_neg h2];exact KT (m:=(fq s 0).1.drop k) hr _ s 0 0 hs (awa _ _).symm h
def x6(mm:Nat)(K:ae)(f:FuncId)(args:List AV)(jy:List ay):Prop :=
 ∀ l,l.length+jy.length<=9000000->aj A f args (cI mm l false K)=some (.undef,some ⟨cI mm (l++jy) false K,mm⟩)
def mP(t:Tm):Prop:=az t=true/\∀ (mm:Nat) (K:ae),PW mm K->x6 mm K 64 [.ref mm 0,.agg (aM t)] (af t)
def akL{f:FuncId}{args:List AV}{jy:List ay}{n:Nat}(h:rB mm K f args true jy n)(hn:n<=jy.length+1000000):x6 mm K f args jy:=by
 intro l hl;obtain⟨l',e,t1,n1⟩:=h l false ah;rw[t1 rfl] at e;exact e
def Mz{t:Tm}(ht:mP t)(least:Int)(hP:PW mm K):x6 mm K 145 [.ref mm 0,.agg (aM t),.int .i64 least] (fT (af t,bE t) least):=by
 intro l hl;obtain⟨hp,ht⟩:=ht;have uc:=fun K=>UZ t K
 have Qm:=MH hp;unfold x6 at ht;rw[ai] at uc ht ⊢;obtain⟨K1,fJ,dc,fK,hT,hO⟩:=oO hP t;have aZ:=hP.lt;unfold fT at hl ⊢;simp only at hl ⊢;rw[<- Qm] at hl ⊢
 by_cases hc:Dc t<least
 ·rw[if_pos hc] at hl ⊢
  simp only[List.length_append,List.length_cons,List.length_nil] at hl;have e1:=dv fJ [[40]] l false ag kq;have e2:=ht mm K1 fJ (l++[[40]]) kq;have e3:=dv fJ [[41]] (l++[[40]]++af t) false ag kq;rw[ug] at e1 e3;have ho:=hO (l++[[40]]++af t++[[41]]) false;rw[show l++([[40]]++af t++[[41]])=l++[[40]]++af t++[[41]] by simp]
  refine cW Ux.eq_1 ?_;exact nL6 dc fK uc e1 e2 (j5 e3 hT ho @Nat.lt_irrefl @bu) tv
 ·rw[if_neg hc] at hl ⊢
  have e2:=ht mm K1 fJ l hl;have ho:=hO (l++af t) false;refine cW Ux.eq_1 ?_;exact nL6 dc fK uc e2 hT (j3 ho @Nat.lt_irrefl @bu) tv
def QN:∀ (xs:List (List ay)) (y:List ay),(au xs).length<=(au (xs++[y])).length:=by
 intro xs y;rw[jg];split
 ·rename_i h;rw[h];simp[au]
 ·simp
def abR{ks:List Tm} : ∀ (d i:Nat),(au (uS tb ks i)).length<=(au (uS tb ks (i+d))).length
 | 0,i=>Nat.le_refl _
 | d+1,i=>avz (abR d i) (by rw[show i+(d+1)=i+d+1 by omega,C7];exact QN _ _)
def Pd(mm:Nat)(K:ae)(fb:FuncId)(cs:List AV)(i:Nat)(jy:List ay):Prop :=
 ∀ l,l.length+jy.length<=9000000->∃ c,aj A fb (.int .i64 i :: cs) (cI mm l false K)=some (.undef,c)/\(c=some ⟨cI mm (l++jy) false K,mm⟩\/c=none/\jy=[])
def B2{ks:List Tm}{fb:FuncId}{cs:List AV}(hP:PW mm K)(gD:∀ u∈ks,mP u)(Fu:ks.length<=9000000)(yL:0<ks.length)(hb:∀ i,i<ks.length->Pd mm K fb cs i (tb i)) :
  x6 mm K 108 [.ref mm 0,.slice (aC ks) false,.func (.func fb) [] cs] (au (uS tb ks ks.length)):=by
 intro l hl;have aZ:=hP.lt;refine cW Ug.eq_1 ?_;refine nK2 @cO @bu ?_;refine cg ks.length 0 (fun i s=>∃ T lo g,s=⟨T,cI mm (l++au (uS tb ks i)) false K,lo,g⟩/\(lo=mm\/lo=K.length)/\(i=0\/lo=mm)/\T 0=.ref mm 0/\T 2=.func (.func fb) [] cs/\T 8=.slice (aC ks) false/\T 9=.int .i64 ks.length/\T 10=.int .i64 i)
  (fun s=>∃ T g,s=⟨T,cI mm (l++au (uS tb ks ks.length)) false K,mm,g⟩) (fun _=>False) ?_ ?_ (fun _ h=>h.elim) 0 _ ah ?_
 ·rintro i s hi ⟨T,lo,g,rfl,xT,rf,q0,q2,q8,q9,IX⟩
  by_cases Bt:i<ks.length
  ·have hx:=au5 Bt
   have hm:=avx Bt;have HK:ks.getD i qj=ks[i]:=by rw[List.getD,hx];rfl
   have hle:(au (uS tb ks (i+1))).length<=(au (uS tb ks ks.length)).length:=by
    have:=abR (tb:=tb) (ks:=ks) (ks.length-(i+1)) (i+1)
    rwa [show i+1+(ks.length-(i+1))=ks.length by omega] at this
   rw[C7,HK] at hle ⊢;generalize ks[i]=u at hx hm hle;have gn:=DU hx;obtain⟨-,hT⟩:=gD u hm;unfold x6 at hT;rw[ai] at hT gn;have Ql:(bif decide (mm<lo) then mm else lo)=mm:=by
    rcases xT with rfl|rfl
    ·simp
    ·simp[aZ]
   have AZ:(bif decide (mm<mm) then mm else mm)=mm:=ag
   have HL:(uS tb ks i).length=i:=OA
   by_cases h0:i=0
   ·have WX:uS tb ks i=[]:=by rw[h0];rfl
    rw[WX] at hle ⊢;have hl0:au ([]:List (List ay))=[]:=rfl;have hl1:au ([]++[tb i++af u])=tb i++af u:=rfl;rw[hl1] at hle ⊢;rw[hl0,List.append_nil];simp only[List.length_append] at hle;obtain⟨c2,e2,gV⟩:=hb i Bt l ah;have e3:=hT mm K hP (l++tb i) (by rw[List.length_append];omega)
    rw[<- avj]
    rcases gV with rfl|⟨rfl,h2⟩
    ·refine nK6 q0 q2 q8 q9 IX (j5 gn e2 e3 Ql @Nat.lt_irrefl) ?_
     refine⟨Bt,_,mm,_,rfl,.inl rfl,.inr rfl,?_,?_,?_,?_,?_⟩
     all_goals exact vO4 q0 q2 q8 q9
    ·rw[h2,List.append_nil] at e3 ⊢
     refine nK6 q0 q2 q8 q9 IX (j4 gn e2 e3 Ql) ?_;refine⟨Bt,_,mm,_,rfl,.inl rfl,.inr rfl,?_,?_,?_,?_,?_⟩
     all_goals exact vO4 q0 q2 q8 q9
   ·rw[jg,if_neg (fun h=>by have:=awt List.length h;rw[HL] at this;simp at this;omega)] at hle ⊢
    simp only[List.length_append,List.length_cons,List.length_nil] at hle;have ec:=dv hP [[44]] (l++au (uS tb ks i)) false ag kq;rw[ug] at ec;obtain⟨c2,e2,gV⟩:=hb i Bt (l++au (uS tb ks i)++[[44]]) kq;have e3:=hT mm K hP (l++au (uS tb ks i)++[[44]]++tb i) kq;rw[show l++(au (uS tb ks i)++[[44]]++(tb i++af u))=l++au (uS tb ks i)++[[44]]++tb i++af u by simp]
    rcases gV with rfl|⟨rfl,h2⟩
    ·refine nK6 q0 q2 q8 q9 (j2 IX gn) (j5 ec e2 e3 Ql @Nat.lt_irrefl) ?_
     refine⟨Bt,_,mm,_,rfl,.inl rfl,.inr rfl,?_,?_,?_,?_,?_⟩
     all_goals exact vO4 q0 q2 q8 q9
    ·rw[h2,List.append_nil] at e3 ⊢
     refine nK6 q0 q2 q8 q9 (j2 IX gn) (j5 ec e2 e3 Ql @Nat.lt_irrefl) ?_;refine⟨Bt,_,mm,_,rfl,.inl rfl,.inr rfl,?_,?_,?_,?_,?_⟩
     all_goals exact vO4 q0 q2 q8 q9
  ·obtain rfl:i=ks.length:=ah
   have hlm:lo=mm:=by
    rcases rf with h2|h2
    ·omega
    ·exact h2
   subst hlm;refine nK3 q9 IX @Nat.lt_irrefl ?_;exact⟨_,_,rfl⟩
 ·rintro s ⟨T,g,rfl⟩
  have ho:=hP.open (l++au (uS tb ks ks.length)) false;exact nK2 @fY ho tv
 ·have e0:cI mm l false K=cI mm (l++au (uS tb ks 0)) false K:=by rw[show au (uS tb ks 0)=[] from rfl,List.append_nil]
  refine⟨_,K.length,_,awt (fun x=>AS.mk _ x _ _) e0,.inr rfl,.inl rfl,?_,?_,?_,?_,?_⟩
  all_goals exact iJ
def abZ{ks:List Tm} : ∀ (d i:Nat),(Ap ts ks i).length<=(Ap ts ks (i+d)).length
 | 0,i=>Nat.le_refl _
 | d+1,i=>avz (abZ d i) (by rw[show i+(d+1)=i+d+1 by omega,KD,List.length_append];omega)
theorem Du{ks:List Tm}(hP:PW mm K)(gD:∀ u∈ks,mP u)(Fu:ks.length<=10)(yL:0<ks.length)(ql:ts.length=ks.length) :
  x6 mm K 111 [.ref mm 0,.slice (aC ks) false,.slice (strs ts) false] (Ap ts ks ks.length):=by
 intro l hl;have aZ:=hP.lt;refine cW abC.eq_1 ?_;refine nK2 @cO @bu ?_;refine cg ks.length 0 (fun i s=>∃ T lo g,s=⟨T,cI mm (l++Ap ts ks i) false K,lo,g⟩/\(lo=mm\/lo=K.length)/\(i=0\/lo=mm)/\T 0=.ref mm 0/\T 2=.slice (strs ts) false/\T 8=.slice (aC ks) false/\T 9=.int .i64 ks.length/\T 10=.int .i64 i)
  (fun s=>∃ T g,s=⟨T,cI mm (l++Ap ts ks ks.length) false K,mm,g⟩) (fun _=>False) ?_ ?_ (fun _ h=>h.elim) 0 _ ah ?_
 ·rintro i s hi ⟨T,lo,g,rfl,xT,rf,q0,q2,q8,q9,IX⟩
  by_cases Bt:i<ks.length
  ·have hx:=au5 Bt
   have hm:=avx Bt;have HK:ks.getD i qj=ks[i]:=by rw[List.getD,hx];rfl
   have hle:(Ap ts ks (i+1)).length<=(Ap ts ks ks.length).length:=by
    have:=abZ (ts:=ts) (ks:=ks) (ks.length-(i+1)) (i+1)
    grind
   rw[KD,HK] at hle ⊢;generalize ks[i]=u at hx hm hle;have gn:=DU hx;have iz:=nT (l:=ts) (i:=i) ah;generalize ts.getD i []=tk at iz hle;obtain⟨-,hT⟩:=gD u hm;unfold x6 at hT;rw[ai] at hT gn;have Ql:(bif decide (mm<lo) then mm else lo)=mm:=by
    grind
   have AZ:(bif decide (mm<mm) then mm else mm)=mm:=ag
   simp only[List.length_append,List.length_cons,List.length_nil] at hle;have e1:=dv hP [tk] (l++Ap ts ks i) false ag kq;rw[ug] at e1;have e3:=hT mm K hP (l++Ap ts ks i++[tk]) kq;rw[show l++(Ap ts ks i++([tk]++af u))=l++Ap ts ks i++[tk]++af u by simp]
   refine nK6 q0 q2 q8 q9 (j2 IX gn) (j5 iz e1 e3 Ql @Nat.lt_irrefl) ?_;refine⟨Bt,_,mm,_,rfl,.inl rfl,.inr rfl,?_,?_,?_,?_,?_⟩
   all_goals exact vO4 q0 q2 q8 q9
  ·obtain rfl:i=ks.length:=ah
   have hlm:lo=mm:=by
    grind
   subst hlm;refine nK3 q9 IX @Nat.lt_irrefl ?_;exact⟨_,_,rfl⟩
 ·rintro s ⟨T,g,rfl⟩
  have ho:=hP.open (l++Ap ts ks ks.length) false;exact nK2 @fY ho tv
 ·have e0:cI mm l false K=cI mm (l++Ap ts ks 0) false K:=by rw[show Ap ts ks 0=[] from rfl,List.append_nil]
  refine⟨_,K.length,_,awt (fun x=>AS.mk _ x _ _) e0,.inr rfl,.inl rfl,?_,?_,?_,?_,?_⟩
  all_goals exact iJ
theorem wD(h:PW mm K){s:ay}(hw:isWord s=true)(hs:s.length<=1100000)(l:List ay)(hl:l.length<=9000000):aj A 59 [.ref mm 0,.str s] (cI mm l false K)=some (.undef,some ⟨cI mm (l++[s]) false K,mm⟩):=by
 obtain⟨l',e,t1,n1⟩:=tC h s ah l false ah
 grind
theorem Dy(h:PW mm K){s:ay}(hw:gA s=true)(hs:s.length<=1100000)(l:List ay)(hl:l.length<=9000000):aj A 101 [.ref mm 0,.str s] (cI mm l false K)=some (.undef,some ⟨cI mm (l++aL s) false K,mm⟩):=by
 obtain⟨l',e,t1,n1⟩:=KG h s ah l false ah
 grind
theorem GG(i:Nat):Pd mm K 105 [] i []:=by
 intro l hl;obtain⟨l',c,e,h,t1,n1⟩:=QS (mm:=mm) (K:=K) i l false (by simp at hl;omega)
 grind
theorem acE{n:Nat}{t:Tm}(h:TyH mm t n K)(i:Nat)(hi:i<t.names.length)(Fw:∀ s∈t.names,s.length<=1100000)(hw:isWord (t.names.getD i [])=true):Pd mm K 147 [.ref n 0,.ref (n+1) 0] i [t.names.getD i [],[61]]:=by
 intro l hl;obtain⟨l',c,e,hc,t1,n1⟩:=acD h i hi Fw l false (by simp only[List.length_cons,List.length_nil] at hl;omega)
 grind
theorem acC{n:Nat}{t:Tm}(h:TyH mm t n K)(i:Nat)(hi:2*i+1<t.names.length)(uQ:t.names.length<=20000000)(Fw:∀ s∈t.names,s.length<=1100000)(hw:t.names.all isWord=true) :
  Pd mm K 146 [.ref n 0,.ref (n+1) 0] i [t.names.getD (2*i) [],t.names.getD (2*i+1) [],[45,62]]:=by
 intro l hl;have gn:=nT (show 2*i<t.names.length by omega)
 have Qg:=nT hi;have qv:=xh Fw (2*i);have anp:=xh Fw (2*i+1);have Gq:isWord (t.names.getD (2*i) [])=true:=by
  grind
 have W4:isWord (t.names.getD (2*i+1) [])=true:=by
  grind
 generalize t.names.getD (2*i) []=s at gn qv Gq hl ⊢;generalize t.names.getD (2*i+1) []=s2 at Qg anp W4 hl ⊢;simp only[List.length_cons,List.length_nil] at hl;have e1:=wD h.p Gq ah l ah;have e2:=wD h.p W4 ah (l++[s]) kq;have e3:=dv h.p [[45,62]] (l++[s]++[s2]) false ag kq;rw[ug] at e3;refine⟨_,?_,.inl rfl⟩;rw[show l++[s,s2,[45,62]]=l++[s]++[s2]++[[45,62]] by simp]
 refine cW abL.eq_1 ?_;have hwv:=h.w;have ht:=h.t;have aZ:=h.p.lt;have ho:=h.p.open (l++[s]++[s2]++[[45,62]]) false;have en:asNat (.int .i64 (2*(i:Int)))=some (2*i):=by rw[bA ah];congr 1
 have en2:asNat (.int .i64 (2*(i:Int)+1))=some (2*i+1):=by rw[bA ah];congr 1
 exact nL6 hwv ht gn Qg (j4 en en2 e1 e2) (j5 e3 @fY ho @Nat.lt_irrefl @bu) tv
theorem yF(h:PW mm K){t:Tm}{a b:Int}(hh:jf t a b=true)(l:List ay):aj A 110 [.ref mm 0,.agg (aM t),.int .i64 a,.int .i64 b] (cI mm l false K)=some (.bool true,some ⟨cI mm l false K,mm⟩):=by
 grind [adh]
theorem aaf(s:ay):gI s<=16:=by
 cases s with
 | nil=>simp[gI]
 | cons b r =>
  rw[gI]
  grind
theorem ny{s:ay}(h:isWord s=true):s.length<=16:=by
 cases s with
 | nil=>simp
 | cons b r =>
  simp only[isWord,au6,avf] at h
  grind [aaf]
theorem CQ:∀ s:ay,s.length<=(aX s).1.length+(aX s).2.1.length+1/\((aX s).2.2=false->s.length<=(aX s).1.length)
 | []=>ag
 | b :: r=>by
  have ih:=CQ r;unfold aX
  grind
theorem vO{s:ay}(h:gA s=true):s.length<=33:=by
 unfold gA at h
 grind [ny,CQ]
def Ii(hP:PW mm K)(t:Tm):∃ K1,TyH mm t K.length K1 /\
  (∀ l,cI mm l false K++[.box 122 [.ref mm 0],.box 56 [.int .i64 t.kind,.int .i64 t.n,.str t.name,.str t.field,.str t.wn,.slice (aH t.wk) false,.slice (aC t.kids) false,.slice (strs t.names) false]]=cI mm l false K1) /\
  (∀ l,(cI mm l false K1).take K.length=cI mm l false K)/\(∀ l,ni K.length mm (cI mm l false K1)=true) :=
 ⟨_,⟨hP.ajL (fun cs e=>by cases e) (fun cs e=>by cases e),fun _ _=>ZS hP,fun _ _=>ZU hP⟩,fun _=>sq hP,fun _=>qd hP,fun l=>hP.ON l false⟩
def aaj{t:Tm}(hk:t.kind=8)(hp:az t=true)(gD:∀ u∈t.kids,mP u)(hP:PW mm K):x6 mm K 112 [.ref mm 0,.agg (aM t)] (af t):=by
 intro l hl;have hu:=iE hp;have dQ:=OU hk hu;rw[hp] at dQ;have dQ:=dQ.symm;simp only[au6,avf] at dQ;obtain⟨⟨⟨g1,g2⟩,g3⟩,g4⟩:=dQ;have hF:=ags hk hu;obtain⟨x,hx⟩:=Bw (show t.kids.length=1 by omega)
 have kL:af t=aL t.name++[[58]]++[t.field]++[[91]]++af x++[[93]]:=by rw[bJ t,hk,hx];simp[b8]
 rw[kL] at hl ⊢;simp only[List.length_append,List.length_cons,List.length_nil] at hl;have tw:=vO g2;have yK:=ny g3;have RD:=(gD x (by rw[hx];simp)).2
 have gn:(aC t.kids)[0]?=some (aM x):=by rw[hx];simp[aC]
 rw[ai x] at gn RD;obtain⟨K1,hH,dc,hT,hO⟩:=Ii hP t;have fJ:=hH.p;have aZ:=hP.lt;have JP:=fun (ty off t:Nat) (os:List aV) (T:aD) (lo gen:Nat) (Q:AS->Prop)=>wW (A:=A) (T:=T) (H:=cI mm l false K) (lo:=lo) (gen:=gen) (t:=t) (ty:=ty) (l:=mm) (off:=off) (os:=os) (K:=Q) (by rw[bu];omega)
 have v8:decide (K.length+1<K.length)=false:=ag;have hw:=hH.w;have ht:=hH.t;have e1:=Dy fJ g2 ah l ah;have hv:=yF fJ (t:=t) (a:=1) (b:=0) (by have hq:=hF.2.2.2.2;simp[jf,hx,hq]) (l++aL t.name)
 have e2:=dv fJ [[58]] (l++aL t.name) false ag kq;have e3:=wD fJ g3 ah (l++aL t.name++[[58]]) kq;have e4:=dv fJ [[91]] (l++aL t.name++[[58]]++[t.field]) false ag kq;have e5:=RD mm K1 fJ (l++aL t.name++[[58]]++[t.field]++[[91]]) kq;have e6:=dv fJ [[93]] (l++aL t.name++[[58]]++[t.field]++[[91]]++af x) false ag kq;rw[show l++(aL t.name++[[58]]++[t.field]++[[91]]++af x++[[93]])=l++aL t.name++[[58]]++[t.field]++[[91]]++af x++[[93]] by simp only[avj]]
 have ho:=hO (l++aL t.name++[[58]]++[t.field]++[[91]]++af x++[[93]]);rw[ug] at e2 e4 e6;rw[ai] at hv ⊢;refine cW Gu.eq_1 ?_;exact nL6 dc JP hw (j4 ht gn hv e1) (j5 e2 e3 e4 e5 e6) (j5 hT ho v8 @Nat.lt_irrefl @bu) tv
def aak{t:Tm}(hk:t.kind=9)(hp:az t=true)(gD:∀ u∈t.kids,mP u)(hP:PW mm K):x6 mm K 112 [.ref mm 0,.agg (aM t)] (af t):=by
 intro l hl;have hu:=iE hp;have dQ:=OV hk hu;rw[hp] at dQ;have dQ:=dQ.symm;simp only[au6,avf] at dQ;obtain⟨⟨⟨g1,g2⟩,g3⟩,g4⟩:=dQ;have hF:=agt hk hu;obtain⟨x,hx⟩:=Bw (show t.kids.length=1 by omega)
 have kL:af t=aL t.name++[[58]]++[t.field]++[[40]]++af x++[[41]]:=by rw[bJ t,hk,hx];simp[b9]
 rw[kL] at hl ⊢;simp only[List.length_append,List.length_cons,List.length_nil] at hl;have tw:=vO g2;have yK:=ny g3;have RD:=(gD x (by rw[hx];simp)).2
 have gn:(aC t.kids)[0]?=some (aM x):=by rw[hx];simp[aC]
 rw[ai x] at gn RD;obtain⟨K1,hH,dc,hT,hO⟩:=Ii hP t;have fJ:=hH.p;have aZ:=hP.lt;have JP:=fun (ty off t:Nat) (os:List aV) (T:aD) (lo gen:Nat) (Q:AS->Prop)=>wW (A:=A) (T:=T) (H:=cI mm l false K) (lo:=lo) (gen:=gen) (t:=t) (ty:=ty) (l:=mm) (off:=off) (os:=os) (K:=Q) (by rw[bu];omega)
 have v8:decide (K.length+1<K.length)=false:=ag;have hw:=hH.w;have ht:=hH.t;have e1:=Dy fJ g2 ah l ah;have hv:=yF fJ (t:=t) (a:=1) (b:=0) (by have hq:=hF.2.2.2.2;simp[jf,hx,hq]) (l++aL t.name)
 have e2:=dv fJ [[58]] (l++aL t.name) false ag kq;have e3:=wD fJ g3 ah (l++aL t.name++[[58]]) kq;have e4:=dv fJ [[40]] (l++aL t.name++[[58]]++[t.field]) false ag kq;have e5:=RD mm K1 fJ (l++aL t.name++[[58]]++[t.field]++[[40]]) kq;have e6:=dv fJ [[41]] (l++aL t.name++[[58]]++[t.field]++[[40]]++af x) false ag kq;rw[show l++(aL t.name++[[58]]++[t.field]++[[40]]++af x++[[41]])=l++aL t.name++[[58]]++[t.field]++[[40]]++af x++[[41]] by simp only[avj]]
 have ho:=hO (l++aL t.name++[[58]]++[t.field]++[[40]]++af x++[[41]]);rw[ug] at e2 e4 e6;rw[ai] at hv ⊢;refine cW Gu.eq_1 ?_;exact nL6 dc JP hw (j4 ht gn hv e1) (j5 e2 e3 e4 e5 e6) (j5 hT ho v8 @Nat.lt_irrefl @bu) tv
def Ai:∀ (xs:List (List ay)),(∀ x∈xs,0<x.length)->xs.length<=(au xs).length
 | [],_=>ag
 | [a],h=>by have:=h a ag;simp[au];omega
 | a :: b :: r,h=>by
  have ih:=Ai (b :: r) (fun x hx=>h x (by simp at hx ⊢;rcases hx with e|e<;>simp[e]))
  have:=h a ag
  simp only[au,List.length_append,List.length_cons,List.length_nil] at ih ⊢;omega
def Mw{ks:List Tm}(h:∀ i,i<ks.length->0<(tb i).length\/0<(af (ks.getD i qj)).length):ks.length<=(au (uS tb ks ks.length)).length:=by
 have h1:=Ai (uS tb ks ks.length) (fun x hx=>by
  unfold uS at hx;obtain⟨i,hi,rfl⟩:=List.mem_map.1 hx;rcases h i (cY hi) with h|h<;>rw[List.length_append]<;>omega)
 rwa [OA] at h1
def aai{t:Tm}(hk:t.kind=7)(hp:az t=true)(gD:∀ u∈t.kids,mP u)(hP:PW mm K):x6 mm K 112 [.ref mm 0,.agg (aM t)] (af t):=by
 intro l hl;have hu:=iE hp;have dQ:=Vw hk hu;rw[hp] at dQ;have dQ:=dQ.symm;simp only[au6,avf] at dQ;obtain⟨⟨⟨g1,g2⟩,g3⟩,g4⟩:=dQ;have g1n:t.names.length=t.kids.length:=ah;have kL:af t=aL t.name++[[123]]++au (uS (fun j=>[t.names.getD j [],[61]]) t.kids t.kids.length)++[[125]]:=by rw[bJ t,hk,Yz g1n];simp[b7]
 have JY:=Mw (tb:=fun j=>[t.names.getD j [],[61]]) (ks:=t.kids) (fun _ _=>.inl ag)
 rw[kL] at hl ⊢;simp only[List.length_append,List.length_cons,List.length_nil] at hl;have tw:=vO g3;have Fw:∀ s∈t.names,s.length<=1100000:=fun s hs=>by have:=ny (ava.1 g2 s hs);omega
 obtain⟨K1,hH,dc,hT,hO⟩:=Ii hP t;have fJ:=hH.p;have aZ:=hP.lt;have JP:=fun (ty off t:Nat) (os:List aV) (T:aD) (lo gen:Nat) (Q:AS->Prop)=>wW (A:=A) (T:=T) (H:=cI mm l false K) (lo:=lo) (gen:=gen) (t:=t) (ty:=ty) (l:=mm) (off:=off) (os:=os) (K:=Q) (by rw[bu];omega)
 have v8:decide (K.length+1<K.length)=false:=ag;have hw:=hH.w;have ht:=hH.t;have e1:=Dy fJ g3 ah l ah;have hv:=yF fJ (t:=t) (a:=t.kids.length) (b:=t.kids.length) (by unfold jf;simp[g1]) (l++aL t.name)
 have e2:=dv fJ [[123]] (l++aL t.name) false ag kq;rw[ug] at e2
 by_cases yL:t.kids.length=0
 ·have CV:t.kids=[]:=avl.1 yL
  have air:t.names=[]:=avl.1 ah;have e3:∀ Q:ae,aj A 108 [.ref mm 0,.slice [] false,.func (.func 147) [] [.ref K.length 0,.ref (K.length+1) 0]] Q=some (.undef,none):=fun Q=>H8
  have e4:=dv fJ [[125]] (l++aL t.name++[[123]]) false ag kq;rw[ug] at e4;rw[CV,List.length_nil,show au (uS (fun j=>[t.names.getD j [],[61]]) [] 0)=[] from rfl,List.append_nil]
  rw[show l++(aL t.name++[[123]]++[[125]])=l++aL t.name++[[123]]++[[125]] by simp only[avj]]
  have ho:=hO (l++aL t.name++[[123]]++[[125]]);rw[ai] at hv ⊢;rw[CV,air,ts0,mj] at dc ht hv;rw[CV,air,ts0,mj];simp only[List.length_nil,Int.natCast_zero] at hv;refine cW Gu.eq_1 ?_;exact nL6 dc JP hw ht (j5 hv e1 e2 e3 e4) (j5 hT ho v8 @Nat.lt_irrefl @bu) tv
 ·have hb:∀ i,i<t.kids.length->Pd mm K1 147 [.ref K.length 0,.ref (K.length+1) 0] i [t.names.getD i [],[61]]:=fun i hi=>acE hH i ah Fw (by
   rw[List.getD_eq_getElem?_getD,au5 ah];exact ava.1 g2 _ (avx _))
  have e3:=B2 (tb:=fun j=>[t.names.getD j [],[61]]) fJ gD ah ah hb (l++aL t.name++[[123]]) kq
  generalize au (uS (fun j=>[t.names.getD j [],[61]]) t.kids t.kids.length)=ll at e3 hl JY ⊢
  have e4:=dv fJ [[125]] (l++aL t.name++[[123]]++ll) false ag kq;rw[ug] at e4;rw[show l++(aL t.name++[[123]]++ll++[[125]])=l++aL t.name++[[123]]++ll++[[125]] by simp only[avj]]
  have ho:=hO (l++aL t.name++[[123]]++ll++[[125]]);rw[ai] at hv ⊢;refine cW Gu.eq_1 ?_;exact nL6 dc JP hw (j2 ht hv) (j5 @cO e1 e2 e3 e4) (j5 hT ho v8 @Nat.lt_irrefl @bu) tv
def NK:∀ (ks:List Tm) (ns:List ay) (k:Nat) (g:Nat->ay),ns.length=2*ks.length->(∀ j,j<ns.length->g (2*k+j)=ns.getD j []) ->
  (ks.zipIdx k).map (fun p=>[g (2*p.2),g (2*p.2+1),[45,62]]++af p.1)=jA ns (ks.map fun t=>(af t,bE t))
 | [],ns,k,g,h,_=>by
  have:ns=[]:=avl.1 (cY h)
  rw[this];rfl
 | t :: ks,ns,k,g,h,hg=>by
  match ns,h with
  | p :: q :: ns,h =>
   have h0:=hg 0 ag;have h1:=hg 1 ag;rw[avG] at h0;have ih:=NK ks ns (k+1) g (by simp at h ⊢;omega) (fun j hj=>by
    have:=hg (j+2) dq
    rw[show 2*(k+1)+j=2*k+(j+2) by omega,this];rfl)
   simp only[axj,avm,jA,h0,h1,ih];rfl
  | [],h=>simp at h
  | [_],h=>simp at h;omega
def Sa{ks:List Tm}{ns:List ay}(h:ns.length=2*ks.length):uS (fun i=>[ns.getD (2*i) [],ns.getD (2*i+1) [],[45,62]]) ks ks.length=jA ns (ks.map fun t=>(af t,bE t)):=by
 rw[yU _ (Nat.le_refl _),avL];exact NK ks ns 0 (fun i=>ns.getD i []) h (fun j _=>by simp)
def Wv{t:Tm}(hk:t.kind=10)(hp:az t=true)(gD:∀ u∈t.kids,mP u)(hP:PW mm K):x6 mm K 112 [.ref mm 0,.agg (aM t)] (af t):=by
 intro l hl;have hu:=iE hp;have dQ:=Ih hk hu;rw[hp] at dQ;have dQ:=dQ.symm;simp only[au6,avf] at dQ;obtain⟨⟨⟨⟨g0,g1⟩,g2⟩,g3⟩,g4⟩:=dQ;obtain⟨x,rest,hxr⟩:∃ x rest,t.kids=x :: rest:=by
  cases h:t.kids with
  | nil=>rw[h] at g0;simp at g0
  | cons a r=>exact⟨a,r,rfl⟩
 have Bv:rest.length+1=t.kids.length:=by rw[hxr];rfl
 have uQ:t.names.length=2*rest.length:=ah;have kL:af t=[[109,97,116,99,104]]++aL t.name++[[40]]++af x++[[41],[123]]++au (uS (fun i=>[t.names.getD (2*i) [],t.names.getD (2*i+1) [],[45,62]]) rest rest.length)++[[125]]:=by
  rw[bJ t,hk,hxr,Sa uQ]
  show [[109,97,116,99,104]]++aL t.name++[[40]]++af x++[[41]]++[[123]]++au (jA t.names (rest.map fun t=>(af t,bE t)))++[[125]]=_
  simp
 have JY:=Mw (tb:=fun i=>[t.names.getD (2*i) [],t.names.getD (2*i+1) [],[45,62]]) (ks:=rest) (fun _ _=>.inl ag)
 rw[kL] at hl ⊢;simp only[List.length_append,List.length_cons,List.length_nil] at hl;have tw:=vO g3;have Fw:∀ s∈t.names,s.length<=1100000:=fun s hs=>by have:=ny (ava.1 g2 s hs);omega
 have RD:=(gD x (by rw[hxr];simp)).2
 have hkr:∀ u∈rest,mP u:=fun u h=>gD u (by rw[hxr];simp[h])
 have gn:(aC t.kids)[0]?=some (aM x):=by rw[hxr];simp[aC]
 have hdr:(aC t.kids).drop 1=aC rest:=by rw[hxr];simp[aC]
 have nA:(aC t.kids).take t.kids.length=aC t.kids:=List.take_of_length_le (by rw[cO];omega)
 rw[ai x] at gn RD;obtain⟨K1,hH,dc,hT,hO⟩:=Ii hP t;have fJ:=hH.p;have aZ:=hP.lt;have JP:=fun (ty off t:Nat) (os:List aV) (T:aD) (lo gen:Nat) (Q:AS->Prop)=>wW (A:=A) (T:=T) (H:=cI mm l false K) (lo:=lo) (gen:=gen) (t:=t) (ty:=ty) (l:=mm) (off:=off) (os:=os) (K:=Q) (by rw[bu];omega)
 have v8:decide (K.length+1<K.length)=false:=ag;have hw:=hH.w;have ht:=hH.t;have hc:=fV fJ true l false;simp only[av8,Bool.or_self] at hc;have hv:=yF fJ (t:=t) (a:=(t.kids.length:Int)-1+1) (b:=2*((t.kids.length:Int)-1)) (by unfold jf;rw[decide_eq_true (show (t.kids.length:Int)=(t.kids.length:Int)-1+1 by omega),decide_eq_true g1];rfl) l
 have e1:=dv fJ [[109,97,116,99,104]] l false ag kq;have e2:=Dy fJ g3 ah (l++[[109,97,116,99,104]]) kq;have e3:=dv fJ [[40]] (l++[[109,97,116,99,104]]++aL t.name) false ag kq;have e4:=RD mm K1 fJ (l++[[109,97,116,99,104]]++aL t.name++[[40]]) kq;have e5:=dv fJ [[41],[123]] (l++[[109,97,116,99,104]]++aL t.name++[[40]]++af x) false ag kq;have hb:∀ i,i<rest.length->Pd mm K1 146 [.ref K.length 0,.ref (K.length+1) 0] i [t.names.getD (2*i) [],t.names.getD (2*i+1) [],[45,62]]:=fun i hi=>acC hH i ah ah Fw g2
 have e6:=B2 (tb:=fun i=>[t.names.getD (2*i) [],t.names.getD (2*i+1) [],[45,62]]) fJ hkr ah ah hb (l++[[109,97,116,99,104]]++aL t.name++[[40]]++af x++[[41],[123]]) kq
 generalize au (uS (fun i=>[t.names.getD (2*i) [],t.names.getD (2*i+1) [],[45,62]]) rest rest.length)=ll at e6 hl JY ⊢
 have e7:=dv fJ [[125]] (l++[[109,97,116,99,104]]++aL t.name++[[40]]++af x++[[41],[123]]++ll) false ag kq;have es2:strs [[41],[123]]=[[.str [41]],[.str [123]]]:=rfl;rw[ug] at e1 e3 e7;rw[es2] at e5;rw[show l++([[109,97,116,99,104]]++aL t.name++[[40]]++af x++[[41],[123]]++ll++[[125]])=l++[[109,97,116,99,104]]++aL t.name++[[40]]++af x++[[41],[123]]++ll++[[125]] by simp only[avj]]
 have ho:=hO (l++[[109,97,116,99,104]]++aL t.name++[[40]]++af x++[[41],[123]]++ll++[[125]]);rw[ai] at hv ⊢;refine cW Gu.eq_1 ?_;exact nL6 dc (j2 JP hw) (j5 ht @cO @aah nA hdr) (j5 gn hc hv e1 e2) (j5 e3 e4 e5 e6 e7) (j5 hT ho v8 @Nat.lt_irrefl @bu) tv
end Go.Proofs.YtbadnagdfefbnaaGreatDoor
end
