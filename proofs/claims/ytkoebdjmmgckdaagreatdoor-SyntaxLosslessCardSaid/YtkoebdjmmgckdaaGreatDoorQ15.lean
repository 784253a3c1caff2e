/-
  A part of the proof of SyntaxLossless: Y2, UR46, UR47, V12, UW6, V7, V13, V14, V16, Y3, Y4, V17, V18, V9, Y8.
-/
import Derived.KernelRfl
import Derived.Test.YtkoebdjmmgckdaaGreatDoorQ14
set_option linter.unusedSimpArgs false
set_option linter.unusedVariables false
set_option linter.defProp false
set_option maxHeartbeats 4000000
set_option maxRecDepth 100000
noncomputable section
namespace Go.Proofs.YtkoebdjmmgckdaaGreatDoor
open Go Go.Abs Go.Proofs
variable {f:FuncId}{ks:List Tm}{r:List Tm × PS}{b l y:List av}{m off:Nat}{s:PS}{β:Type}{H:aa}{nm u w:av}
def H2(s:av):Prop:=s.length<=17
def tY:List av:=[[102],[120,49],[99,97,115,101],[80,111,105,110,116],[97,86,101,114,121,76,111,110,103,78,97,109,101,49,50,51],[105,102],[90,57],[110,111,116]]
def vw:List av:=[[40],[41],[123],[125],[91],[93],[44],[58],[46],[61],[61,61],[45,62],[43],[45],[42],[47],[37],[60]]
def D7:List av:=[[48],[55],[52,50],[49,50,51,52,53,54,55,56,57,48,49,50,51,52,53,54]]
def Jp:∀ s,s∈tY\/s∈vw\/s∈D7->H2 s:=by
 have h:(tY++vw++D7).all (fun s=>decide (s.length<=17))=true:=aB
 intro s hs;have hm:s∈tY++vw++D7:=by
  rcases hs with h|h|h
  ·exact aw9.2 (.inl (aw9.2 (.inl h)))
  ·exact aw9.2 (.inl (aw9.2 (.inr h)))
  ·exact aw9.2 (.inr h)
 have:=aw8.1 h s hm
 show s.length<=17
 simpa using this
def aaL(n:Int)(H:aa)(hn:CU n):∃ s,H2 s/\ai A 13 [.int .i64 n] H=some (.str s,none):=by
 obtain⟨r1,r2⟩:=lD (n:=n) (k:=1000000) af;have ha:=rF n 1000000 H hn af;generalize mq n 1000000=k at r1 r2 ha;have key:∃ r,ai A 13 [.int .i64 n] H=some r/\∃ s,H2 s/\r=(.str s,none):=by
  refine uL (fn:=af3) rfl rfl rfl ?_;unfold af3;have hm5:k.tmod 5=k % 5:=axU r1;have hd5:k.tdiv 5=k / 5:=ay5 r1;obtain⟨a,ha8,ea⟩:∃ a:Nat,a<8/\(k / 5).tmod 8=a:=⟨((k / 5).tmod 8).toNat,by rw[axU af];omega,by rw[axU af];omega⟩
  obtain⟨b,ae5,eb⟩:∃ a:Nat,a<18/\(k / 5).tmod 18=a:=⟨((k / 5).tmod 18).toNat,by rw[axU af];omega,by rw[axU af];omega⟩
  obtain⟨c,wE,ec⟩:∃ a:Nat,a<4/\(k / 5).tmod 4=a:=⟨((k / 5).tmod 4).toNat,by rw[axU af];omega,by rw[axU af];omega⟩
  have wa:=gY (aw3 (show a<tY.length from ha8))
  have wb:=gY (aw3 (show b<vw.length from ae5))
  have wc:=gY (aw3 (show c<D7.length from wE))
  have sa:=Jp _ (.inl (axn (show a<tY.length from ha8)))
  have sb:=Jp _ (.inr (.inl (axn (show b<vw.length from ae5))))
  have sc:=Jp _ (.inr (.inr (axn (show c<D7.length from wE))))
  generalize tY[a]'ha8=xa at wa sa;generalize vw[b]'ae5=xb at wb sb;generalize D7[c]'wE=xc at wc sc;have pw:([[.str [102]],[.str [120,49]],[.str [99,97,115,101]],[.str [80,111,105,110,116]],[.str [97,86,101,114,121,76,111,110,103,78,97,109,101,49,50,51]],[.str [105,102]],[.str [90,57]],[.str [110,111,116]]]:List (List AV))=strs tY:=rfl;have apN:k % 5=0\/k % 5=1\/k % 5=2\/k % 5=3\/k % 5=4:=af;have w8:((strs tY).length:Int)=8:=rfl;have w18:((strs vw).length:Int)=18:=rfl;have P1:cC 1 [[AV.str []],[AV.str []],[AV.str []],[AV.str []],[AV.str []],[AV.str []],[AV.str []],[AV.str []]] [(0,AV.str [102]),(1,AV.str [120,49]),(2,AV.str [99,97,115,101]),(3,AV.str [80,111,105,110,116]),(4,AV.str [97,86,101,114,121,76,111,110,103,78,97,109,101,49,50,51]),(5,AV.str [105,102]),(6,AV.str [90,57]),(7,AV.str [110,111,116])]=some (strs tY):=rfl;have P2:cC 1 [[AV.str []],[AV.str []],[AV.str []],[AV.str []],[AV.str []],[AV.str []],[AV.str []],[AV.str []],[AV.str []],[AV.str []],[AV.str []],[AV.str []],[AV.str []],[AV.str []],[AV.str []],[AV.str []],[AV.str []],[AV.str []]] [(0,AV.str [40]),(1,AV.str [41]),(2,AV.str [123]),(3,AV.str [125]),(4,AV.str [91]),(5,AV.str [93]),(6,AV.str [44]),(7,AV.str [58]),(8,AV.str [46]),(9,AV.str [61]),(10,AV.str [61,61]),(11,AV.str [45,62]),(12,AV.str [43]),(13,AV.str [45]),(14,AV.str [42]),(15,AV.str [47]),(16,AV.str [37]),(17,AV.str [60])]=some (strs vw):=rfl;have P3:cC 1 [[AV.str []],[AV.str []],[AV.str []],[AV.str []]] [(0,AV.str [48]),(1,AV.str [55]),(2,AV.str [52,50]),(3,AV.str [49,50,51,52,53,54,55,56,57,48,49,50,51,52,53,54])]=some (strs D7):=rfl
  rcases apN with h|h|h|h|h
  all_goals
   simp(disch:=omega)only[dJ,ab,simprocAttr,ha,hm5,hd5,h,P1,P2,P3,w8,w18,ea,eb,ec,wa,wb,wc]
  ·exact⟨xa,sa,rfl⟩
  ·exact⟨xa,sa,rfl⟩
  ·exact⟨xc,sc,rfl⟩
  ·exact⟨xb,sb,rfl⟩
  ·exact⟨xb,sb,rfl⟩
 obtain⟨r,h1,s,h2,rfl⟩:=key;exact⟨s,h2,h1⟩
def Wc:∀ {l:List Nat} {n:Nat},n∈l->n<=l.sum
 | a :: l,n,h=>by
  rw[ayK]
  rcases axs.1 h with rfl|h
  ·omega
  ·have:=Wc h;omega
def Qr{s:av}(h:(bO s).2.2=-1):∀ t∈(bO s).1,t.text.length<=8192/\t.before.length<=8192:=by
 obtain⟨h1,h2,_⟩:=A3 h;intro t ht;have h3:=ayj List.length h2;have h4:(t.before++t.text).length<=((bO s).1.map fun t=>t.before++t.text).flatten.length:=by
  rw[List.length_flatten];exact Wc (ay6 (ay6 ht))
 rw[List.length_append] at h3 h4;omega
def Q6(s:av)(a h b:Int)(H:aa)(hs:s.length<=4611686018427387904)(ha:CU a)(hh:CU h)(hb:CU b) :
  ∃ r,ai A 4 [.str s,.int .i64 a,.int .i64 h,.int .i64 b] H=some r/\∃ t:av,t.length<=s.length+300000000/\r=(.str t,none):=by
 have Vw:=abw s H hs;refine uL (fn:=ir4) rfl rfl rfl ?_;unfold ir4
 by_cases mC:(bO s).2.2=-1
 ·obtain⟨-, -,akp,nN, -⟩:=zM mC
  have qO:=Qr mC;rw[iv,List.length_map] at akp;rw[mC] at Vw;generalize (bO s).2.1=fin at *;generalize (bO s).1=l at *
  by_cases hl:l=[]
  ·subst hl
   have h0:(((fA []).length:Int)==0)=true:=rfl;refine qx Vw h0 ?_;exact⟨s,af,rfl⟩
  have hl0:0<l.length:=ayn.2 hl;have hlen:(fA l).length=l.length:=zT;have da:((l.length:Int)==0)=false:=df;obtain⟨r1,r2⟩:=lD (n:=a) (k:=l.length) af;obtain⟨r3,r4⟩:=lD (n:=b) (k:=l.length) af;obtain⟨r5,r6⟩:=lD (n:=h) (k:=9) af;have h1:=rF a l.length H ha af;have h2:=rF b l.length H hb af;have h3:=rF h 9 H hh af;obtain⟨p,hp,h4⟩:=aaL b H hb;obtain⟨i,hi⟩:∃ i:Nat,mq a l.length=i:=⟨(mq a l.length).toNat,af⟩;obtain⟨j,hj⟩:∃ i:Nat,mq b l.length=i:=⟨(mq b l.length).toNat,af⟩;obtain⟨k,hk⟩:∃ i:Nat,mq h 9=i:=⟨(mq h 9).toNat,af⟩;rw[hi] at h1 r1 r2;rw[hj] at h2 r3 r4;rw[hk] at h3 r5 r6;have gi:=Jw (aw3 (show i<l.length by omega))
  have gj:=Jw (aw3 (show j<l.length by omega))
  have bi:=qO _ (axn (show i<l.length by omega))
  have bj:=qO _ (axn (show j<l.length by omega))
  generalize l[i]'af=x at gi bi;generalize l[j]'af=y at gj bj;obtain⟨X,hX⟩:∃ X:List av,X=[[],x.text++[32]++x.text,p,y.text,[40]++x.text++[41],[40]++x.text,x.text++[41],[48,48,55],[45,48]]:=⟨_,rfl⟩;have hXk:∃ u:av,(strs X)[k]?=some [.str u]/\u.length<=20000:=by
   have hX9:X.length=9:=by rw[hX];rfl
   refine⟨X[k]'af,gY (aw3 _),?_⟩;have hm:=axn (show k<X.length by omega)
   have oU:p.length<=17:=hp;generalize X[k]'af=u at hm;rw[hX] at hm;simp only[axs,axR,ays] at hm
   rcases hm with rfl|rfl|rfl|rfl|rfl|rfl|rfl|rfl|rfl<;>simp<;>omega
  obtain⟨u,hu,PN⟩:=hXk;have aqm:[[AV.str []],[AV.str (x.text++[32]++x.text)],[AV.str p],[AV.str y.text],[AV.str (40 :: (x.text++[41]))],[AV.str (40 :: x.text)],[AV.str (x.text++[41])],[AV.str [48,48,55]],[AV.str [45,48]]]=strs X:=by rw[hX];rfl
  simp(disch:=omega)only[dJ,ab,simprocAttr,Vw,da,hlen,h1,h2,h4,gi,gj,Dj,aqm,List.length_append,ah];refine bK l.length 0 (fun q st=>∃ T acc g,st=⟨T,H,H.length,g⟩/\T 9=.slice (fA l) false/\T 10=.str fin/\T 12=.int .i64 i/\T 2=.int .i64 h/\T 15=.slice (strs X) true/\T 16=.str acc/\T 17=.int .i64 q/\acc.length<=q*30000)
   (fun st=>∃ T acc g,st=⟨T,H,H.length,g⟩/\T 16=.str acc/\T 10=.str fin/\acc.length<=8192*30000) (fun _=>False) ?_ ?_ (fun _ h=>h.elim) 0 _ af ?_
  ·rintro q st hq ⟨T,acc,g,rfl,e9,zY,e12,e2,Yb,S2,e17,yV⟩
   by_cases aP:q<l.length
   ·have gq:=Jw (aw3 aP)
    have bq:=qO _ (axn aP);generalize l[q]=z at gq bq;have hm:(q+1)*30000=q*30000+30000:=af;have Mv:q*30000<=8192*30000:=axg _ af
    by_cases hqi:q=i
    ·have hx:(((q:Nat):Int)==((i:Nat):Int))=true:=by simp[hqi]
     simp(disch:=omega)only[dJ,ab,simprocAttr,e9,e12,e2,Yb,S2,e17,hlen,gq,Dj,hx,h3,hu,List.length_append,ah];refine⟨aP,_,_,_,rfl,?_,?_,?_,?_,?_,rfl,?_,?_⟩
     all_goals first|exact Ac e9 zY e12 e2 Yb tv|skip
     ·rw[List.length_append,List.length_append];omega
    ·have hx:(((q:Nat):Int)==((i:Nat):Int))=false:=df
     simp(disch:=omega)only[dJ,ab,simprocAttr,e9,e12,S2,e17,hlen,gq,Dj,hx,List.length_append,ah];refine⟨aP,_,_,_,rfl,?_,?_,?_,?_,?_,rfl,?_,?_⟩
     all_goals first|exact Ac e9 zY e12 e2 Yb tv|skip
     ·rw[List.length_append,List.length_append];omega
   ·have:q=l.length:=af
    subst this;refine ry e9 e17 hlen ?_;exact⟨_,_,_,rfl,cV S2,cV zY,axx yV (axg _ akp)⟩
  ·rintro st ⟨T,acc,g,rfl,S2,zY,yV⟩
   refine qx S2 zY ?_;exact⟨acc++fin,by rw[List.length_append];omega,rfl⟩
  ·exact⟨_,[],_,rfl,dS,dS,dS,dS,dS,dS,dS,ae⟩
 ·have da:((bO s).2.2 != -1)=true:=cJ mC
  refine qx Vw da ?_;exact⟨s,af,rfl⟩
section
def fS{α:Type}{b:Bool}{x y x' y':Option α}{r:α}(h1:b=true->x=some r->x'=some r)(h2:b=false->y=some r->y'=some r)(h:(bif b then x else y)=some r):(bif b then x' else y')=some r:=by
 cases b with
 | true=>exact h1 rfl h
 | false=>exact h2 rfl h
def tQ{α:Type}{x x':Option α}{f f':α->Option β}{r:β}(hf:∀ a,x=some a->f a=some r->x'=some a/\f' a=some r)(h:x.bind f=some r):x'.bind f'=some r:=by
 rw[aw1] at h;obtain⟨a,h1,h2⟩:=h;obtain⟨h3,h4⟩:=hf a h1 h2;rw[h3];exact h4
def nZ{α:Type}{x x':Option α}{f f':α->β}{r:β}(hf:∀ a,x=some a->f a=r->x'=some a/\f' a=r)(h:x.map f=some r):x'.map f'=some r:=by
 rw[aw0] at h;obtain⟨a,h1,h2⟩:=h;obtain⟨h3,h4⟩:=hf a h1 h2;rw[h3,axa,h4]
section
variable {tk tT:List Tk}{k:Nat}
def Te(tk tT:List Tk)(k:Nat):Prop:=∀ j,j<=k->(aq tT).getD j []=(aq tk).getD j []
def X9(k:Nat)(E E' : EP):Prop:=∀ s r,E s=some r->r.2.i<=k->E' s=some r
def zr{E E':EP}(hE:X9 k E E')(h:qB E ks s=some r)(hr:r.2.i<=k):qB E' ks s=some r:=by
 unfold qB at h ⊢;revert h;refine nZ fun a ha e=>?_
 subst e;exact⟨hE _ _ ha hr,rfl⟩
variable (hA:Te tk tT k)
include hA
def oY(h:s.i<=k):pk (aq tT) s=pk (aq tk) s:=by unfold pk;rw[hA _ h]
def gA(hw:w≠[])(h:(aN (aq tk) w s).i<=k):aN (aq tT) w s=aN (aq tk) w s:=by
 have:=(bH (tk:=tk) (s:=s) hw).i
 unfold aN;rw[oY hA af]
def kB(h:(aE (aq tk) s).2.i<=k):aE (aq tT) s=aE (aq tk) s:=by
 have:=(dv (tk:=tk) (s:=s)).i
 unfold aE;rw[oY hA af]
def Oe{l:Int}(hl:0<=l)(h:(iE (aq tk) l s).2.i<=k):iE (aq tT) l s=iE (aq tk) l s:=by
 have:=(AO (tk:=tk) (s:=s) hl).i
 unfold iE;rw[oY hA af]
def Fk(h:(aJ (aq tk) s).2.i<=k):aJ (aq tT) s=aJ (aq tk) s:=by
 have h1:(aE (aq tk) s).2.i<=(aJ (aq tk) s).2.i:=by
  unfold aJ;cases e:(!(aE (aq tk) s).2.bad&&(pk (aq tk) (aE (aq tk) s).2==[46])) with
  | true=>have:=(dv (tk:=tk) (s:=(aE (aq tk) s).2.up)).i;exact axx (Nat.le_succ _) this
  | false=>exact Nat.le_refl _
 have h2:=axx h1 h;unfold aJ at h ⊢;rw[kB hA (s:=s) h2,oY hA (s:=(aE (aq tk) s).2) h2];cases e:(!(aE (aq tk) s).2.bad&&(pk (aq tk) (aE (aq tk) s).2==[46])) with
 | true=>rw[e,cond_true] at h;rw[cond_true,cond_true,kB hA h]
 | false=>rfl
def UP(h:(nu (aq tk) s).2.i<=k):nu (aq tT) s=nu (aq tk) s:=by
 have h1:(aN (aq tk) [44] (aE (aq tk) s).2).i<=(nu (aq tk) s).2.i:=by
  unfold nu;cases e:(aN (aq tk) [44] (aE (aq tk) s).2).bad with
  | true=>exact Nat.le_refl _
  | false=>exact (dv (tk:=tk)).i
 have h2:=(bH (tk:=tk) (s:=(aE (aq tk) s).2) (w:=[44]) ae).i;have h3:=axx h1 h;unfold nu at h ⊢;rw[kB hA (s:=s) af,gA hA ae (s:=(aE (aq tk) s).2) h3];cases e:(aN (aq tk) [44] (aE (aq tk) s).2).bad with
 | true=>rfl
 | false=>rw[e,cond_false] at h;rw[cond_false,cond_false,kB hA h]
def zX:∀ (n:Nat) (s:PS) (r:Wd × PS),mi (aq tk) n s=some r->r.2.i<=k->mi (aq tT) n s=some r
 | 0,_,_,h,_=>by cases h
 | n+1,s,r,h,hr=>by
  have hs:=(iY _ _ _ h).i;unfold mi at h ⊢;rw[oY hA af];revert h;refine fS (fun _ h=>h) fun _=>fS (fun _ h=>h) fun _=>fS (fun _=>nZ fun a ha e=>?_) fun _ h=>?_
  ·subst e
   have h1:=(bH (tk:=tk) (s:=a.2) (w:=[41]) ae).i;have h2:=(iY _ _ _ ha).i;have hr:(aN (aq tk) [41] a.2).i<=k:=hr;rw[gA hA ae hr,gA hA ae af];exact⟨zX n _ _ ha af,rfl⟩
  ·rw[aw2] at h
   subst h;rw[Fk hA hr]
def M9{n:Nat}{r:Wd × PS}(h:gS (aq tk) n s=some r)(hr:r.2.i<=k):gS (aq tT) n s=some r:=by
 unfold gS at h ⊢;revert h;refine nZ fun a ha e=>?_
 subst e;have h1:=(bH (tk:=tk) (s:=a.2) (w:=[41]) ae).i;have h2:=(iY _ _ _ ha).i;have hr:(aN (aq tk) [41] a.2).i<=k:=hr;rw[gA hA ae hr,gA hA ae af];exact⟨zX hA n _ _ ha af,rfl⟩
section
variable {α:Type}{elem Um:α->PS->Option (α × PS)}{fin:av}(hf:fin≠[])(hq:∀ a s r,elem a s=some r->Lq tk s r.2)(he:∀ a s r,elem a s=some r->r.2.i<=k->Um a s=some r)
include hf hq he
def Ln:∀ (m:Nat) (a:α) (s:PS) (r:α × PS),oB (aq tk) elem fin m a s=some r->r.2.i<=k->oB (aq tT) Um fin m a s=some r
 | 0,_,_,_,h,_=>by cases h
 | m+1,a,s,r,h,hr=>by
  unfold oB at h ⊢;revert h;refine tQ fun q hq1 h=>?_
  have hi:q.2.i<=r.2.i:=by
   cases hc:(!q.2.bad&&(pk (aq tk) q.2==[44])) with
   | true =>
    rw[hc,cond_true] at h;have:=(D1 hf hq _ _ _ _ h).i
    exact axx (Nat.le_succ _) this
   | false =>
    rw[hc,cond_false,aw2] at h;subst h;cases hb:q.2.bad with
    | true=>exact Nat.le_refl _
    | false=>exact (bH (tk:=tk) (s:=q.2) hf).i
  refine⟨he _ _ _ hq1 af,?_⟩;rw[oY hA af];revert h;refine fS (fun _ h=>Ln m _ _ _ h hr) fun _ h=>?_
  rw[aw2] at h;subst h;cases hb:q.2.bad with
  | true=>rfl
  | false =>
   rw[hb,cond_false] at hr;rw[cond_false,cond_false,gA hA hf hr]
def CE{a:α}{r:α × PS}(h:nP (aq tk) elem fin m a s=some r)(hr:r.2.i<=k):nP (aq tT) Um fin m a s=some r:=by
 have hs:=(nz hf hq h).i;unfold nP at h ⊢;rw[oY hA af];revert h;exact fS (fun _ h=>h) fun _ h=>Ln hA hf hq he _ _ _ _ h hr
end
section
variable {E E' B B' : EP}(gE:gR tk E)(hE:X9 k E E')
include gE hE
def tF(hw:w≠[])(h:mY (aq tk) E w ks s=some r)(hr:r.2.i<=k):mY (aq tT) E' w ks s=some r:=by
 unfold mY at h ⊢;have hi:(aN (aq tk) w s).i<=r.2.i:=by
  cases hb:(aN (aq tk) w s).bad with
  | true=>rw[hb,cond_true,aw2] at h;subst h;exact Nat.le_refl _
  | false=>rw[hb,cond_false] at h;exact (iH gE h).i
 rw[gA hA hw af];revert h;exact fS (fun _ h=>h) fun _ h=>zr hE h hr
def aae{a:List av × List Tm}{r:(List av × List Tm) × PS}(h:wH (aq tk) E a s=some r)(hr:r.2.i<=k):wH (aq tT) E' a s=some r:=by
 unfold wH at h ⊢;revert h;refine nZ fun q hq e=>?_
 subst e;have hr:q.2.i<=k:=hr;have h1:=(iH gE hq).i;have h2:=(bH (tk:=tk) (s:=(aE (aq tk) s).2) (w:=[61]) ae).i;rw[kB hA (s:=s) af,gA hA ae (s:=(aE (aq tk) s).2) af];exact⟨zr hE hq hr,rfl⟩
def Zf(hB:X9 k B B')(gB:gR tk B):X9 k (ow (aq tk) E B) (ow (aq tT) E' B'):=by
 intro s r h hr;have hs:=(P8 gE gB s r h).i;unfold ow at h ⊢;rw[oY hA af];revert h;refine fS (fun _=>tQ fun a ha=>?_) fun _=>fS (fun _=>?_) fun _=>fS (fun _=>?_) fun _ h=>hB _ _ h hr
 ·intro h
  have ia:a.2.i<=r.2.i:=by
   rw[aw1] at h;obtain⟨b,hb,h⟩:=h;rw[aw0] at h;obtain⟨c,hc,rfl⟩:=h;exact ((ga gE aB hb).tr (ga gE aB hc)).i
  refine⟨zr hE ha af,?_⟩;revert h;refine tQ fun b hb h=>?_
  have ib:b.2.i<=r.2.i:=by
   rw[aw0] at h;obtain⟨c,hc,rfl⟩:=h;exact (ga gE aB hc).i
  refine⟨tF hA gE hE aB hb af,?_⟩;revert h;refine nZ fun c hc e=>?_
  subst e;exact⟨tF hA gE hE aB hc hr,rfl⟩
 ·intro h
  have h0:=h;rw[aw1] at h0;obtain⟨a,ha,h0⟩:=h0;rw[aw0] at h0;obtain⟨c,hc,rfl⟩:=h0;have hr:c.2.i<=k:=hr;have i1:=(ga gE aB hc).i;have i2:=(ga gE ae ha).i;rw[kB hA (s:=s.up) af];revert h;refine tQ fun a2 ha2 h=>?_
  rw[ha] at ha2;cases ha2;refine⟨tF hA gE hE ae ha af,?_⟩;revert h;refine nZ fun c2 gC e=>?_
  rw[hc] at gC;cases gC;exact⟨tF hA gE hE aB hc hr,rfl⟩
 ·intro h
  have h0:=h;simp only[aw1] at h0;obtain⟨a,ha,b,hb,h0⟩:=h0;rw[aw0] at h0;obtain⟨c,hc,rfl⟩:=h0;have hr:c.2.i<=k:=hr;have i1:=(ga gE aB hc).i;have i2:=(ga gE aB hb).i;have i3:=(ga gE ae ha).i;rw[UP hA (s:=s.up) af,tF hA gE hE ae ha af,aw7,tF hA gE hE aB hb af,aw7,tF hA gE hE aB hc hr];rfl
def Hj:∀ (m:Nat) (a:List av × List Tm) (s:PS) (r:(List av × List Tm) × PS),lR (aq tk) E m a s=some r->r.2.i<=k->lR (aq tT) E' m a s=some r
 | 0,_,_,_,h,_=>by cases h
 | m+1,a,s,r,h,hr=>by
  unfold lR at h ⊢;have h0:=h;rw[aw1] at h0;obtain⟨q,hq,h0⟩:=h0;have hi:q.2.i<=r.2.i:=by
   simp only at h0;cases hc:(!q.2.bad&&(pk (aq tk) q.2==[44])) with
   | true =>
    rw[hc,cond_true] at h0;have:=(rY gE _ _ _ _ h0).i
    exact axx (Nat.le_succ _) this
   | false =>
    rw[hc,cond_false,aw2] at h0;subst h0;exact Nat.le_refl _
  have i1:=(gE _ _ hq).i;have i2:=(bH (tk:=tk) (s:=(aE (aq tk) (aE (aq tk) s).2).2) (w:=[45,62]) ae).i;have i3:=(dv (tk:=tk) (s:=(aE (aq tk) s).2)).i;rw[kB hA (s:=s) af,kB hA (s:=(aE (aq tk) s).2) af,gA hA ae (s:=(aE (aq tk) (aE (aq tk) s).2).2) af,hE _ _ hq af,aw7];simp only at h0 ⊢;rw[oY hA af];revert h0;exact fS (fun _ h=>Hj m _ _ _ h hr) fun _ h=>h
def Wk{n:Nat} : X9 k (mG (aq tk) n E) (mG (aq tT) n E'):=by
 intro s r h hr;unfold mG at h ⊢;rw[aw1] at h;obtain⟨q,hq,h⟩:=h;rw[aw0] at h;obtain⟨m,hm,rfl⟩:=h;have hr:(aN (aq tk) [125] m.2).i<=k:=hr;have i1:=(bH (tk:=tk) (s:=m.2) (w:=[125]) ae).i;have i2:=(rY gE _ _ _ _ hm).i;have i3:=(bH (tk:=tk) (s:=aN (aq tk) [41] q.2) (w:=[123]) ae).i;have i4:=(bH (tk:=tk) (s:=q.2) (w:=[41]) ae).i;have i5:=(gE _ _ hq).i;have i6:=(bH (tk:=tk) (s:=(aJ (aq tk) s).2) (w:=[40]) ae).i;rw[Fk hA (s:=s) af,gA hA ae (s:=(aJ (aq tk) s).2) af,hE _ _ hq af,aw7,gA hA ae (s:=q.2) af,gA hA ae (s:=aN (aq tk) [41] q.2) af,Hj hA gE hE _ _ _ _ hm af,axa,gA hA ae hr]
def Sk : X9 k (oP (aq tk) E nm) (oP (aq tT) E' nm):=by
 intro s r h hr;have hs:(aE (aq tk) s).2.i<=r.2.i:=by
  unfold oP at h;cases hc:(pk (aq tk) (aE (aq tk) s).2==[91]) with
  | true =>
   rw[hc,cond_true,aw0] at h;obtain⟨q,hq,rfl⟩:=h;exact axx (Nat.le_succ _) ((gE _ _ hq).tr (bH ae)).i
  | false =>
   rw[hc,cond_false,aw0] at h;obtain⟨q,hq,rfl⟩:=h;exact ((bH ae).tr ((gE _ _ hq).tr (bH ae))).i
 unfold oP at h ⊢;rw[kB hA (s:=s) af,oY hA (s:=(aE (aq tk) s).2) af];revert h;refine fS (fun _=>nZ fun q hq e=>?_) fun _=>nZ fun q hq e=>?_
 ·subst e
  have hr:(aN (aq tk) [93] q.2).i<=k:=hr;have i1:=(bH (tk:=tk) (s:=q.2) (w:=[93]) ae).i;rw[gA hA ae hr];exact⟨hE _ _ hq af,rfl⟩
 ·subst e
  have hr:(aN (aq tk) [41] q.2).i<=k:=hr;have i1:=(bH (tk:=tk) (s:=q.2) (w:=[41]) ae).i;have i2:=(gE _ _ hq).i;rw[gA hA ae hr,gA hA ae (s:=(aE (aq tk) s).2) af];exact⟨hE _ _ hq af,rfl⟩
def Wx{n:Nat} : X9 k (kW (aq tk) n E) (kW (aq tT) n E'):=by
 intro s r h hr;have hs:(aJ (aq tk) s).2.i<=r.2.i:=by
  unfold kW at h;simp only at h;cases h1:(pk (aq tk) (aJ (aq tk) s).2==[40]) with
  | true =>
   rw[h1,cond_true,aw0] at h;obtain⟨q,hq,rfl⟩:=h;exact axx (Nat.le_succ _) (nz (tk:=tk) ae (fun a s r h=>iH gE h) hq).i
  | false =>
  rw[h1,cond_false] at h;cases h2:(pk (aq tk) (aJ (aq tk) s).2==[123]) with
  | true =>
   rw[h2,cond_true,aw0] at h;obtain⟨q,hq,rfl⟩:=h;exact axx (Nat.le_succ _) (nz (tk:=tk) ae (fun a s r h=>vR gE h) hq).i
  | false =>
  rw[h2,cond_false] at h;cases h3:(pk (aq tk) (aJ (aq tk) s).2==[58]) with
  | true =>
   rw[h3,cond_true] at h;exact axx (Nat.le_succ _) (Hh gE _ _ h).i
  | false =>
  rw[h3,cond_false] at h;cases h4:decide (0<=cw 46 0 (aJ (aq tk) s).1) with
  | true=>rw[h4,cond_true,aw2] at h;subst h;exact Nat.le_refl _
  | false=>rw[h4,cond_false,aw2] at h;subst h;exact Nat.le_refl _
 unfold kW at h ⊢;simp only at h ⊢;rw[Fk hA (s:=s) af,oY hA (s:=(aJ (aq tk) s).2) af];revert h;refine fS (fun _=>nZ fun q hq e=>?_) fun _=>fS (fun _=>nZ fun q hq e=>?_) fun _=>fS (fun _ h=>Sk hA gE hE _ _ h hr) fun _ h=>h
 ·subst e
  exact⟨CE hA ae (fun a s r h=>iH gE h) (fun a s r h=>zr hE h) hq hr,rfl⟩
 ·subst e
  exact⟨CE hA ae (fun a s r h=>vR gE h) (fun a s r h=>aae hA gE hE h) hq hr,rfl⟩
def YH{n:Nat} : X9 k (lN (aq tk) n E) (lN (aq tT) n E'):=by
 intro s r h hr;have hs:=(P7 gE _ _ h).i;unfold lN at h ⊢;rw[oY hA af];revert h;refine fS (fun _ h=>?_) fun _=>fS (fun _ h=>?_) fun _=>fS (fun _ h=>h) fun _=>fS (fun _ h=>h) fun _=>fS (fun _=>nZ fun q hq e=>?_) fun _=>fS (fun _ h=>?_) fun _=>fS (fun _ h=>Wk hA gE hE _ _ h hr) fun _ h=>Wx hA gE hE _ _ h hr
 ·rw[aw2] at h;subst h;rw[Oe hA af hr]
 ·rw[aw2] at h;subst h;rw[Oe hA (show (0:Int)<=1 by decide) hr]
 ·subst e
  have hr:(aN (aq tk) [41] q.2).i<=k:=hr;have i1:=(bH (tk:=tk) (s:=q.2) (w:=[41]) ae).i;rw[gA hA ae hr];exact⟨hE _ _ hq af,rfl⟩
 ·rw[aw1] at h
  obtain⟨w,hw,h⟩:=h;rw[aw0] at h;obtain⟨q,hq,rfl⟩:=h;have hr:q.2.i<=k:=hr;have i1:=(nz (tk:=tk) ae (fun a s r h=>iH gE h) hq).i
  have i2:=(bH (tk:=tk) (s:=w.2) (w:=[91]) ae).i;rw[M9 hA hw af,aw7,gA hA ae (s:=w.2) af,CE hA ae (fun a s r h=>iH gE h) (fun a s r h=>zr hE h) hq hr]
  rfl
end
def O8{B B':EP}(gB:gR tk B)(hB:X9 k B B'){lv:Int} : ∀ (m:Nat) (t:Tm) (s:PS) (r:Tm × PS),rJ (aq tk) B lv m t s=some r->r.2.i<=k->rJ (aq tT) B' lv m t s=some r
 | 0,_,_,_,h,_=>by cases h
 | m+1,t,s,r,h,hr=>by
  have hs:=(tI gB _ _ _ _ h).i;unfold rJ at h ⊢;rw[oY hA af];revert h;refine fS (fun _ h=>h) fun _=>?_
  split
  ·exact id
  ·refine fS (fun _=>tQ fun q hq h=>?_) fun _ h=>h
   have hi:q.2.i<=r.2.i:=by
    cases hc:decide (lv=3) with
    | true=>rw[hc,cond_true,aw2] at h;subst h;exact Nat.le_refl _
    | false=>rw[hc,cond_false] at h;exact (tI gB _ _ _ _ h).i
   refine⟨hB _ _ hq af,?_⟩;revert h;exact fS (fun _ h=>h) fun _ h=>O8 gB hB m _ _ _ h hr
def Hv:∀ (n l:Nat),l<=7->X9 k (pE (aq tk) n l) (pE (aq tT) n l)
 | 0,l,_=>fun s r h=>by cases h
 | n+1,l,hl=>by
  have g0:=iN (tk:=tk) n 0;have h0:=Hv n 0 af
  by_cases hl0:l=0
  ·subst hl0
   exact Zf hA g0 h0 (Hv n 1 af) (iN n 1)
  intro s r h hr;have hs:=(iN _ _ _ _ h).i
  by_cases hl7:l=7
  ·subst hl7
   replace h:(bif pk (aq tk) s==rC then (pE (aq tk) n 7 s.up).map fun r=>(.mk 4 9 [] [] [] [] [r.1] [],r.2)
    else bif pk (aq tk) s==ua then (pE (aq tk) n 7 s.up).map fun r=>(.mk 4 11 [] [] [] [] [r.1] [],r.2)
    else lN (aq tk) n (pE (aq tk) n 0) s)=some r:=h
   show (bif pk (aq tT) s==rC then (pE (aq tT) n 7 s.up).map fun r=>(.mk 4 9 [] [] [] [] [r.1] [],r.2)
    else bif pk (aq tT) s==ua then (pE (aq tT) n 7 s.up).map fun r=>(.mk 4 11 [] [] [] [] [r.1] [],r.2)
    else lN (aq tT) n (pE (aq tT) n 0) s)=some r
   rw[oY hA af];revert h;refine fS (fun _=>nZ fun q hq e=>?_) fun _=>fS (fun _=>nZ fun q hq e=>?_) fun _ h=>YH hA g0 h0 _ _ h hr
   all_goals
    subst e;exact⟨Hv n 7 af _ _ hq hr,rfl⟩
  rw[Oh af af] at h ⊢;revert h;refine tQ fun q hq h=>?_
  have gB:=iN (tk:=tk) n (l+1);have hi:=(tI gB _ _ _ _ h).i;exact⟨Hv n (l+1) af _ _ hq af,O8 hA gB (Hv n (l+1) af) _ _ _ _ h hr⟩
def abD{n:Nat}{kd:Int}{a:List Fd}{r:List Fd × PS}(h:mV (aq tk) n kd a s=some r)(hr:r.2.i<=k):mV (aq tT) n kd a s=some r:=by
 unfold mV at h ⊢;rw[aw0] at h;obtain⟨w,hw,h⟩:=h;have i1:=(iY _ _ _ hw).i;cases h4:decide (kd=4) with
 | true =>
  rw[h4,cond_true] at h;subst h;have hr:(iE (aq tk) 0 w.2).2.i<=k:=hr;have i2:=(AO (tk:=tk) (s:=w.2) (least:=0) af).i;rw[kB hA (s:=s) af,zX hA _ _ _ hw af,axa,Oe hA af hr];rfl
 | false =>
  rw[h4,cond_false] at h;subst h;have hr:w.2.i<=k:=hr;rw[kB hA (s:=s) af,zX hA _ _ _ hw af];rfl
def Zq{n:Nat}{r:Fm × PS}(h:lW (aq tk) n (pE (aq tk) n 0) s=some r)(hr:r.2.i<=k):lW (aq tT) n (pE (aq tT) n 0) s=some r:=by
 have g0:=iN (tk:=tk) n 0;have hs:=(CG g0 h).i;unfold lW at h ⊢;simp only at h ⊢;rw[oY hA af];revert h;refine fS (fun _ h=>h) fun _ h=>?_
 rw[aw1] at h;obtain⟨sl,qu,h⟩:=h;have hi:sl.2.i<=r.2.i:=by
  cases hc:(decide (kR (pk (aq tk) s) cG 0=0) || decide (kR (pk (aq tk) s) cG 0=1)) with
  | true=>rw[hc,cond_true,aw2] at h;subst h;exact Nat.le_refl _
  | false =>
   rw[hc,cond_false,aw1] at h;obtain⟨w,hw,h⟩:=h;rw[aw0] at h;obtain⟨b,hb,rfl⟩:=h;exact ((iY _ _ _ hw).tr ((bH (w:=[61]) ae).tr (g0 _ _ hb))).i
 have i1:=(nz (tk:=tk) ae (fun a s' r h'=>pd h') qu).i
 have i2:=(bH (tk:=tk) (s:=(aE (aq tk) s.up).2) (w:=[40]) ae).i;rw[kB hA (s:=s.up) af,gA hA ae (s:=(aE (aq tk) s.up).2) af,CE hA ae (fun a s' r h'=>pd h') (fun a s' r h'=>abD hA h') qu af,aw7]
 revert h;refine fS (fun _ h=>h) fun _=>tQ fun w hw h=>?_
 rw[aw0] at h;obtain⟨b,hb,rfl⟩:=h;have hr:b.2.i<=k:=hr;have i3:=(g0 _ _ hb).i;have i4:=(bH (tk:=tk) (s:=w.2) (w:=[61]) ae).i;refine⟨zX hA _ _ _ hw af,?_⟩;rw[gA hA ae (s:=w.2) af,Hv hA n 0 af _ _ hb hr];rfl
def QC:∀ (m:Nat) (us:List av) (s:PS) (r:List av × PS),o5 (aq tk) m us s=some r->r.2.i<=k->o5 (aq tT) m us s=some r
 | 0,_,_,_,h,_=>by cases h
 | m+1,us,s,r,h,hr=>by
  have hs:=(qQ _ _ _ _ h).i;unfold o5 at h ⊢;rw[oY hA af];revert h;refine fS (fun _ h=>?_) fun _ h=>h
  have i1:=(qQ _ _ _ _ h).i;rw[kB hA (s:=s.up) af];exact QC m _ _ _ h hr
end
end
theorem wv(b:UInt8)(r r2:av):∀ (c:Bool) (a:av),bt c (a++b :: r)=a.length->bt c (a++b :: r2)=a.length
 | c,[],h=>by
  simp only[axM,bt,List.length_nil] at h ⊢
  grind
 | c,x :: a,h=>by
  have h1:=wv b r r2 false a;have h2:=wv b r r2 true a;have h3:=wv b r r2 c a;simp only[axN,bt,List.length_cons] at h ⊢
  grind
def Beh(s r:av):Prop:=r=[]\/(∃ r',r=32 :: r')\/∃ x s' r',s=x :: s'/\r=x :: r'
theorem L5{k:Int}{s r:av}(hr:Beh s r):∀ v:av,cS k (v++s)=v.length->cS k (v++r)=v.length
 | [],h=>by
  simp only[axM,List.length_nil] at h ⊢
  rcases hr with rfl|⟨r',rfl⟩|⟨x,s',r',rfl,rfl⟩
  ·rfl
  ·have e:kindOf 32=0:=by decide
   simp[cS,e]
  ·simp only[cS] at h ⊢
   grind
 | c :: v,h=>by
  have ih:=L5 (k:=k) hr v;simp only[axN,cS,List.length_cons] at h ⊢
  grind
def OG(b:UInt8):kU [b,32]=false:=by
 unfold kU;simp
theorem XN{s r:av}(hu:u≠[])(h:fW (u++s)=u.length)(hr:Beh s r):fW (u++r)=u.length:=by
 match u,hu with
 | b :: v,_ =>
  have key:=L5 (k:=kindOf b) hr v;simp only[axN,fW,List.length_cons] at h ⊢
  by_cases hk:0<kindOf b
  ·rw[if_pos hk] at h ⊢
   have:=qs (kindOf b) (v++s)
   grind
  ·rw[if_neg hk] at h ⊢
   match v with
   | [] =>
    simp only[axM,List.length_nil] at h ⊢
    rcases hr with rfl|⟨r',rfl⟩|⟨x,s',r',rfl,rfl⟩
    ·grind
    ·have:=OG b
     simp only[axJ,axQ] at h ⊢
     grind
    ·simp only[axJ,axQ,List.length_cons] at h ⊢
     grind
   | [x] =>
    simp only[axN,axM,axJ,axQ,List.length_cons] at h ⊢
    grind
   | x :: y :: v =>
    simp only[axN,axJ,axQ,List.length_cons] at h ⊢
    grind
def wu{s:av}{t:Tok}{l:List Tok}(h:(dK s off).2.2=-1)(e:(dK s off).1=t :: l):∃ s' WE,s=t.before++(t.text++s')/\bt false s=t.before.length/\fW (t.text++s')=t.text.length/\t.text≠[]/\(dK s' WE).2.2=-1/\(dK s' WE).1=l:=by
 rw[dK] at h e;have k1:=mg false s;split at h
 ·rename_i hs
  rw[if_pos hs] at e;cases e
 ·rename_i hs
  rw[if_neg hs] at e;split at h
  ·simp at h;omega
  ·rename_i ht
   rw[dif_neg ht] at e;simp only at h e;split at h
   ·rename_i hx
    rw[if_pos hx] at e;simp only[ayc] at e;obtain⟨e1,e2⟩:=e;subst e1;have k2:=wz (s.drop (bt false s));refine⟨_,_,?_,?_,?_,?_,hx,e2⟩
    ·simp only
     rw[<- ax6,axW,axW]
    ·simp only[axO];omega
    ·simp only[axO]
     rw[<- ax6,axW];omega
    ·intro e
     have:=ayj List.length e
     simp only[axO,List.length_nil] at this;omega
   ·rename_i hx
    exact absurd h hx
abbrev wr(l:List Tok):av:=(l.map fun t=>t.before++t.text).flatten
section
def tH(h:w∈cG):isWord w=false/\wL w=wL []/\dE w=dE []:=by
 unfold cG at h;simp only[axs,axR,ays] at h
 rcases h with rfl|rfl|rfl|rfl|rfl|rfl<;>exact⟨cB,cB,cB⟩
section
variable {L L' : List av}
def Nrm(L L' : List av):Prop:=∀ s,pk L' s=pk L s\/pk L s∈cG/\pk L' s=[]
variable (h:Nrm L L')
include h
def qd(hw:w≠[])(hk:w∉cG)(s:PS):(pk L' s==w)=(pk L s==w):=by
 rcases h s with e|⟨e1,e2⟩
 ·rw[e]
 ·rw[e2,show (([]:av)==w)=false from ayI.2 hw.symm,show (pk L s==w)=false from ayI.2 fun e=>hk (e ▸ e1)]
def ag3(s:PS):isWord (pk L' s)=isWord (pk L s):=by
 rcases h s with e|⟨e1,e2⟩
 ·rw[e]
 ·rw[e2,(tH e1).1];rfl
def aqY(s:PS):wL (pk L' s)=wL (pk L s):=by
 rcases h s with e|⟨e1,e2⟩
 ·rw[e]
 ·rw[e2,(tH e1).2.1]
def Hl(s:PS):dE (pk L' s)=dE (pk L s):=by
 rcases h s with e|⟨e1,e2⟩
 ·rw[e]
 ·rw[e2,(tH e1).2.2]
def jB(hw:w≠[])(hk:w∉cG)(s:PS):aN L' w s=aN L w s:=by unfold aN;rw[qd h hw hk]
def adJ(l:Int)(s:PS):iE L' l s=iE L l s:=by unfold iE;rw[Hl h]
def vi(s:PS):aE L' s=aE L s:=by
 unfold aE
 rcases h s with e|⟨e1,e2⟩
 ·rw[e]
 ·rw[ag3 h,(tH e1).1];rfl
def I8(s:PS):aJ L' s=aJ L s:=by unfold aJ;simp only[vi h,qd h (w:=[46]) aB aB]
def CJ:∀ (n:Nat) (s:PS),mi L' n s=mi L n s
 | 0,_=>rfl
 | n+1,s=>by
  unfold mi;simp only[qd h (w:=tZ) aB aB,qd h (w:=oJ) aB aB,qd h (w:=jr) aB aB,jB h (w:=[40]) aB aB,jB h (w:=[41]) aB aB,I8 h,CJ n]
def agX(n:Nat)(s:PS):gS L' n s=gS L n s:=by unfold gS;simp only[CJ h,jB h (w:=[40]) aB aB,jB h (w:=[41]) aB aB]
def Qa{α:Type}{el el':α->PS->Option (α × PS)}(he:el'=el){fin:av}(hw:fin≠[])(hk:fin∉cG):∀ (n:Nat) (a:α) (s:PS),oB L' el' fin n a s=oB L el fin n a s
 | 0,_,_=>rfl
 | n+1,a,s=>by
  unfold oB;simp only[he,qd h (w:=[44]) aB aB,jB h hw hk];simp only[<- he,Qa he hw hk n]
def I7{α:Type}{el el':α->PS->Option (α × PS)}(he:el'=el){fin:av}(hw:fin≠[])(hk:fin∉cG)(n:Nat)(a:α)(s:PS):nP L' el' fin n a s=nP L el fin n a s:=by
 unfold nP;rw[qd h hw hk,Qa h he hw hk]
def AQ(E:EP)(hw:w≠[])(hk:w∉cG)(ks:List Tm)(s:PS):mY L' E w ks s=mY L E w ks s:=by unfold mY;rw[jB h hw hk]
def ag1(E:EP):wH L' E=wH L E:=by
 funext a s
 unfold wH;simp only[jB h (w:=[61]) aB aB,vi h]
def agZ(s:PS):nu L' s=nu L s:=by unfold nu;simp only[jB h (w:=[44]) aB aB,vi h]
def agY{E B B':EP}(hB:∀ s,B' s=B s)(s:PS):ow L' E B' s=ow L E B s:=by
 unfold ow;simp only[qd h (w:=JZ) aB aB,qd h (w:=Bk) aB aB,qd h (w:=uG) aB aB,AQ h E (w:=H7) aB aB,AQ h E (w:=H5) aB aB,AQ h E (w:=[61]) aB aB,AQ h E (w:=Yv) aB aB,AQ h E (w:=H6) aB aB,AQ h E (w:=Yu) aB aB,vi h,agZ h,hB]
def Ly(E:EP):∀ (n:Nat) (a:List av × List Tm) (s:PS),lR L' E n a s=lR L E n a s
 | 0,_,_=>rfl
 | n+1,a,s=>by
  unfold lR;simp only[vi h,jB h (w:=[45,62]) aB aB,qd h (w:=[44]) aB aB,Ly E n]
def aaB(n:Nat)(E:EP)(s:PS):mG L' n E s=mG L n E s:=by
 unfold mG;simp only[I8 h,Ly h,jB h (w:=[40]) aB aB,jB h (w:=[41]) aB aB,jB h (w:=[123]) aB aB,jB h (w:=[125]) aB aB]
def aaC(n:Nat)(E:EP)(s:PS):kW L' n E s=kW L n E s:=by
 unfold kW oP;simp only[I8 h,vi h,qd h (w:=[40]) aB aB,qd h (w:=[123]) aB aB,qd h (w:=[58]) aB aB,qd h (w:=[91]) aB aB,jB h (w:=[40]) aB aB,jB h (w:=[41]) aB aB,jB h (w:=[93]) aB aB,I7 h (el:=qB E) rfl (fin:=[41]) aB aB,I7 h (ag1 h E) (fin:=[125]) aB aB]
def agW(n:Nat)(E:EP)(s:PS):lN L' n E s=lN L n E s:=by
 unfold lN;simp only[Hl h,adJ h,qd h (w:=[45]) aB aB,qd h (w:=xt) aB aB,qd h (w:=sQ) aB aB,qd h (w:=[40]) aB aB,qd h (w:=jr) aB aB,qd h (w:=qF) aB aB,jB h (w:=[41]) aB aB,jB h (w:=[91]) aB aB,agX h,I7 h (el:=qB E) rfl (fin:=[93]) aB aB,aaB h,aaC h]
def Wu{B B':EP}(hB:∀ s,B' s=B s)(lv:Int):∀ (n:Nat) (t:Tm) (s:PS),rJ L' B' lv n t s=rJ L B lv n t s
 | 0,_,_=>rfl
 | n+1,t,s=>by
  unfold rJ;simp only[aqY h,hB,Wu hB lv n]
def ama:∀ (n l:Nat) (s:PS),pE L' n l s=pE L n l s
 | 0,_,_=>rfl
 | n+1,l,s=>by
  have ih:=ama n;have e0:pE L' n 0=pE L n 0:=funext (ih 0);unfold pE;split
  ·rw[e0,agY h (ih 1)]
  ·simp only[qd h (w:=rC) aB aB,qd h (w:=ua) aB aB,ih,e0,agW h]
  ·simp only[ih,Wu h (ih _)]
def ag2(n:Nat)(k:Int):mV L' n k=mV L n k:=by
 funext a s
 unfold mV;simp only[vi h,CJ h,adJ h]
def ag0(n:Nat)(hs:pk L' s=pk L s):lW L' n (pE L' n 0) s=lW L n (pE L n 0) s:=by
 unfold lW;rw[show pE L' n 0=pE L n 0 from funext (ama h n 0)]
 simp only[hs,vi h,ag2 h,CJ h,jB h (w:=[40]) aB aB,jB h (w:=[61]) aB aB,I7 h (el:=mV L n (kR (pk L s) cG 0)) rfl (fin:=[41]) aB aB]
end
end
def gW(s:av):So × Int:=(qg 80000 s).getD (⟨[],[],[],[],[]⟩,0)
def vn(s:av):qg 80000 s=some (gW s):=by
 obtain⟨r,hr⟩:=Ok (n:=80000) (s:=s) (by omega)
 unfold gW;rw[hr];rfl
def WM{s:av}(hs:s.length<=4611686018427387904)(H:aa):ai (PL 80000) 7 [.str s] H=some (.tuple [.agg (mz (gW s).1),.int .i64 (gW s).2],none):=by
 refine aaK (n:=80000) (by omega) hs (fun mC q hq hb f hf=>?_) (vn s)
 ·obtain⟨_,_,qO,_,_⟩:=zM mC
  have ho:=abm qO hq hb f hf;exact ab9 ho.k ho.p (by have:=ho.n;omega)
section
section
variable {tk:List Tk}{n:Nat}
theorem QB:∀ (k:Nat) (us:List av) (s:PS) (r:List av × PS),o5 (aq tk) k us s=some r->r.2.bad=false->us.all isWord=true->s.bad=false/\r.2.i+2*us.length=s.i+2*r.1.length/\r.1.all isWord=true
 | 0,_,_,_,h,_,_=>by cases h
 | k+1,us,s,r,h,hb,hw=>by
  unfold o5 at h;cases hc:(!s.bad&&(pk (aq tk) s==Bl)) with
  | false =>
   grind
  | true =>
   rw[hc,cond_true] at h;simp only[aw4,axq] at hc;have hx:(aE (aq tk) s.up).2.bad=false->isWord (aE (aq tk) s.up).1=true/\(aE (aq tk) s.up).2.i=s.i+2:=fun hb=>⟨(iJ hb).2.1,by rw[mH hb];rfl⟩
   have DE:(aE (aq tk) s.up).2.bad=false:=by
    cases vK:(aE (aq tk) s.up).2.bad with
    | false=>rfl
    | true=>rw[(qQ _ _ _ _ h).bad vK] at hb;cases hb
   obtain⟨h1,h2⟩:=hx DE;obtain⟨_,h3,h4⟩:=QB k _ _ r h hb (by rw[ayS,hw];simp[h1])
   grind
theorem xB:∀ (k:Nat) (a:List Fm × List Nat) (s:PS) (r:(List Fm × List Nat) × PS),lU (aq tk) n k a s=some r->r.2.bad=false->s.bad=false/\∃ m,r.1.2=a.2++m
 | 0,_,_,_,h,_=>by cases h
 | k+1,a,s,r,h,hb=>by
  unfold lU at h;cases hc:(!s.bad&&Nat.blt s.i (aq tk).length) with
  | false =>
   rw[hc,cond_false,aw2] at h;subst h;exact⟨hb,[],ae⟩
  | true =>
   rw[hc,cond_true,aw1] at h;obtain⟨q,hq,h⟩:=h;obtain⟨_,m,hm⟩:=xB k _ _ r h hb
   grind
end
theorem Hz{s:av}(h:(gW s).2=-1):(bO s).2.2=-1/\∃ q,qS (aq (iv (bO s).1)) 80000=some q/\q.2.bad=false/\Cd (aq (iv (bO s).1)) (lk q.1.1 q.1.2.1 q.1.2.2.1)=none/\(gW s).1=Jr (iv (bO s).1) (bO s).2.1 q.1.1 q.1.2.1 q.1.2.2.1 q.1.2.2.2:=by
 have hp:=vn s;unfold qg at hp;split at hp
 ·rename_i mC
  refine⟨mC,?_⟩;rw[aw0] at hp;obtain⟨q,hq,he⟩:=hp;unfold vm at he
  grind
 ·grind
end
def Ki{L:List av}{n:Nat} : ∀ (k:Nat) (a:List Fm × List Nat) (s:PS) (r:(List Fm × List Nat) × PS),lU L n k a s=some r->∃ x,r.1.1=a.1++x
 | 0,_,_,_,h=>by cases h
 | k+1,a,s,r,h=>by
  unfold lU at h;cases hc:(!s.bad&&Nat.blt s.i L.length) with
  | false =>
   rw[hc,cond_false,aw2] at h;subst h;exact⟨[],ae⟩
  | true =>
   rw[hc,cond_true,aw1] at h;obtain⟨q,hq,h⟩:=h;obtain⟨x,hx⟩:=Ki k _ _ r h;exact⟨q.1 :: x,by rw[hx,axf];rfl⟩
def Rx{L:List av}{n:Nat}{E:EP}{r:Fm × PS}(h:lW L n E s=some r)(hb:r.2.bad=false):pk L s∈cG:=by
 unfold lW at h;simp only at h;cases hc:decide (kR (pk L s) cG 0<0) with
 | true =>
  rw[hc,cond_true,aw2] at h;subst h;exact absurd (show true=false from hb) aB
 | false =>
  have h1:=rm (pk L s) cG 0;have h2:0<=kR (pk L s) cG 0:=by have:=of_decide_eq_false hc;omega
  rw[decide_eq_true h2] at h1;exact List.contains_iff_mem.1 h1.symm
def Xa{tk:List Tk}{us:List av}{fs:List Fm}{es:List Nat}(h:qS (aq tk) (m+2)=some ((nm,us,fs,es),s))(hb:s.bad=false)(hf:2<=fs.length) :
  es.getD 1 0<tk.length/\qS (aq (tk.take (es.getD 1 0))) (m+2)=some ((nm,us,fs.take 1,es.take 2),⟨es.getD 1 0,false⟩):=by
 unfold qS at h ⊢;simp only[aw1,aw0] at h;obtain⟨u,hu,d,hd,he⟩:=h;simp only[aw6] at he;obtain⟨⟨rfl,rfl,rfl,rfl⟩,rfl⟩:=he;rw[lU] at hd;cases c0:(!u.2.bad&&Nat.blt u.2.i (aq tk).length) with
 | false =>
  rw[c0,cond_false,aw2] at hd;subst hd;exact absurd hf ae
 | true =>
 rw[c0,cond_true,aw1] at hd;obtain⟨q0,hq0,hd⟩:=hd;rw[lU] at hd;cases c1:(!q0.2.bad&&Nat.blt q0.2.i (aq tk).length) with
 | false =>
  rw[c1,cond_false,aw2] at hd;subst hd;exact absurd hf ae
 | true =>
 rw[c1,cond_true,aw1] at hd;obtain⟨q1,hq1,hd⟩:=hd;obtain⟨x,hx⟩:=Ki _ _ _ _ hd;obtain⟨b1,y,hy⟩:=xB _ _ _ _ hd hb;simp only[aw4,axq,axp] at c0 c1;have hk:=Rx hq1 b1;have aP:=Iy hq0 c1.1;have qO:(aq tk).length=tk.length:=by simp[aq]
 have CC:d.1.1.take 1=[q0.1]:=by rw[hx];rfl
 have hy0:d.1.2.take 2=[u.2.i,q0.2.i]:=by rw[hy];rfl
 have Ta:d.1.2.getD 1 0=q0.2.i:=by rw[hy];rfl
 rw[CC,hy0,Ta];have pH:q0.2=⟨q0.2.i,false⟩:=by rw[<- c1.1]
 generalize lJ:q0.2.i=e1 at *;have afS:(aq (tk.take e1)).length=e1:=by simp[aq];omega
 have hN:Nrm (aq tk) (aq (tk.set e1 ([],[]))):=fun s=>by
  rw[show aq (tk.set e1 ([],[]))=(aq tk).set e1 [] by simp[aq,List.map_set]]
  unfold pk;cases hsb:s.bad with
  | true=>exact .inl rfl
  | false =>
   simp only[cond_false]
   by_cases hi:s.i=e1
   ·refine .inr ⟨?_,?_⟩
    ·rw[pH] at hk
     unfold pk at hk;rw[hi];exact hk
    ·rw[hi]
     simp only[List.getD,axI,ayE];split<;>rfl
   ·refine .inl ?_
    simp[List.getD,axI,ayk hi]
 have hA:Te (tk.set e1 ([],[])) (tk.take e1) e1:=fun j hj=>by
  by_cases hi:j=e1
  ·rw[hi,show (aq (tk.take e1)).getD e1 []=[] by unfold List.getD;rw[List.getElem?_eq_none (Nat.le_of_eq afS)];rfl,show aq (tk.set e1 ([],[]))=(aq tk).set e1 [] by simp[aq,List.map_set]]
   simp only[List.getD,axI,ayE];split<;>rfl
  ·simp[aq,List.getD,axI,ayk hi,List.getElem?_take,show j<e1 by omega]
 have hA0:Te tk (tk.take e1) u.2.i:=fun j hj=>by
  simp[aq,List.getD,List.getElem?_take,show j<e1 by omega]
 have wW:lW (aq (tk.take e1)) (m+2) (pE (aq (tk.take e1)) (m+2) 0) u.2=some q0:=by
  refine Zq hA (k:=e1) ?_ (Nat.le_of_eq lJ);rw[ag0 hN,hq0];rw[show aq (tk.set e1 ([],[]))=(aq tk).set e1 [] by simp[aq,List.map_set]]
  unfold pk;simp[List.getD,axI,show e1≠u.2.i by omega]
 refine⟨af,?_⟩;have i2:=(qQ _ _ _ _ hu).i;have i3:=(dv (tk:=tk) (s:=aN (aq tk) js ⟨0,false⟩)).i;rw[gA hA0 aB (s:=⟨0,false⟩) af,kB hA0 af,QC hA0 _ _ _ _ hu (Nat.le_refl _),aw7];rw[lU,show (!u.2.bad&&Nat.blt u.2.i (aq (tk.take e1)).length)=true by rw[c0.1,afS,show Nat.blt u.2.i e1=true by rw[axp];exact aP];rfl,cond_true,wW,aw7]
 rw[lU,lJ,show (!q0.2.bad&&Nat.blt e1 (aq (tk.take e1)).length)=false by rw[afS,show Nat.blt e1 e1=false by (cases hq:Nat.blt e1 e1 with|true=>(rw[axp] at hq;omega)|false=>rfl)];simp,cond_false,axa,pH]
 rfl
def ji(l y:List av):av:=ij l y l.length++y.getD l.length []
def Ud(f:Fm):av:=ji (dD f) f.layout
def fq(l:List Fm):av:=(l.map Ud).flatten
def iI(s:So):av:=ji (de s) s.head++fq s.defs++s.fin
def xA{l:List Fm}{f:Fm} : fq (l++[f])=fq l++Ud f:=by simp[fq]
structure DfX (f:Fm):Prop where
 k:0<=f.kind/\f.kind<=5
 p:gb f=true
 n:(dD f).length<=8192
 b:∀ s∈dD f,s.length<=8192
 l:f.layout.length=(dD f).length+1
 lb:∀ s∈f.layout,s.length<=8192
structure SoX (s:So):Prop where
 a:s.name.length<=1100000
 ul:s.gZ.length<=1100000
 ub:∀ u∈s.gZ,u.length<=1100000
 h0:0<(de s).length
 hn:(de s).length<=8192
 hb:∀ u∈de s,u.length<=8192
 l:s.head.length=(de s).length+1
 lb:∀ u∈s.head,u.length<=8192
 dl:s.defs.length<=8192
 d:∀ f∈s.defs,DfX f
 e:s.fin.length<=8192
theorem Hb(hl:l.length<=8192)(hb:∀ s∈l,s.length<=8192)(kG:∀ s∈y,s.length<=8192):(ji l y).length<=140000000:=by
 have h1:=vN hb kG l.length;have h2:l.length*(2*8192)<=8192*(2*8192):=axg _ hl;have h3:=nw kG l.length;unfold ji
 grind
def GO:∀ {l:List Fm},(∀ f∈l,DfX f)->(fq l).length<=l.length*140000000
 | [],_=>by simp[fq]
 | f :: l,h=>by
  have ih:=GO (l:=l) fun g hg=>h g (yd hg)
  have h1:=h f ae;have h2:=Hb h1.n h1.b h1.lb;unfold fq at ih ⊢;simp only[axe,axw,List.length_append,List.length_cons,Ud] at ih ⊢;omega
def Rz{f:Fm} : 3<=(dD f).length:=by unfold dD;simp only[List.length_append,List.length_cons,List.length_nil];omega
theorem abJ{k:Nat}{a b:Nat->Nat}(h0:a 0=b 0)(hs:∀ i,i<k->a (i+1)+b i<=b (i+1)+a i)(hk:b k<=a k):∀ i,i<=k->a i=b i:=by
 have up:∀ j i,i+j<=k->b i+a (i+j)<=b (i+j)+a i:=by
  intro j
  induction j with
  | zero=>intro i _;simp only[axZ];omega
  | succ j ih =>
   grind
 intro i hi;have h1:=up i 0 af;have h2:=up (k-i) i af
 grind
def uM(ts:List Tk):av:=(ts.map fun t=>t.2++t.1).flatten
def YQ{a b:List Tk} : uM (a++b)=uM a++uM b:=by simp[uM]
theorem Lh(ts:List Tk)(z:av):ji (ts.map (·.1)) (ts.map (·.2)++[z])=uM ts++z:=by
 have h1:((List.range (ts.map (·.1)).length).map fun j=>(ts.map (·.2)++[z]).getD j []++(ts.map (·.1)).getD j [])=ts.map fun t=>t.2++t.1:=by
  refine List.ext_getElem ae fun j h1 h2=>?_
  grind
 unfold ji ij;rw[h1,getD_at ae];rw[List.getElem_append_right ae];simp[uM]
def sD(s:av):(bW s).1++(bW s).2=s:=by
 unfold bW;split
 ·simp_all
 ·exact List.append_nil _
theorem zP(z:av):∀ (c:Bool) (a:av),a.length<=bt c (a++z)->bt c a=a.length
 | c,[],_=>rfl
 | c,x :: a,h=>by
  have h1:=zP z false a;have h2:=zP z true a;have h3:=zP z c a;simp only[axN,bt,List.length_cons] at h ⊢
  grind
def OJ(s:av):bW (bW s).1=((bW s).1,[]):=by
 have key:∀ (s:av) (j:Nat),cw 10 j s=-1\/∃ k:Nat,k<s.length/\cw 10 j s=((j+k:Nat):Int)/\cw 10 j (s.take (k+1))=((j+k:Nat):Int):=by
  intro s
  induction s with
  | nil=>exact fun j=>.inl (by simp[cw])
  | cons b r ih =>
   intro j
   by_cases hb:b.toNat=10
   ·exact .inr ⟨0,ae,by simp[cw,hb],by simp[cw,hb]⟩
   ·have h2:∀ r,cw 10 j (b :: r)=cw 10 (j+1) r:=fun r=>by
     simp only[cw];rw[ax1 af];rfl
    rcases ih (j+1) with h|⟨k,k1,k2,k3⟩
    ·exact .inl (by rw[h2,h])
    ·refine .inr ⟨k+1,cJ k1,?_,?_⟩
     ·rw[h2,k2];congr 1;omega
     ·rw[axJ,h2,k3];congr 1;omega
 rcases key s 0 with h|⟨k,h1,h2,h3⟩
 ·have e:bW s=(s,[]):=by unfold bW;rw[h,if_neg aB]
  rw[e];exact e
 ·simp only[axC] at h2 h3
  have e:bW s=(s.take (k+1),s.drop (k+1)):=by unfold bW;rw[h2,if_pos (Int.natCast_nonneg _),Int.toNat_natCast]
  rw[e]
  show bW (s.take (k+1))=(s.take (k+1),[])
  unfold bW;rw[h3,if_pos (Int.natCast_nonneg _),Int.toNat_natCast,azm,Nat.min_self,List.drop_eq_nil_of_le (by rw[axO];omega)]
def Xw{b r fin:av}{l:List Tok}(h1:bt false (b++(u++r))=b.length)(h2:fW (u++r)=u.length)(hu:u≠[])(h:∀ off,dK r off=(l,fin, -1)):dK (b++(u++r)) off=(⟨u,b⟩ :: l,fin, -1):=by
 have PN:0<u.length:=ayn.2 hu;rw[dK];have hd:(b++(u++r)).drop b.length=u++r:=ae;rw[if_neg (show ¬ bt false (b++(u++r))=(b++(u++r)).length by rw[h1];simp only[List.length_append];omega),dif_neg (show ¬ fW ((b++(u++r)).drop (bt false (b++(u++r))))=0 by rw[h1,hd,h2];omega)]
 simp only[h1,hd,h2];rw[show (b++(u++r)).drop (b.length+u.length)=r by rw[<- ax6,hd];simp,h]
 simp
def HL{t:Tok}{m:List Tok}{z y:av}(hz:t.before=z++y):∀ (l:List Tok) (s:av) (off aaH:Nat),(dK s off).2.2=-1->(dK s off).1=l++t :: m->dK (wr l++z) aaH=(l,z, -1)
 | [],s,off,aaH,h,e=>by
  obtain⟨s',WE,e1,k1,k2,k3,k4,k5⟩:=wu h e;rw[e1,hz,axf] at k1;have:bt false z=z.length:=zP _ _ _ (by rw[k1,List.length_append];omega)
  show dK z aaH=_
  rw[dK,if_pos this]
 | t1 :: l,s,off,aaH,h,e=>by
  obtain⟨s',WE,e1,k1,k2,k3,k4,k5⟩:=wu h e;have ew:wr (t1 :: l)++z=t1.before++(t1.text++(wr l++z)):=by simp[wr]
  rw[ew];have hb:Beh s' (wr l++z):=by
   match l,k5 with
   | [],k5 =>
    obtain⟨s3,aqZ,f1, -, -,f3, -, -⟩:=wu k4 k5
    match z,hz with
    | [],_=>exact .inl rfl
    | x :: z,hz=>exact .inr (.inr ⟨x,z++y++(t.text++s3),z,by rw[f1,hz];simp,rfl⟩)
   | t2 :: l,k5 =>
    obtain⟨s3,aqZ,f1, -, -,f3, -, -⟩:=wu k4 k5;have ew2:wr (t2 :: l)++z=t2.before++(t2.text++(wr l++z)):=by simp[wr]
    rw[ew2,f1]
    match t2.before,t2.text,f3 with
    | x :: b,u,_=>exact .inr (.inr ⟨x,_,_,rfl,rfl⟩)
    | [],x :: u,_=>exact .inr (.inr ⟨x,_,_,rfl,rfl⟩)
  have q1:bt false (t1.before++(t1.text++(wr l++z)))=t1.before.length:=by
   rw[e1] at k1
   match ht:t1.text,k3 with
   | x :: u,_ =>
    rw[ht] at k1;exact wv x _ _ false _ k1
  exact Xw q1 (XN k3 k2 hb) k3 fun off=>HL hz l s' WE off k4 k5
def Xv{s:av}(hs:(bO s).2.2=-1){k:Nat}{t:Tok}(ht:(bO s).1[k]?=some t):bO (wr ((bO s).1.take k)++(bW t.before).1)=((bO s).1.take k,(bW t.before).1, -1):=by
 obtain⟨h8,hc, -⟩:=A3 hs;have hd:(bO s).1=(bO s).1.take k++t :: (bO s).1.drop (k+1):=by
  obtain⟨aP,he⟩:=aw5.1 ht;rw[<- he,<- axk aP,axW]
 have JQ:=sD t.before;have hlen:(wr ((bO s).1.take k)++(bW t.before).1).length<=8192:=by
  have h1:=ayj List.length hc;have h2:=ayj List.length JQ;rw[hd,List.map_append,List.flatten_append,axe,axw] at h1;simp only[wr,List.length_append] at h1 h2 ⊢;omega
 have e:∀ x:av,x.length<=8192->bO x=dK x 0:=fun x hx=>by unfold bO;rw[if_neg af]
 have hss:=e s h8;rw[e _ hlen];exact HL JQ.symm _ s 0 0 (by rw[<- hss];exact hs) (by rw[<- hss];exact hd)
def Ik(s:So):So:={ s with defs:=s.defs.take 1,fin:=[] }
def Sq{s:av}(h:(gW s).2=-1):(SoX (gW s).1/\iI (gW s).1=s)/\(2<=(gW s).1.defs.length->gW (iI (Ik (gW s).1))=(Ik (gW s).1, -1)):=by
 obtain⟨mC,q,hq,hb,hm,he⟩:=Hz h;obtain⟨au4,hlen,qO,xN,yZ⟩:=zM mC;obtain⟨pH,xP,hs3⟩:=A3 mC;have ao5:uM (iv (bO s).1)++(bO s).2.1=s:=by
  refine azI ?_ xP;simp[uM,iv,List.map_map,Function.comp_def]
 have ZR:∀ t∈iv (bO s).1,t.1.length<=8192:=fun t ht=>by
  obtain⟨x,hx,rfl⟩:=List.mem_map.1 ht;exact (Qr mC x hx).1
 rw[he];have akr:∀ k t,(iv (bO s).1)[k]?=some t->bO (uM ((iv (bO s).1).take k)++(bW t.2).1)=((bO s).1.take k,(bW t.2).1, -1):=fun k t ht=>by
  unfold iv at ht;rw[List.getElem?_map,aw0] at ht;obtain⟨x,hx,rfl⟩:=ht;have e:=Xv mC hx;rw[show uM ((iv (bO s).1).take k)=wr ((bO s).1.take k) by unfold iv uM wr;rw[<- List.map_take,List.map_map];rfl]
  exact e
 have qN:∀ k,iv ((bO s).1.take k)=(iv (bO s).1).take k:=fun k=>by unfold iv;rw[List.map_take]
 clear he;generalize (bO s).2.1=fin at *;generalize hl:(bO s).1=sc at *;generalize mD:iv sc=tk at *;obtain⟨hF,akd,Vd,hle⟩:=L1 hq hb;have hOk:=akd qO;clear akd;have Vu:=hq;unfold qS at Vu;simp only[aw1,aw0] at Vu;obtain⟨u,hu,d,hd,rfl⟩:=Vu;obtain⟨hub,m,hm0⟩:=xB _ _ _ _ hd hb;obtain⟨DE,hui,huw⟩:=QB _ _ _ _ hu hub rfl;have hnw:=(iJ DE).2.1;have hni:=mH DE;have RV:=jF (iJ DE).1;have JR:u.2.i<=tk.length:=((bH aB).tr (dv.tr (qQ _ _ _ _ hu))).le (axh _);have Mq:uB tk [u.2.i]:=⟨fun i hi=>by
  have:i=0:=cJ hi
  subst this;exact⟨axh _,JR,fun h=>absurd h (ayL 0)⟩⟩
 have hE:=Av _ [] [u.2.i] u.2 d hd hb Mq rfl JR;simp only at hF hOk Vd hle hm hm0;generalize (aE (aq tk) (aN (aq tk) js ⟨0,false⟩)).1=nm at *;generalize u.1=us at *;generalize d.1.1=fs at *;have aph:d.1.2.getD 0 0=2+2*us.length:=by
  rw[hm0]
  show u.2.i=_
  simp only[List.length_nil] at hui;rw[hni,RV] at hui;simp only at hui;omega
 generalize d.1.2=es at *;obtain⟨B2,hF⟩:=hF;have y5:es.getD fs.length 0=tk.length:=by
  have:=(hE.ok fs.length af).2.1
  omega
 obtain⟨RH,Zv⟩:∃ RH,RH=de ⟨nm,us,[],[],[]⟩:=⟨_,rfl⟩;have hRl:RH.length=2+2*us.length:=by
  have:∀ l:List av,((l.map fun u=>[[117,115,101],u]).flatten:List av).length=2*l.length:=by
   intro l;induction l with
   | nil=>rfl
   | cons a r ih=>simp only[axe,axw,List.length_append,ih,List.length_cons,List.length_nil];omega
  rw[Zv];unfold de;rw[if_pos ⟨hnw,huw⟩];unfold heads;rw[List.length_append,this];rfl
 have PB:fs.map mf=fs.map dD:=List.map_congr_left fun f hf=>by unfold mf;rw[if_pos (hOk f hf).p]
 have agree:∀ j,j<tk.length->(RH++(fs.map dD).flatten)[j]?=(aq tk)[j]?:=fun j hj=>by
  unfold Cd at hm;rw[List.find?_eq_none] at hm;have h1:=hm j (ayB.2 (by simpa [aq] using hj))
  unfold lk at h1;rw[PB,<- Zv] at h1
  simpa using h1
 have vb:∀ i,i<fs.length->((fs.take (i+1)).map dD).flatten=((fs.take i).map dD).flatten++dD (fs.getD i ⟨0,[],[],[],[],tm0,[]⟩):=fun i hi=>by
  rw[jD (aw3 hi),List.map_append,List.flatten_append,getD_at hi];simp
 have Aa:tk.length<=(RH++(fs.map dD).flatten).length:=by
  rcases Nat.eq_zero_or_pos tk.length with h0|h0
  ·omega
  ·have h1:=agree (tk.length-1) af
   rw[aw3 (show tk.length-1<(aq tk).length by simp[aq];omega)] at h1
   have:=(aw5.1 h1).1
   omega
 have hl:∀ i,i<=fs.length->(RH++((fs.take i).map dD).flatten).length=es.getD i 0 :=
  abJ (by rw[aph];simp[hRl]) (fun i hi=>by
   have h1:=hF i _ (aw3 hi);rw[vb i hi,getD_at hi];simp only[List.length_append];omega) (by rw[y5,axz];exact Aa)
 have BE:RH++(fs.map dD).flatten=aq tk:=by
  have h1:=hl fs.length (Nat.le_refl _);rw[axz,y5] at h1;refine ayq fun j=>?_
  by_cases hj:j<tk.length
  ·exact agree j hj
  ·rw[List.getElem?_eq_none af,List.getElem?_eq_none (by simp[aq];omega)]
 have Vr:∀ i,i<=fs.length->RH++((fs.take i).map dD).flatten=(aq tk).take (es.getD i 0):=fun i hi=>by
  rw[<- BE,<- hl i hi];have e:fs.map dD=(fs.take i).map dD++(fs.drop i).map dD:=by rw[<- List.map_append,axW]
  rw[e,List.flatten_append,<- axf,List.take_left]
 have ae' : ∀ i,(hi:i<fs.length)->dD fs[i]=((tk.take (es.getD (i+1) 0)).drop (es.getD i 0)).map (·.1):=fun i hi=>by
  have h1:=Vr (i+1) af;rw[vb i hi,<- axf,Vr i af,getD_at hi] at h1;have h2:=hl i af;rw[Vr i af] at h2;rw[List.map_drop,List.map_take]
  show _=((aq tk).take _).drop _
  rw[<- h1];exact (ayu h2).symm
 have K6:∀ i,i<fs.length->es.getD i 0<es.getD (i+1) 0/\es.getD (i+1) 0<=tk.length:=fun i hi=>by
  have h1:=hE.ok (i+1) af;have h2:=h1.2.2 af;unfold iM at h2;rw[if_neg af,azp] at h2;exact⟨h2,h1.2.1⟩
 have KT:∀ i,(hi:i<fs.length)->∃ t0 ts,tk[es.getD i 0]?=some t0/\tk.take (es.getD (i+1) 0)=tk.take (es.getD i 0)++t0 :: ts/\dD fs[i]=t0.1 :: ts.map (·.1)/\gD tk fin es (i+1)=(bW t0.2).2 :: ts.map (·.2)++[(bW (gT tk fin (es.getD (i+1) 0))).1]:=fun i hi=>by
  obtain⟨h1,h2⟩:=K6 i hi;have h3:=ae' i hi;have hx:=aw3 (show es.getD i 0<tk.length by omega)
  obtain⟨ts,hts⟩:∃ ts,(tk.take (es.getD (i+1) 0)).drop (es.getD i 0)=tk[es.getD i 0]'af :: ts:=by
   have aP:es.getD i 0<(tk.take (es.getD (i+1) 0)).length:=by rw[axO];omega
   exact⟨_,by rw[axk aP,List.getElem_take]⟩
  generalize tk[es.getD i 0]'af=t0 at hx hts;refine⟨t0,ts,hx,?_,by rw[h3,hts];rfl,?_⟩
  ·rw[<- hts]
   have:=(axW (es.getD i 0) (tk.take (es.getD (i+1) 0))).symm
   rw[azm,azB af] at this;exact this
  ·unfold gD oo iM nL
   rw[if_neg af,if_neg af,if_neg af,azp,hts];unfold gT;rw[hx];rfl
 have U' : tk.take (es.getD 0 0)=tk.take (es.getD 0 0)/\gD tk fin es 0=(tk.take (es.getD 0 0)).map (·.2)++[(bW (gT tk fin (es.getD 0 0))).1]:=⟨rfl,by unfold gD oo iM;rw[if_pos rfl,if_pos rfl,List.drop_zero]⟩
 have hRt:RH=(tk.take (es.getD 0 0)).map (·.1):=by
  have:=Vr 0 (axh _)
  rw[axQ,axB,ayi,List.append_nil] at this;rw[this,aq,List.map_take]
 have acY:∀ i,(hi:i<fs.length)->(oA tk fin es fs)[i]?=some { fs[i] with layout:=gD tk fin es (i+1) }:=fun i hi=>by
  unfold oA;rw[azK,aw3 hi];rfl
 have oc:(oA tk fin es fs).length=fs.length:=by simp[oA]
 have dQ:∀ i,i<=fs.length->ji RH (gD tk fin es 0)++fq ((oA tk fin es fs).take i)=uM (tk.take (es.getD i 0))++(bW (gT tk fin (es.getD i 0))).1:=by
  intro i
  induction i with
  | zero =>
   intro _;rw[axQ,U'.2,hRt,Lh];simp[fq]
  | succ i ih =>
   intro hi;obtain⟨t0,ts,h1,h2,h3,h4⟩:=KT i af;have e:Ud { fs[i] with layout:=gD tk fin es (i+1) }=(bW t0.2).2++t0.1++uM ts++(bW (gT tk fin (es.getD (i+1) 0))).1:=by
    unfold Ud
    show ji (dD fs[i]) (gD tk fin es (i+1))=_
    rw[h3,h4];have:=Lh ((t0.1,(bW t0.2).2) :: ts) (bW (gT tk fin (es.getD (i+1) 0))).1
    simp only[axe] at this;rw[this];simp[uM]
   have hr:gT tk fin (es.getD i 0)=t0.2:=by unfold gT;rw[h1]
   rw[jD (acY i af),xA,<- axf,ih af,e,hr,h2,YQ];have hs:=sD t0.2;simp only[axf];rw[<- axf (bW t0.2).1,hs];simp[uM]
 have wX:∀ i,(gT tk fin i).length<=8192:=fun i=>by
  unfold gT;split
  ·rename_i t ht
   exact yZ _ (axc ht)
  ·exact xN
 have JQ:∀ i,(bW (gT tk fin i)).1.length<=8192/\(bW (gT tk fin i)).2.length<=8192:=fun i=>by
  have h1:=ayj List.length (sD (gT tk fin i));have h2:=wX i;rw[List.length_append] at h1;omega
 have hfs:∀ i,i<=fs.length->i<=es.getD i 0:=by
  intro i
  induction i with
  | zero=>intro _;exact axh _
  | succ i ih=>intro hi;have:=K6 i af;have:=ih af;omega
 have ZC:=hfs fs.length (Nat.le_refl _);have hus:∀ u∈us,isWord u=true:=aw8.1 huw;have hew:=(hE.ok 0 af).2.1;refine⟨⟨⟨by have:=lL hnw;show nm.length<=_;omega,by show us.length<=_;omega,fun u hu=>by have:=lL (hus u hu);omega,?_,?_,?_,?_,?_,by show (oA tk fin es fs).length<=_;omega,?_,?_⟩,?_⟩,?_⟩
 ·show 0<(de ⟨nm,us,[],[],[]⟩).length
  rw[<- Zv];omega
 ·show (de ⟨nm,us,[],[],[]⟩).length<=_
  rw[<- Zv];omega
 ·show ∀ u∈de ⟨nm,us,[],[],[]⟩,_
  rw[<- Zv,hRt];intro u hu;obtain⟨t,ht,rfl⟩:=List.mem_map.1 hu;exact ZR t (axV ht)
 ·show (gD tk fin es 0).length=(de ⟨nm,us,[],[],[]⟩).length+1
  rw[<- Zv,hRt,U'.2];simp
 ·show ∀ u∈gD tk fin es 0,_
  rw[U'.2];intro u hu
  rcases aw9.1 hu with hu|hu
  ·obtain⟨t,ht,rfl⟩:=List.mem_map.1 hu
   exact yZ t (axV ht)
  ·rw[axi.1 hu];exact (JQ _).1
 ·show ∀ f∈oA tk fin es fs,_
  intro f hf;obtain⟨i,hi,he⟩:=List.getElem_of_mem hf;have j6:i<fs.length:=af;have h1:=acY i j6;rw[aw3 hi,he,aw2] at h1;subst h1;obtain⟨t0,ts,g1,g2,g3,g4⟩:=KT i j6;have ho:=hOk _ (axn j6);have Nz:∀ t∈t0 :: ts,t∈tk:=fun t ht=>axV (by rw[g2];exact ayY _ ht)
  have g3' : dD { fs[i] with layout:=gD tk fin es (i+1) }=t0.1 :: ts.map (·.1):=g3
  refine⟨ho.k,ho.p,ho.n,?_,?_,?_⟩
  ·rw[g3']
   intro u hu;obtain⟨t,ht,rfl⟩:=List.mem_map.1 (show u∈(t0 :: ts).map (·.1) from hu)
   exact ZR t (Nz t ht)
  ·rw[g3']
   show (gD tk fin es (i+1)).length=_
   rw[g4];simp
  ·show ∀ u∈gD tk fin es (i+1),_
   rw[g4];intro u hu
   rcases aw9.1 hu with hu|hu
   ·rcases axs.1 hu with rfl|hu
    ·have h1:=ayj List.length (sD t0.2)
     have h2:=yZ t0 (Nz t0 ae);rw[List.length_append] at h1;omega
    ·obtain⟨t,ht,rfl⟩:=List.mem_map.1 hu
     exact yZ t (Nz t (yd ht))
   ·rw[axi.1 hu];exact (JQ _).1
 ·show (nL tk fin es es.length).length<=_
  unfold nL;rw[if_neg af];exact (JQ _).2
 ·have h1:=dQ fs.length (Nat.le_refl _)
  rw[<- oc,axz,oc,y5,axz] at h1
  show ji (de ⟨nm,us,[],[],[]⟩) (gD tk fin es 0)++fq (oA tk fin es fs)++nL tk fin es es.length=s
  rw[<- Zv,h1];unfold nL;rw[if_neg af,B2,azp,y5];have h2:gT tk fin tk.length=fin:=by unfold gT;rw[List.getElem?_eq_none (Nat.le_refl _)]
  rw[h2,axf,sD,ao5]
 ·intro Ns
  have Ns:2<=fs.length:=by rw[<- oc];exact Ns
  obtain⟨aP,afh⟩:=Xa (m:=79998) hq hb Ns;have Cz:=K6 0 af;obtain⟨t,ht⟩:∃ t,tk[es.getD 1 0]?=some t:=⟨_,aw3 aP⟩;obtain⟨t0,ht0⟩:∃ t0,tk[es.getD 0 0]?=some t0:=⟨_,aw3 af⟩;have hrt:gT tk fin (es.getD 1 0)=t.2:=by unfold gT;rw[ht]
  obtain⟨z,hz⟩:∃ z,z=(bW t.2).1:=⟨_,rfl⟩;have hz2:bW z=(z,[]):=by rw[hz];exact OJ _
  have Vw:=akr _ t ht;have NA:iI (Ik (Jr tk fin nm us fs es))=uM (tk.take (es.getD 1 0))++z:=by
   have h1:=dQ 1 af;rw[hrt,<- hz] at h1
   show ji (de ⟨nm,us,[],[],[]⟩) (gD tk fin es 0)++fq ((oA tk fin es fs).take 1)++[]=_
   rw[List.append_nil,<- Zv,h1]
  rw[NA];rw[<- hz] at Vw;have afP:Jr (tk.take (es.getD 1 0)) z nm us (fs.take 1) (es.take 2)=Ik (Jr tk fin nm us fs es):=by
   obtain⟨f0,fs2,rfl⟩:∃ a b,fs=a :: b:=by cases fs with|nil=>exact absurd Ns ae|cons a b=>exact⟨a,b,rfl⟩
   obtain⟨e0,e1,es2,rfl⟩:∃ a b c,es=a :: b :: c:=by
    match es,B2 with
    | [],h=>simp at h
    | [_],h=>simp at h
    | a :: b :: c,_=>exact⟨a,b,c,rfl⟩
   ·simp only[azl,List.getD_cons_succ] at *
    have Vt:gT (tk.take e1) z e0=gT tk fin e0:=by unfold gT;rw[List.getElem?_take,if_pos af,ht0]
    have B8:gT (tk.take e1) z e1=z:=by unfold gT;rw[List.getElem?_take,if_neg af]
    unfold Jr Ik oA;simp only[axJ,axQ,List.mapIdx_cons,List.mapIdx_nil];unfold gD nL oo iM;simp[Vt,B8,hrt,hz2,azm,<- hz,show min e0 e1=e0 by omega]
  have Vo:=vn (uM (tk.take (es.getD 1 0))++z);unfold qg at Vo;rw[Vw] at Vo;simp only[ayE] at Vo;rw[qN,afh,axa,aw2] at Vo;rw[<- Vo];unfold vm;simp only[cond_false];have apR:Cd (aq (tk.take (es.getD 1 0))) (lk nm us (fs.take 1))=none:=Lt fun j hj=>by
   unfold lk;rw[<- Zv,List.map_take,PB,<- List.map_take,Vr 1 af];simp[aq]
  rw[apR];simp only;rw[afP]
def Tr{G:Nat->List AV}{T:az}{f:FuncId} : aI.addr G T (.fn f)=.func (.func f) [] []:=rfl
def YU : (AV.func (.func f) [] []).cU=.func (.func f) [] []:=rfl
def Zg : aO (AV.func (.func f) [] [])=true:=rfl
def Iq(l:List av)(o p:Bool)(H:aa)(hl:l.length<=1000000000000):ai A 40 [.slice (strs l) o,.slice (strs l) p] H=some (.bool true,none):=by
 refine cW alw.eq_1 ?_;simp(disch:=omega)only[dJ,ab,simprocAttr,bu,bne_self_eq_false];refine bK l.length 0 (fun i st=>∃ T g,st=⟨T,H,H.length,g⟩/\T 0=.slice (strs l) o/\T 1=.slice (strs l) p/\T 12=.int .i64 l.length/\T 13=.int .i64 i) (fun st=>∃ T g,st=⟨T,H,H.length,g⟩) (fun _=>False) ?_ ?_ (fun _ h=>h.elim) 0 _ (axh _) ?_
 ·rintro i st hi ⟨T,g,rfl,t0,t1,t12,t13⟩
  by_cases aP:i<l.length
  ·have hx:=gY (aw3 aP)
   simp(disch:=omega)only[dJ,ab,simprocAttr,t0,t1,t12,t13,hx,bne_self_eq_false];exact⟨aP,_,_,rfl,cV t0,cV t1,cV t12,dS⟩
  ·refine qx t12 t13 ?_
   exact⟨_,_,rfl⟩
 ·rintro st ⟨T,g,rfl⟩
  exact sH
 ·exact⟨_,_,rfl,dS,dS,dS,dS⟩
def ajL(l:List Wd)(hl:l.length<=1000000000000)(hf:∀ w∈l,ai A f [.agg (fN w),.agg (fN w)] H=some (.bool true,none)):ai A 118 [.slice (aM l) false,.slice (aM l) false,.func (.func f) [] []] H=some (.bool true,none):=by
 have oc:(aM l).length=l.length:=by exact gF
 refine cW adn.eq_1 ?_;simp(disch:=omega)only[dJ,ab,simprocAttr,oc,bne_self_eq_false];refine bK l.length 0 (fun i st=>∃ T g,st=⟨T,H,H.length,g⟩/\T 1=.slice (aM l) false/\T 2=.func (.func f) [] []/\T 15=.slice (aM l) false/\T 16=.int .i64 l.length/\T 17=.int .i64 i) (fun st=>∃ T g,st=⟨T,H,H.length,g⟩) (fun _=>False) ?_ ?_ (fun _ h=>h.elim) 0 _ (axh _) ?_
 ·rintro i st hi ⟨T,g,rfl,t1,t2,t15,t16,t17⟩
  by_cases aP:i<l.length
  ·have hx:(aM l)[i]?=some (fN l[i]):=by exact X0 (aw3 aP)
   have hc:=hf _ (axn aP);rw[fI] at hx hc;refine l8 t1 t2 t15 t16 t17 (j2 hx hc) ?_;exact⟨aP,_,_,rfl,cV t1,cV t2,cV t15,cV t16,dS⟩
  ·refine qx t16 t17 ?_
   exact⟨_,_,rfl⟩
 ·rintro st ⟨T,g,rfl⟩
  exact sH
 ·exact⟨_,_,rfl,dS,dS,dS,dS,dS⟩
def ajM(l:List Tm)(hl:l.length<=1000000000000)(hf:∀ w∈l,ai A f [.agg (aK w),.agg (aK w)] H=some (.bool true,none)):ai A 119 [.slice (aF l) false,.slice (aF l) false,.func (.func f) [] []] H=some (.bool true,none):=by
 have oc:(aF l).length=l.length:=by exact cx
 refine cW ado.eq_1 ?_;simp(disch:=omega)only[dJ,ab,simprocAttr,oc,bne_self_eq_false];refine bK l.length 0 (fun i st=>∃ T g,st=⟨T,H,H.length,g⟩/\T 1=.slice (aF l) false/\T 2=.func (.func f) [] []/\T 15=.slice (aF l) false/\T 16=.int .i64 l.length/\T 17=.int .i64 i) (fun st=>∃ T g,st=⟨T,H,H.length,g⟩) (fun _=>False) ?_ ?_ (fun _ h=>h.elim) 0 _ (axh _) ?_
 ·rintro i st hi ⟨T,g,rfl,t1,t2,t15,t16,t17⟩
  by_cases aP:i<l.length
  ·have hx:(aF l)[i]?=some (aK l[i]):=by exact BT (aw3 aP)
   have hc:=hf _ (axn aP);rw[aj] at hx hc;refine l8 t1 t2 t15 t16 t17 (j2 hx hc) ?_;exact⟨aP,_,_,rfl,cV t1,cV t2,cV t15,cV t16,dS⟩
  ·refine qx t16 t17 ?_
   exact⟨_,_,rfl⟩
 ·rintro st ⟨T,g,rfl⟩
  exact sH
 ·exact⟨_,_,rfl,dS,dS,dS,dS,dS⟩
def ajK(l:List Fd)(hl:l.length<=1000000000000)(hf:∀ w∈l,ai A f [.agg (dc w),.agg (dc w)] H=some (.bool true,none)):ai A 79 [.slice (l.map dc) false,.slice (l.map dc) false,.func (.func f) [] []] H=some (.bool true,none):=by
 have oc:(l.map dc).length=l.length:=ae;refine cW alI.eq_1 ?_;simp(disch:=omega)only[dJ,ab,simprocAttr,oc,bne_self_eq_false];refine bK l.length 0 (fun i st=>∃ T g,st=⟨T,H,H.length,g⟩/\T 1=.slice (l.map dc) false/\T 2=.func (.func f) [] []/\T 15=.slice (l.map dc) false/\T 16=.int .i64 l.length/\T 17=.int .i64 i) (fun st=>∃ T g,st=⟨T,H,H.length,g⟩) (fun _=>False) ?_ ?_ (fun _ h=>h.elim) 0 _ (axh _) ?_
 ·rintro i st hi ⟨T,g,rfl,t1,t2,t15,t16,t17⟩
  by_cases aP:i<l.length
  ·have hx:(l.map dc)[i]?=some (dc l[i]):=by simp[aP]
   have hc:=hf _ (axn aP);rw[dc] at hx hc;refine l8 t1 t2 t15 t16 t17 (j2 hx hc) ?_;exact⟨aP,_,_,rfl,cV t1,cV t2,cV t15,cV t16,dS⟩
  ·refine qx t16 t17 ?_
   exact⟨_,_,rfl⟩
 ·rintro st ⟨T,g,rfl⟩
  exact sH
 ·exact⟨_,_,rfl,dS,dS,dS,dS,dS⟩
def ajJ(l:List Fm)(hl:l.length<=1000000000000)(hf:∀ w∈l,ai A f [.agg (bJ w),.agg (bJ w)] H=some (.bool true,none)):ai A 77 [.slice (l.map bJ) false,.slice (l.map bJ) false,.func (.func f) [] []] H=some (.bool true,none):=by
 have oc:(l.map bJ).length=l.length:=ae;refine cW alG.eq_1 ?_;simp(disch:=omega)only[dJ,ab,simprocAttr,oc,bne_self_eq_false];refine bK l.length 0 (fun i st=>∃ T g,st=⟨T,H,H.length,g⟩/\T 1=.slice (l.map bJ) false/\T 2=.func (.func f) [] []/\T 15=.slice (l.map bJ) false/\T 16=.int .i64 l.length/\T 17=.int .i64 i) (fun st=>∃ T g,st=⟨T,H,H.length,g⟩) (fun _=>False) ?_ ?_ (fun _ h=>h.elim) 0 _ (axh _) ?_
 ·rintro i st hi ⟨T,g,rfl,t1,t2,t15,t16,t17⟩
  by_cases aP:i<l.length
  ·have hx:(l.map bJ)[i]?=some (bJ l[i]):=by simp[aP]
   have hc:=hf _ (axn aP);rw[bJ] at hx hc;refine l8 t1 t2 t15 t16 t17 (j2 hx hc) ?_;exact⟨aP,_,_,rfl,cV t1,cV t2,cV t15,cV t16,dS⟩
  ·refine qx t16 t17 ?_
   exact⟨_,_,rfl⟩
 ·rintro st ⟨T,g,rfl⟩
  exact sH
 ·exact⟨_,_,rfl,dS,dS,dS,dS,dS⟩
def CS(w:Wd)(h:bD w=true\/w.kids=[])(H:aa):ai A 81 [.agg (fN w),.agg (fN w)] H=some (.bool true,none):=by
 have hk:w.kids.length<=1/\∀ k∈w.kids,bD k=true:=by
  rcases h with h|h
  ·match w,h with
   | .mk n [],_=>exact⟨axh _,fun k hk=>by cases hk⟩
   | .mk n [k],h =>
    unfold bD at h;refine⟨Nat.le_refl _,fun u hu=>?_⟩
    rw[axi.1 hu]
    by_cases hn:n=cz
    ·rwa [if_pos hn] at h
    ·rw[if_neg hn] at h;cases h
   | .mk n (_ :: _ :: _),h=>unfold bD at h;cases h
  ·rw[h];exact⟨axh _,fun k hk=>by cases hk⟩
 have hc:=fun H=>ajL (f:=81) (H:=H) w.kids af fun k hm=>CS k (.inl (hk.2 k hm)) H
 rw[fI];refine cW alK.eq_1 ?_;simp(disch:=omega)only[dJ,ab,simprocAttr,Tr,YU,Zg,hc,ayo]
termination_by SizeOf.sizeOf w
decreasing_by
 cases w with
 | mk n ks =>
  have:=azG (show k∈ks from hm)
  grind
def Ju(t:Tm)(hp:ax t=true)(hl:(ag t).length<=1000000)(H:aa):ai A 82 [.agg (aK t),.agg (aK t)] H=some (.bool true,none):=by
 obtain⟨h1,h2,h3⟩:=abV hp;have fU:=(qR hp).kids;have h4:=Qy fU;have hc:=fun H=>ajM (f:=82) (H:=H) t.kids af fun u hm=>Ju u (fU u hm) (by have:=Qz hm;omega) H
 have hw:=CS (.mk t.wn t.wk) h3;have hn:=fun H=>Iq t.names false false H af
 rw[fI] at hw;simp only[Wd.name,Wd.kids] at hw;rw[aj];refine cW alL.eq_1 ?_;simp(disch:=omega)only[dJ,ab,simprocAttr,Tr,YU,Zg,hc,hw,hn,ayo]
termination_by SizeOf.sizeOf t
decreasing_by exact V6 hm
def Zk{k:Int}(u:Fd)(hp:dP k u=true)(H:aa):ai A 80 [.agg (dc u),.agg (dc u)] H=some (.bool true,none):=by
 have hw:=CS (.mk u.wn u.wk) (.inl (Qj hp).2.1);rw[fI] at hw;simp only[Wd.name,Wd.kids] at hw;unfold dc;refine cW alJ.eq_1 ?_;simp(disch:=omega)only[dJ,ab,simprocAttr,hw,ayo]
def aeW(f:Fm)(h:DfX f)(H:aa):ai A 78 [.agg (bJ f),.agg (bJ f)] H=some (.bool true,none):=by
 have Vq:=h.p;unfold gb at Vq;rw[aw4,aw4] at Vq;obtain⟨⟨p1,p2⟩,p3⟩:=Vq;have qu:=Me (f:=f);have hlen:=h.n;unfold dD at hlen;simp only[List.length_append] at hlen;have hs:=fun H=>ajK (f:=80) (H:=H) f.bI af fun u hm=>Zk u (aw8.1 p2 u hm) H
 have hr:∀ H,ai A 81 [.agg (fN (.mk f.rn f.rk)),.agg (fN (.mk f.rn f.rk))] H=some (.bool true,none):=CS _ (by
  cases hk:decide (f.kind=0) || decide (f.kind=1) with
  | true =>
   rw[hk,cond_true,aw4] at p3;have:=p3.1
   unfold oG at this;rw[aw4] at this;exact .inr (isEmpty_eq this.2)
  | false =>
   rw[hk,cond_false,aw4] at p3;exact .inl p3.1)
 have hb:∀ H,ai A 82 [.agg (aK f.body),.agg (aK f.body)] H=some (.bool true,none):=by
  cases hk:decide (f.kind=0) || decide (f.kind=1) with
  | true =>
   rw[hk,cond_true,aw4] at p3;obtain⟨-,p3⟩:=p3;unfold gG oG at p3;simp only[aw4,axL,ayO] at p3;obtain⟨z1,z2,z3,z4,⟨z5,z6⟩,z7,z8⟩:=p3;have e:f.body=tm0:=by
    cases hf:f.body with
    | mk k n a fd wn wk ks ns =>
     rw[hf] at z1 z2 z3 z4 z5 z6 z7 z8;simp only[Tm.kind,Tm.n,Tm.name,Tm.field,Tm.wn,Tm.wk,Tm.names,Tm.kids] at z1 z2 z3 z4 z5 z6 z7 z8;rw[z1,z2,z3,z4,z5,z6,z7,z8];rfl
   intro H;rw[e];exact Ju tm0 aB aB H
  | false =>
   rw[hk,cond_false,aw4] at p3;simp only[axG,axo] at hk;rw[if_neg af] at hlen;simp only[List.length_append] at hlen;exact Ju _ p3.2 af
 rw[fI] at hr;rw[aj] at hb;simp only[Wd.name,Wd.kids] at hr;unfold bJ;refine cW alH.eq_1 ?_;simp(disch:=omega)only[dJ,ab,simprocAttr,Tr,YU,Zg,hs,hr,hb,ayo]
def abv(s:So)(h:SoX s)(H:aa):ai A 41 [.agg (mz s),.agg (mz s)] H=some (.bool true,none):=by
 have hu:=fun H=>Iq s.gZ false false H (by have:=h.ul;omega)
 have hd:=fun H=>ajJ (f:=78) (H:=H) s.defs (by have:=h.dl;omega) fun f hf=>aeW f (h.d f hf) H
 unfold mz;refine cW alx.eq_1 ?_;simp(disch:=omega)only[dJ,ab,simprocAttr,Tr,YU,Zg,hu,hd,ayo]
def adM(l:List av)(hl:l.length<=1000000000000)(H:aa):ai A 39 [.slice (strs l) false,.slice (strs l) false] H=some (.bool true,none):=by
 have he:=fun H=>Iq l false false H hl
 refine cW alv.eq_1 ?_
 by_cases c:l.length=0
 ·exact ry @bu he c tv
 ·exact ry @bu he c tv
theorem XW(l:List av)(H:aa)(hl:l.length<=1000000):∃ y:List av,(y.length=l.length+1/\∀ s∈y,s.length<=1)/\ai A 44 [.slice (strs l) false] H=some (.sref H.length 0 (l.length+1) 1,some ⟨H++[.bR (y.map .str)],H.length⟩):=by
 have key:∃ r,ai A 44 [.slice (strs l) false] H=some r/\∃ y:List av,(y.length=l.length+1/\∀ s∈y,s.length<=1)/\r=(.sref H.length 0 (l.length+1) 1,some ⟨H++[.bR (y.map .str)],H.length⟩):=by
  refine GH (fn:=age) rfl rfl rfl ?_;unfold age;simp(disch:=omega)only[dJ,ab,simprocAttr,show dG [[AV.str []]]=true from rfl,axw,ayi]
  refine bK (l.length+1) 0 (fun i s=>1<=i/\∃ (T:az) (D:aa) (g:Nat) (y:List av),s=⟨T,D++[.box bz (y.map .str)],H.length,g⟩/\(y.length=i/\∀ s∈y,s.length<=1)/\H.length<=D.length/\D.take H.length=H/\T 0=.slice (strs l) false/\T 3=.sref D.length 0 i 1/\T 4=.int .i64 i)
   (fun s=>∃ (T:az) (D:aa) (g:Nat) (y:List av),s=⟨T,D++[.box bz (y.map .str)],H.length,g⟩/\(y.length=l.length+1/\∀ s∈y,s.length<=1)/\H.length<=D.length/\D.take H.length=H/\T 3=.sref D.length 0 (l.length+1) 1) (fun _=>False) ?_ ?_ ?_ 1 _ af ?_
  ·rintro i s hi ⟨h1i,T,D,g,y,rfl,⟨hy,RZ⟩,hD,hDt,h0,h3,h4⟩
   refine ry h0 h4 @bu ?_;refine ju ?_ ?_<;>intro h
   ·have j6:i<=l.length:=af
    have e2:=gY (aw3 (show i-1<l.length by omega))
    have en:asNat (.int .i64 ((i:Int)-1))=some (i-1):=by rw[gf af];congr 1;omega
    have hlen:(y.map AV.str).length=i*1:=by rw[List.length_map];omega
    have No:decide (D.length<H.length)=false:=df;have hao:=fun (x:av) (os:List aQ) (T0:az) (lo gen:Nat) (Q:AS->Prop)=>OY (A:=A) (T:=T0) (lo:=lo) (gen:=gen) (K:=Q) (os:=os) (t:=64) (H:=D++[.box bz (y.map .str)]) (sz:=1) (bytes:=16) (n:=i) (l:=D.length) (ty:=bz) (cs:=y.map .str) (f:=[[.str x]]) (own:=true) mR hlen iA iA rfl rfl
    have fin:∀ (T' : az) (g' : Nat) (x:av),x.length<=1->T' 0=.slice (strs l) false->T' 3=.sref (D.length+1) 0 (i+1) 1->T' 4=.int .i64 ((i:Int)+1) ->
      i<l.length+1/\∃ (T:az) (D0:aa) (g:Nat) (y' : List av),(⟨T',D++[bG.dead,bG.box bz (y.map .str++[.str x])],H.length,g'⟩:AS)=⟨T,D0++[.box bz (y'.map .str)],H.length,g⟩/\(y'.length=i+1/\∀ s∈y',s.length<=1)/\H.length<=D0.length/\D0.take H.length=H/\T 0=.slice (strs l) false/\T 3=.sref D0.length 0 (i+1) 1/\T 4=.int .i64 ((i+1:Nat):Int):=by
     intro T' g' x hx q0 q3 q4;refine⟨af,T',D++[.dead],g',y++[x],by rw[List.map_append,axf];rfl,⟨by simp[hy],fun s hs=>?_⟩,by rw[List.length_append];omega,by rw[ayF hD,hDt],q0,by rw[q3,List.length_append];rfl,q4⟩
     grind
    generalize l[i-1]'af=a at e2;cases c0:((i:Int)==(l.length:Int)) with
    | true=>(simp(disch:=omega)only[dJ,ab,simprocAttr,h0,h3,h4,en,e2,bu,c0,hao,axw,ayi,No];exact fin _ _ _ ae (cV h0) (dS) (dS))
    | false =>
     have aP:i<l.length:=by
      grind
     have e1:=gY (aw3 aP);generalize l[i]=b at e1;cases c1:(a==[40])<;>cases c2:(a==[91])<;>cases c3:(a==[46])<;>first
      | (simp(disch:=omega)only[dJ,ab,simprocAttr,h0,h3,h4,en,e2,e1,bu,c0,c1,c2,c3,hao,axw,ayi,No];exact fin _ _ _ ae (cV h0) (dS) (dS))
      | (cases c4:(b==[41])<;>cases c5:(b==[93])<;>cases c6:(b==[44])<;>cases c7:(b==[46])<;>(simp(disch:=omega)only[dJ,ab,simprocAttr,h0,h3,h4,en,e2,e1,bu,c0,c1,c2,c3,c4,c5,c6,c7,hao,axw,ayi,No];exact fin _ _ _ ae (cV h0) (dS) (dS)))
   ·refine Ce ?_
    exact⟨_,D,_,y,rfl,⟨af,RZ⟩,hD,hDt,XX h3 (show i=l.length+1 by omega)⟩
  ·rintro s ⟨T,D,g,y,rfl,hy,hD,hDt,h3⟩
   refine P9 h3 ?_;exact⟨_,KC (t:=2) (off:=0) (n:=l.length+1) (z:=1) rfl aB (by simp[az.put]) mR hD OM rfl,y,hy,by rw[ayF hD,hDt]⟩
  ·intro s hs;exact hs.elim
  ·refine Ce ?_
   refine⟨_,H,_,[[]],rfl,⟨rfl,ae⟩,Nat.le_refl _,axz,?_,?_,?_⟩
   all_goals exact dS
 grind
def Sh(l:List av):Prop:=∀ s∈l,s.length<=1100000
theorem iS:Sh []:=by intro s h;cases h
theorem gL{a:av} : Sh (a :: l)↔a.length<=1100000/\Sh l:=by simp[Sh]
theorem nX{a:List av} : Sh (a++b)↔Sh a/\Sh b:=by simp[Sh,or_imp,forall_and]
def sx:∀ {l:List (List av)},(∀ x∈l,Sh x)->Sh (ar l)
 | [],_=>by rw[ar];exact iS
 | [a],h=>by rw[ar];exact h a ae
 | a :: b :: r,h=>by
  rw[ar,nX,nX,gL];exact⟨⟨h a ae,aB,iS⟩,sx fun x hx=>h x (by simp only[axs] at hx ⊢;exact .inr hx)⟩
theorem LY{s:av}(h:s.length<=1100000):Sh (aL s):=by
 have:=pV s
 unfold aL
 grind [gL,iS]
def abA(n:Int):(cD n).1.length<=1100000:=by
 unfold cD;split
 ·decide
 ·exact nw (B:=1100000) aB _
theorem FU:∀ (h:Nat) (w:Wd),F4 h w->Sh (bM w):=by
 have leaf:∀ (n:av) (ks:List Wd),n.length<=1100000->n≠cz->Sh (bM (.mk n ks)):=by
  grind [FT,gL,iS,LY]
 have l0:Sh (bM (.mk cz [])):=by rw[bM]<;>first|exact fun s hs=>by revert s;decide|simp
 intro h
 induction h with
 | zero =>
  rintro ⟨n,ks⟩ ⟨h1,h2⟩
  simp only[Wd.kids,Wd.name] at h1 h2
  grind
 | succ h ih =>
  rintro ⟨n,ks⟩ ⟨h1,h2,h3⟩
  simp only[Wd.kids,Wd.name] at h1 h2 h3
  by_cases hn:n=cz
  ·subst hn
   match ks,h2,h3 with
   | [],_,_=>exact l0
   | [k],_,h3 =>
    have:=ih k (h3 k ae)
    rw[bM]
    grind [nX,gL,iS]
  ·exact leaf n ks h1 hn
theorem aab{p:List av × Int}{k:Int}(h:Sh p.1):Sh (fV p k):=by
 unfold fV
 grind [nX,gL,iS]
def X7:∀ {ns:List av} {tl:List (List av × Int)},(∀ s∈ns,s.length<=1100000)->(∀ p∈tl,Sh p.1)->∀ x∈List.zipWith (fun s (x:List av × Int)=>[s,[61]]++x.1) ns tl,Sh x
 | [],_,_,_,x,hx=>by simp at hx
 | _ :: _,[],_,_,x,hx=>by simp at hx
 | s :: ns,p :: tl,h1,h2,x,hx=>by
  rw[ayU,axs] at hx
  rcases hx with rfl|hx
  ·exact nX.2 ⟨gL.2 ⟨h1 s ae,gL.2 ⟨aB,iS⟩⟩,h2 p ae⟩
  ·exact X7 (fun u hu=>h1 u (yd hu)) (fun q hq=>h2 q (yd hq)) x hx
def O3:∀ {ns:List av} {tl:List (List av × Int)},(∀ s∈ns,s.length<=1100000)->(∀ p∈tl,Sh p.1)->∀ x∈ig ns tl,Sh x
 | p :: q :: ns,y :: ys,h1,h2,x,hx=>by
  rw[ig,axs] at hx
  rcases hx with rfl|hx
  ·exact nX.2 ⟨gL.2 ⟨h1 p ae,gL.2 ⟨h1 q ae,gL.2 ⟨aB,iS⟩⟩⟩,h2 y ae⟩
  ·exact O3 (fun u hu=>h1 u (yd hu)) (fun q hq=>h2 q (yd hq)) x hx
 | [],_,_,_,x,hx=>by simp[ig] at hx
 | [_],_,_,_,x,hx=>by simp[ig] at hx
 | _ :: _ :: _,[],_,_,x,hx=>by simp[ig] at hx
def IW{p:Prop}[Decidable p]{a:List av}(h1:p->Sh a)(h2:¬p->Sh b):Sh (if p then a else b):=by split<;>simp_all
theorem TV{k n:Int}{a f:av}{w:Wd}{ns:List av}{tl:List (List av × Int)}(hn:-2199023255552<=n/\n<=2199023255552)(ha:a.length<=1100000)(hf:f.length<=1100000)(hw:Sh (bM w))(BC:∀ s∈ns,s.length<=1100000)(h:∀ p∈tl,Sh p.1):Sh (fK k n a f w ns tl):=by
 have hq:=LY ha;have hl:Sh (ar (tl.map (·.1))):=sx fun x hx=>by obtain⟨p,hp,rfl⟩:=List.mem_map.1 hx;exact h p hp
 have hz:=sx (X7 BC h);have d1:n<0->(lV (-n).toNat).length<=1100000:=fun h=>by have:=yK (n:=(-n).toNat) af;omega
 have d2:(lV n.toNat).length<=1100000:=by have:=yK (n:=n.toNat) af;omega
 have hs:=abA n;have hk:=fun (p:List av × Int) (h:Sh p.1) k=>aab (k:=k) h
 unfold fK;refine IW (fun _=>IW (fun h=>?_) fun _=>?_) fun _=>IW (fun _=>?_) fun _=>?_
 ·grind [gL,iS]
 ·grind [gL,iS]
 ·split<;>simp only[gL,iS,List.length_cons,List.length_nil,and_self,Nat.reduceAdd,Nat.reduceLeDiff]
 iterate 11 (refine IW (fun _=>?_) fun _=>?_;· first
  | (simp only[nX,gL,iS,cz,hq,hl,hw,ha,List.length_cons,List.length_nil,and_self,Nat.reduceAdd,Nat.reduceLeDiff,hz];done)
  | (split<;>first
   | exact iS
   | (simp only[List.forall_mem_cons] at h BC;simp only[nX,gL,iS,hq,hf,List.length_cons,List.length_nil,and_self,ax',ayV,Nat.reduceAdd,Nat.reduceLeDiff,hk,h,BC,hs];done)
   | (rename_i x ys;have h2:=sx (O3 BC fun p hp=>h p (ax8 _ hp));have h3:=h x ae;simp only[nX,gL,iS,hq,List.length_cons,List.length_nil,and_self,Nat.reduceAdd,Nat.reduceLeDiff,h2,h3])))
 exact iS
def Mk:∀ (h:Nat) (t:Tm),Tj h t->Sh (ag t)
 | 0,t,hb=>by cases hb
 | h+1,t,hb=>by
  have hF:=hb.out;rw[bC];refine TV hF.n hF.a hF.f (FU 3 _ hF.w) hF.nb fun p hp=>?_
  obtain⟨u,hu,rfl⟩:=List.mem_map.1 hp;exact Mk h u (hF.kb u hu)
theorem Rr{k:Int}{u:Fd}(h:FdB u):Sh (bU k u):=by
 have h1:=FU 3 _ h.w;have h2:=h.a;obtain⟨h3,h4⟩:=h.m;have h5:(lV u.jA.toNat).length<=1100000:=by
  have:=xD 19 (u.jA.toNat+1) u.jA.toNat [] af
  unfold lV
  grind
 unfold bU
 grind [nX,gL,iS]
theorem Xl{f:Fm}(h:FmB f):Sh (mf f):=by
 have h1:=FU 3 _ h.w;have h2:=h.a;have h3:=Mk 5 _ h.b;have h4:Sh (ar (f.bI.map (bU f.kind))):=sx fun x hx=>by obtain⟨p,hp,rfl⟩:=List.mem_map.1 hx;exact Rr (h.sb p hp)
 have h5:(cG.getD f.kind.toNat []).length<=1100000:=nw (B:=1100000) aB _;unfold mf;split
 ·unfold dD
  grind [nX,gL,iS]
 ·exact iS
theorem SJ{s:So}(h:SoB s):Sh (de s):=by
 have h1:=h.a;unfold de;split
 ·unfold heads
  refine nX.2 ⟨by simp[gL,iS,h1],fun x hx=>?_⟩
  obtain⟨y,hy,hx⟩:=ay2.1 hx;obtain⟨u,hu,rfl⟩:=List.mem_map.1 hy;have:=h.ub u hu
  grind
 ·exact iS
theorem OC{s:So}(hm:m<=8)(h:MA m s):(de s).length<=100:=by
 have:=h.ul
 unfold de;split
 ·have:∀ l:List av,((l.map fun u=>[[117,115,101],u]).flatten:List av).length=2*l.length:=by
   intro l;induction l with
   | nil=>rfl
   | cons a r ih=>simp only[axe,axw,List.length_append,ih,List.length_cons,List.length_nil];omega
  unfold heads
  grind
 ·simp
theorem Hc(l y:List av)(o:Bool)(H:aa)(hl:l.length<=20000)(hb:Sh l)(hy:y.length<=30000)(kG:Sh y) :
  ∃ t:av,t.length<=66000000000/\ai A 14 [.slice (strs l) o,.slice (strs y) false] H=some (.str t,none):=by
 have key:∃ r,ai A 14 [.slice (strs l) o,.slice (strs y) false] H=some r/\∃ t:av,t.length<=66000000000/\r=(.str t,none):=by
  obtain⟨u,⟨PN,hus⟩,hu⟩:=XW l H af;refine uL (fn:=Z1) rfl rfl rfl ?_;have II:asNat (.int .i64 ((l.length:Int)+1-1))=some l.length:=by rw[gf af];congr 1;omega
  have mB:(u.map AV.str).length=l.length+1:=by rw[List.length_map,PN]
  have B7:(u.map AV.str).take l.length++([AV.str [10]]++(u.map AV.str).drop (l.length+1))=(u.take l.length++[[10]]).map AV.str:=by
   simp_all
  have gP:Sh (u.take l.length++[[10]]):=nX.2 ⟨fun s hs=>axx (hus s (axV hs)) aB,by simp[gL,iS]⟩
  have qu:(u.take l.length++[[10]]).length=l.length+1:=by rw[List.length_append,axO,PN];simp
  refine iC 2 (fun st=>∃ (T:az) (K:aa) (z:List av),st=⟨T,K,H.length,0⟩/\K.take H.length=H/\T 0=.slice (strs l) o/\(T 1=.slice (strs z) false\/(T 1=.sref H.length 0 z.length 1/\K[H.length]?=some (.bR (z.map .str))))/\z.length<=30000/\Sh z/\T 5=.str []) ?_ ?_
  ·unfold Z1
   simp only[aG.pre]
   by_cases hy0:y=[]
   ·subst hy0
    have h0:(((strs []).length:Int)==0)=true:=rfl;refine nM (j4 h0 hu II mB) ?_;refine⟨_,_,u.take l.length++[[10]],rfl,ae,dS,.inr ⟨cV qu,?_⟩,af,gP,dS⟩;rw[<- B7];simp
   ·have h0:((y.length:Int)==0)=false:=by
     simp_all
    refine qx @bu h0 ?_;exact⟨_,H,y,rfl,axz,dS,.inl (dS),hy,kG,dS⟩
  ·rintro st ⟨T,K,z,rfl,hK,e0,e1,hz,hzs,e5⟩
   unfold Z1;simp only[aG.post];have VB:∀ i,i<z.length->((strs z)[i]?=some [.str (z.getD i [])]/\(z.map AV.str)[i]?=some (.str (z.getD i [])))/\(z.getD i []).length<=1100000:=fun i hi=>⟨⟨iu hi,by rw[List.getElem?_map,aw3 hi,getD_at hi];rfl⟩,nw hzs i⟩
   have yZ:decide (H.length<H.length)=false:=ae;refine Ce ?_;refine bK z.length 0 (fun i st=>∃ (T:az) (t:av),st=⟨T,K,H.length,0⟩/\T 0=.slice (strs l) o/\(T 1=.slice (strs z) false\/(T 1=.sref H.length 0 z.length 1/\K[H.length]?=some (.bR (z.map .str))))/\T 6=.int .i64 i/\T 5=.str t/\t.length<=i*2200000)
    (fun st=>∃ (T:az) (t:av),st=⟨T,K,H.length,0⟩/\T 5=.str t/\t.length<=30000*2200000) (fun _=>False) ?_ ?_ (fun _ h=>h.elim) 0 _ af ?_
   ·rintro i st hi ⟨T,t,rfl,q0,q1,q6,q5,ht⟩
    by_cases aP:i<z.length
    ·obtain⟨⟨g1,g2⟩,g3⟩:=VB i aP
     generalize z.getD i []=a at g1 g2 g3;have hm:(i+1)*2200000=i*2200000+2200000:=af;have Mv:i*2200000<=30000*2200000:=axg _ af
     by_cases oc:i<l.length
     ·have g4:=iu oc
      have g5:=nw hb i;generalize l.getD i []=b at g4 g5
      rcases q1 with q1|⟨q1,q2⟩
      ·simp(disch:=omega)only[dJ,ab,simprocAttr,q0,q1,q6,q5,bu,g1,g4,List.length_append,ah]
       refine⟨aP,_,_,rfl,?_,.inl ?_,?_,rfl,?_⟩
       all_goals first|exact Wt q0 q1 tv|(simp only[List.length_append];omega)
      ·simp(disch:=omega)only[dJ,ab,simprocAttr,q0,q1,q2,q6,q5,bu,g2,g4,List.length_append,azn,O5,ah]
       refine⟨aP,_,_,rfl,?_,.inr ?_,?_,rfl,?_⟩
       all_goals first|exact Wt q0 q1 tv|(simp only[List.length_append];omega)
     ·rcases q1 with q1|⟨q1,q2⟩
      ·refine l9 q0 q1 q6 q5 @bu g1 ?_
       refine⟨aP,_,_,rfl,?_,.inl ?_,?_,rfl,?_⟩
       all_goals first|exact Wt q0 q1 tv|(simp only[List.length_append];omega)
      ·refine l9 q0 q1 q2 q6 q5 (j4 @bu g2 @Nat.mul_one @O5) ?_
       refine⟨aP,_,_,rfl,?_,.inr ?_,?_,rfl,?_⟩
       all_goals first|exact Wt q0 q1 tv|(simp only[List.length_append];omega)
    ·have Mv:i*2200000<=30000*2200000:=axg _ af
     rcases q1 with q1|⟨q1,q2⟩<;>simp(disch:=omega)only[dJ,ab,simprocAttr,q1,q6,bu]<;>exact⟨_,t,rfl,cV q5,af⟩
   ·rintro st ⟨T,t,rfl,q5,ht⟩
    refine P9 q5 ?_;exact⟨t,af,rfl⟩
   ·refine⟨_,[],rfl,?_,?_,?_,?_,?_⟩
    ·exact cV e0
    ·rcases e1 with e1|⟨e1,e2⟩
     ·exact .inl (cV e1)
     ·exact .inr ⟨cV e1,e2⟩
    ·exact dS
    ·exact cV e5
    ·simp
 grind
theorem aik{s:So}(hm:m<=8)(hs:MA m s)(H:aa):∃ t:av,t.length<=300000000000/\ai A 5 [.agg (mz s)] H=some (.str t,none):=by
 have key:∃ r,ai A 5 [.agg (mz s)] H=some r/\∃ t:av,t.length<=300000000000/\r=(.str t,none):=by
  have hB:=hs.B hm;have hh:=Xf hB H;have hhl:=OC hm hs;have hsh:=SJ hB;obtain⟨j0,hj0,hj⟩:=Hc (de s) s.head false H af hsh (by have:=hs.hl;omega) hs.hb
  have KT:∀ f∈s.defs,∃ t:av,t.length<=66000000000/\ai A 14 [.slice (strs (mf f)) false,.slice (strs f.layout) false] H=some (.str t,none):=fun f hf=>by
   have hb:=hs.db f hf;exact Hc (mf f) f.layout false H (by have:=HG (hb.B hm);omega) (Xl (hb.B hm)) (by have:=hb.ll;omega) hb.lb
  refine uL (fn:=ir5) rfl rfl rfl ?_;unfold ir5;rw[mz] at hh ⊢;refine nL2 hh hj ?_;refine bK s.defs.length 0 (fun i st=>∃ (T:az) (t:av),st=⟨T,H,H.length,1⟩/\T 1=.lbox 0 [.str s.name,.slice (strs s.gZ) false,.slice (s.defs.map bJ) false,.slice (strs s.head) false,.str s.fin]/\T 4=.int .i64 i/\T 3=.str t/\t.length<=(i+1)*66000000000)
   (fun st=>∃ (T:az) (t:av),st=⟨T,H,H.length,1⟩/\T 1=.lbox 0 [.str s.name,.slice (strs s.gZ) false,.slice (s.defs.map bJ) false,.slice (strs s.head) false,.str s.fin]/\T 3=.str t/\t.length<=4*66000000000) (fun _=>False) ?_ ?_ (fun _ h=>h.elim) 0 _ af ?_
  ·rintro i st hi ⟨T,t,rfl,q1,q4,q3,ht⟩
   have hdl:=hs.dl;have Mv:(i+1)*66000000000<=4*66000000000:=axg _ af
   by_cases aP:i<s.defs.length
   ·have hx:=aw3 aP
    have BB:=axn aP;generalize s.defs[i]=u at hx BB;have ft:=Pp hx;obtain⟨w,hw,hj2⟩:=KT u BB;have hrt:=Jj (hB.db u BB) H;rw[bJ] at ft hrt;refine l9 q1 q4 q3 ft hrt hj2 ?_;refine⟨aP,_,_,rfl,?_,?_,rfl,by rw[List.length_append];omega⟩
    all_goals exact cV q1
   ·refine nL2 q1 q4 ?_
    exact⟨_,t,rfl,cV q1,cV q3,af⟩
  ·rintro st ⟨T,t,rfl,q1,q3,ht⟩
   have hf:=hs.e;refine nL2 q1 q3 ?_
   grind
  ·refine⟨_,j0,rfl,?_,?_,?_,af⟩
   all_goals exact dS
 grind
def cQ(l:av):List (List AV):=l.map fun b=>[.int .u8 b.toNat]
def C7{l:av} : (cQ l).length=l.length:=by simp[cQ]
def GF:∀ l:av,bytesOf (cQ l)=some l
 | []=>rfl
 | b :: l=>by
  have:=GF l
  simp only[cQ] at this;simp only[cQ,axe,bytesOf,this,axa];simp
def C6:∀ l:av,oq (cQ l)=true
 | []=>rfl
 | b :: l=>by
  have:=C6 l
  simp only[oq,cQ] at this;simp only[oq,cQ,axe,List.all_cons,this,axX]
def Bn:∀ l:av,vE (cQ l)=true
 | []=>rfl
 | b :: l=>by
  have:=Bn l
  simp only[vE,cQ] at this;have hb:=azH b;simp only[vE,cQ,axe,List.all_cons,this,axX,aw4,aw'];omega
def TY{l:av} : ∀ r∈cQ l,r.length=1:=fun r hr=>by simp only[cQ,List.mem_map] at hr;obtain⟨n,_,rfl⟩:=hr;rfl
def Gz{a s:av}(h:a.length+s.length<=1000000000):aC true 1 1 (.slice (cQ a) true) (.str s)=some (.slice (cQ (a++s)) true):=by
 have e:(s.map fun (b:UInt8)=>[AV.int .u8 b.toNat])=cQ s:=rfl
 simp only[aC,dN,J9,cond_true,aw7,e];have ha:cQ a++cQ s=cQ (a++s):=by simp[cQ]
 cases s with
 | nil=>simp[cQ]
 | cons b s =>
  have hf:cn 1 1 (cQ a) (cQ (b :: s))=true:=by
   simp only[cn,AE TY,C7,axH (show (a.length+(b :: s).length)*1<=70368744177664 by omega),axH (show a.length+(b :: s).length<=70368744177664 by omega),Bool.and_self]
  have hr:mK true (cQ a++cQ (b :: s))=true:=by rw[ha];exact C6 _
  show (cond (true&&cn 1 1 (cQ a) (cQ (b :: s))&&mK true (cQ a++cQ (b :: s))) (some (AV.slice (cQ a++cQ (b :: s)) true)) none)=_
  rw[hf,hr,ha];rfl
def Bd(n:Nat)(p v:AV)(s:av):Prop:=(p=.kX/\v=.al/\s=[])\/(p=.ref n 0/\v=.slice (cQ s) true)
def adL{B:aa}{ty:TypeId}{cs:List AV} : mc (B.length+1) B.length (B++[.box ty cs])=true:=by
 unfold mc;have h1:(B++[bG.box ty cs]).take (B.length+1)=B++[.box ty cs]:=axy ae;rw[h1];have h2:(B++[bG.box ty cs]).drop B.length=[.box ty cs]:=ae;rw[h2];cases Nat.beq B.length (B.length+1)<;>rfl
def ad2{B:aa}{o:bG} : (B++[o]).take (B.length+1)=B++[o]:=axy ae
def MJ{s:av}(h:s.length<=1000000000):aC true 1 1 (.slice [] true) (.str s)=some (.slice (cQ s) true):=Gz (a:=[]) (cJ h)
def FQ(B:aa)(p v:AV)(s t:av)(hp:Bd B.length p v s)(hl:s.length+t.length<=1000000000):ai A 36 [.ref B.length 0,.str t] (B++[.box 101 [p,v]]) =
  some (.tuple [.int .i64 t.length,.cM],some ⟨B++[.box 101 [.ref B.length 0,.slice (cQ (s++t)) true]],B.length⟩):=by
 refine cW als.eq_1 ?_
 rcases hp with ⟨rfl,rfl,rfl⟩|⟨rfl,rfl⟩
 ·have hc:ai A 75 [.ref B.length 0] (B++[.box 101 [.kX,.al]])=some (.undef,some ⟨B++[.box 101 [.ref B.length 0,.al]],B.length⟩):=by
   refine fC (A:=A) (f:=75) (g:=jK) rfl ?_;simp only[jK,mR,heap_set]
  have a1:=MJ (s:=t) af;rw[axM];simp(disch:=omega)only[dJ,ab,simprocAttr,hc,a1,aV,ad2,adL,Nat.lt_add_one,ayL,cH,cA,axA,axr,ah]
 ·have hc:ai A 75 [.ref B.length 0] (B++[.box 101 [.ref B.length 0,.slice (cQ s) true]])=some (.undef,none):=by
   refine fC (A:=A) (f:=75) (g:=jK) rfl ?_;simp only[jK,mR,ayP,cond_true]
  have a1:=Gz (a:=s) (s:=t) af;simp(disch:=omega)only[dJ,ab,simprocAttr,hc,a1,aV,ad2,adL,Nat.lt_add_one,ayL,cH,cA,axA,axr,ah]
def HR(B:aa)(p:AV)(s:av)(hl:s.length<=1000000000)(hs0:s≠[]):ai A 38 [.ref B.length 0] (B++[.box 101 [p,.slice (cQ s) true]])=some (.str s,none):=by
 refine fC (A:=A) (f:=38) (g:=si) rfl ?_;have he:(!(cQ s).isEmpty)=true:=by cases s with|nil=>exact absurd rfl hs0|cons a r=>rfl
 simp only[si,mR,C7,GF,axa,axH (show s.length<=4611686018427387904 by omega),Bn,he,Bool.and_self,cond_true]
def Ha(h0:0<l.length)(h:0<(l.getD 0 []).length):0<(ij l y l.length).length:=by
 have hm:∀ i,(ij l y 1).length<=(ij l y (i+1)).length:=fun i=>by
  induction i with
  | zero=>exact Nat.le_refl _
  | succ i ih=>rw[mE (i:=i+1),List.length_append];omega
 have h1:=hm (l.length-1);rw[show l.length-1+1=l.length by omega] at h1
 have h2:0<(ij l y 1).length:=by rw[mE,List.length_append,List.length_append];omega
 omega
def KJ{f:Fm}(h:DfX f):0<((dD f).getD 0 []).length:=by
 have e:(dD f).getD 0 []=cG.getD f.kind.toNat []:=by unfold dD;rfl
 obtain⟨k0,k5⟩:=h.k;have:f.kind.toNat=0\/f.kind.toNat=1\/f.kind.toNat=2\/f.kind.toNat=3\/f.kind.toNat=4\/f.kind.toNat=5:=af
 rw[e]
 rcases this with e|e|e|e|e|e<;>rw[e]<;>decide
def zK{s:So}(h:0<(de s).length):0<((de s).getD 0 []).length:=by
 unfold de at h ⊢;split at h
 ·rename_i hc
  rw[if_pos hc]
  show 0<([109,111,100,117,108,101]:av).length
  decide
 ·cases h
def zp : ij l y (l.length+1)=ji l y:=by
 rw[mE,show l.getD l.length []=[] by simp[List.getD]]
 unfold ji;simp
def Qx(l y:List av)(H:aa)(h0:0<l.length)(hl:l.length<=20000)(hb:∀ s∈l,s.length<=8192)(kG:∀ s∈y,s.length<=8192)(hyl:y.length=l.length+1)(hfs:0<(l.getD 0 []).length) :
  ai A 37 [.slice (strs l) false,.slice (strs y) false] H=some (.str (ji l y),none):=by
 have da:((y.length:Int)==0)=false:=ayI.2 af;have hlen:∀ i,i<=y.length->(ij l y i).length<=400000000:=fun i hi=>by
  have h1:=vN hb kG i;have h2:i*(2*8192)<=20001*(2*8192):=axg _ af;omega
 refine cW alu.eq_1 ?_;refine qx @bu da ?_;refine bK y.length 0 (fun i st=>∃ T p v g,st=⟨T,H++[.box 101 [p,v]],H.length,g⟩/\Bd H.length p v (ij l y i)/\T 0=.slice (strs l) false/\T 5=.ref H.length 0/\T 17=.slice (strs y) false/\T 18=.int .i64 y.length/\T 19=.int .i64 i)
  (fun st=>∃ T p v g,st=⟨T,H++[.box 101 [p,v]],H.length,g⟩/\Bd H.length p v (ji l y)/\T 5=.ref H.length 0) (fun _=>False) ?_ ?_ (fun _ h=>h.elim) 0 _ (axh _) ?_
 ·rintro i st hi ⟨T,p,v,g,rfl,hp,t0,t5,t17,t18,t19⟩
  by_cases aP:i<y.length
  ·have Ta:=iu (l:=y) (i:=i) af
   have g2:=nw kG i;have g1:=nw hb i;have hs:=hlen i af;have CB:=FQ H p v (ij l y i) (y.getD i []) hp af
   by_cases hli:i<l.length
   ·have PD:=iu (l:=l) (i:=i) af
    have RU:=FQ H (.ref H.length 0) (.slice (cQ (ij l y i++y.getD i [])) true) (ij l y i++y.getD i []) (l.getD i []) (.inr ⟨rfl,rfl⟩) (by rw[List.length_append];omega)
    rw[axf,<- mE] at RU;generalize y.getD i []=a at *;generalize l.getD i []=b at *;refine l8 t0 t5 t17 t18 (j2 t19 @bu) (j5 Ta PD CB RU @Nat.lt_irrefl) ?_;exact⟨aP,_,_,_,_,rfl,.inr ⟨rfl,rfl⟩,cV t0,cV t5,cV t17,cV t18,dS⟩
   ·obtain rfl:i=l.length:=af
    have e:ij l y (l.length+1)=ij l y l.length++y.getD l.length []:=by rw[zp];rfl
    rw[<- e] at CB;generalize y.getD l.length []=a at *;refine l8 t0 t5 t17 t18 t19 (j4 @bu Ta CB @Nat.lt_irrefl) ?_;exact⟨aP,_,_,_,_,rfl,.inr ⟨rfl,rfl⟩,cV t0,cV t5,cV t17,cV t18,dS⟩
  ·obtain rfl:i=l.length+1:=af
   rw[zp] at hp;refine wK t18 t19 hyl @Nat.lt_irrefl ?_;exact⟨_,_,_,_,rfl,hp,cV t5⟩
 ·rintro st ⟨T,p,v,g,rfl,hp,t5⟩
  have hx:=Ha (y:=y) h0 hfs;have da:ji l y≠[]:=fun h=>by
   have:=ayj List.length h
   unfold ji at this;simp only[List.length_append,List.length_nil] at this;omega
  have ZY:=hlen (l.length+1) af;rw[zp] at ZY
  rcases hp with ⟨-, -,h⟩|⟨rfl,rfl⟩
  ·exact absurd h da
  ·have hs:=HR H (.ref H.length 0) (ji l y) af da
   exact qx t5 hs tv
 ·exact⟨_,_,_,_,rfl,.inl ⟨rfl,rfl,rfl⟩,dS,dS,dS,dS,dS⟩
def PZ(hl:l.length<=8192)(hb:∀ s∈l,s.length<=8192)(kG:∀ s∈y,s.length<=8192){i:Nat}(hi:i<=l.length+1):(ij l y i).length<=140000000:=by
 have h1:=vN hb kG i;have h2:i*(2*8192)<=8193*(2*8192):=axg _ af;omega
theorem agE{s:So}(hb:SoX s)(H:aa):ai A 9 [.agg (mz s)] H=some (.str (iI s),none):=by
 have ht:=DC s.name s.gZ (.slice (s.defs.map bJ) false) (.slice (strs s.head) false) (.str s.fin) hb.a hb.ul hb.ub (H++[.box 32 (mz s)]) rfl rfl rfl rfl rfl rfl;have hdl:=hb.dl;have B2:=hb.e;have hhn:=hb.hn;have hhl:=hb.l;have aku:∀ i,(fq (s.defs.take i)).length<=8192*140000000:=fun i=>by
  have h1:=GO (l:=s.defs.take i) fun f hf=>hb.d f (axV hf)
  grind
 have uY:=Hb hb.hn hb.hb hb.lb;rw[mz] at ht ⊢;have Np:(H++[bG.box 32 [.str s.name,.slice (strs s.gZ) false,.slice (s.defs.map bJ) false,.slice (strs s.head) false,.str s.fin]])[H.length]?=some (.box 32 [.str s.name,.slice (strs s.gZ) false,.slice (s.defs.map bJ) false,.slice (strs s.head) false,.str s.fin]):=mR;have qN:(H++[bG.box 32 [.str s.name,.slice (strs s.gZ) false,.slice (s.defs.map bJ) false,.slice (strs s.head) false,.str s.fin]]).take H.length=H:=G1;have hrh:de ⟨s.name,s.gZ,[],[],[]⟩=de s:=rfl;rw[hrh] at ht;obtain⟨R,hR⟩:∃ R,R=de s:=⟨_,rfl⟩;have hRb:=hb.hb;rw[<- hR] at ht hhn hhl uY hRb;generalize hK:H++[bG.box 32 [.str s.name,.slice (strs s.gZ) false,.slice (s.defs.map bJ) false,.slice (strs s.head) false,.str s.fin]]=K at ht Np qN;refine cW ir9.eq_1 ?_;simp(disch:=omega)only[dJ,ab,simprocAttr,hK,ht];refine bK s.head.length 0 (fun i st=>∃ T g,st=⟨T,K,H.length,g⟩/\T 1=.ref H.length 0/\T 3=.str (ij R s.head i)/\T 4=.slice (strs R) true/\T 5=.int .i64 i)
  (fun st=>∃ T g,st=⟨T,K,H.length,g⟩/\T 1=.ref H.length 0/\T 3=.str (ji R s.head)) (fun _=>False) ?_ ?_ (fun _ h=>h.elim) 0 _ (axh _) ?_
 ·rintro i st hi ⟨T,g,rfl,t1,t3,t4,t5⟩
  by_cases aP:i<s.head.length
  ·have Ta:=iu (l:=s.head) (i:=i) af
   have g2:=nw hb.lb i;have hj:=PZ hhn hRb hb.lb (i:=i) af;have e:=mE (l:=R) (lay:=s.head) (i:=i)
   by_cases hli:i<R.length
   ·have PD:=iu (l:=R) (i:=i) af
    have g1:=nw hRb i;rw[<- axf] at e;have hj2:(ij R s.head i++s.head.getD i []).length<=150000000:=by rw[List.length_append];omega
    generalize s.head.getD i []=a at *;generalize R.getD i []=b at *;simp(disch:=omega)only[dJ,ab,simprocAttr,t1,t3,t4,t5,bu,Np,Ta,PD,ah];refine⟨aP,_,_,rfl,cV t1,?_,cV t4,dS⟩;rw[e];exact dS
   ·obtain rfl:i=R.length:=af
    rw[show R.getD R.length []=[] by simp[List.getD],List.append_nil] at e
    generalize s.head.getD R.length []=a at *;simp(disch:=omega)only[dJ,ab,simprocAttr,t1,t3,t4,t5,bu,Np,Ta,ah,ayL];refine⟨aP,_,_,rfl,cV t1,?_,cV t4,dS⟩;rw[e];exact dS
  ·obtain rfl:i=R.length+1:=af
   rw[zp] at t3;simp(disch:=omega)only[dJ,ab,simprocAttr,t1,t5,bu,Np,ah];exact⟨_,_,rfl,cV t1,cV t3⟩
 ·rintro st ⟨T,g,rfl,t1,t3⟩
  obtain⟨J,hJ⟩:∃ J,J=ji R s.head:=⟨_,rfl⟩;rw[<- hJ] at t3 uY;simp(disch:=omega)only[dJ,ab,simprocAttr];refine bK s.defs.length 2 (fun i st=>∃ T g,st=⟨T,K,H.length,g⟩/\T 1=.ref H.length 0/\T 6=.int .i64 i/\T 3=.str (J++fq (s.defs.take i)))
   (fun st=>∃ T g,st=⟨T,K,H.length,g⟩/\T 1=.ref H.length 0/\T 3=.str (J++fq s.defs)) (fun _=>False) ?_ ?_ (fun _ h=>h.elim) 0 _ (axh _) ?_
  ·rintro i st hi ⟨T,g,rfl,t1,t6,t3⟩
   by_cases aP:i<s.defs.length
   ·have hx:=aw3 aP
    have hm:=axn aP;have mD:=jD hx;generalize s.defs[i]=u at hx hm mD;have ft:=Pp hx;have hu:=hb.d u hm;have oy:=hu.n;have PN:=hu.l;have BE:=Ba hu.k hu.p af K;have hds:=aku i;have jm:J++fq (s.defs.take i)++ji (dD u) u.layout=J++fq (s.defs.take (i+1)):=by rw[mD,xA,axf];rfl
    have hlJ:(J++fq (s.defs.take i)).length<=2000000000000:=by rw[List.length_append];omega
    rw[bJ] at ft BE;generalize J++fq (s.defs.take i)=acc at t3 jm hlJ;obtain⟨R2,hR2⟩:∃ R2,R2=dD u:=⟨_,rfl⟩;have ae3:=hu.b;rw[<- hR2] at BE oy PN jm ae3;simp(disch:=omega)only[dJ,ab,simprocAttr,t1,t6,t3,Np,ft,BE,ah,List.length_map];refine bK u.layout.length 4 (fun j st=>∃ T g,st=⟨T,K,H.length,g⟩/\T 1=.ref H.length 0/\T 6=.int .i64 i/\T 3=.str (acc++ij R2 u.layout j)/\T 7=.slice (strs R2) true/\T 8=.int .i64 j)
     (fun st=>∃ T g,st=⟨T,K,H.length,g⟩/\T 1=.ref H.length 0/\T 6=.int .i64 i/\T 3=.str (acc++ji R2 u.layout)) (fun _=>False) ?_ ?_ (fun _ h=>h.elim) 0 _ (axh _) ?_
    ·rintro j st hj ⟨T,g,rfl,t1,t6,t3,t7,t8⟩
     by_cases hjt:j<u.layout.length
     ·have Ta:=iu (l:=u.layout) (i:=j) af
      have g2:=nw hu.lb j;have hjb:=PZ oy ae3 hu.lb (i:=j) af;have e:=mE (l:=R2) (lay:=u.layout) (i:=j);have hab:(acc++ij R2 u.layout j).length<=2100000000000:=by rw[List.length_append];omega
      by_cases hli:j<R2.length
      ·have PD:=iu (l:=R2) (i:=j) af
       have g1:=nw ae3 j;rw[<- axf] at e;have e2:acc++ij R2 u.layout (j+1)=acc++ij R2 u.layout j++u.layout.getD j []++R2.getD j []:=by rw[e];simp only[axf]
       generalize acc++ij R2 u.layout j=w at *;have hj2:(w++u.layout.getD j []).length<=2200000000000:=by rw[List.length_append];omega
       generalize u.layout.getD j []=a at *;generalize R2.getD j []=b at *;refine l9 t1 t3 t6 t7 t8 (j5 @bu Np ft Ta PD) ?_;refine⟨hjt,_,_,rfl,cV t1,cV t6,?_,cV t7,dS⟩;rw[e2];exact dS
      ·obtain rfl:j=R2.length:=af
       rw[show R2.getD R2.length []=[] by simp[List.getD],List.append_nil] at e
       have e2:acc++ij R2 u.layout (R2.length+1)=acc++ij R2 u.layout R2.length++u.layout.getD R2.length []:=by rw[e];simp only[axf]
       generalize acc++ij R2 u.layout R2.length=w at *;generalize u.layout.getD R2.length []=a at *;refine l9 t1 t3 t6 t7 t8 (j5 @bu Np ft Ta @Nat.lt_irrefl) ?_;refine⟨hjt,_,_,rfl,cV t1,cV t6,?_,cV t7,dS⟩;rw[e2];exact dS
     ·obtain rfl:j=R2.length+1:=af
      rw[zp] at t3;refine l9 t1 t6 t8 @bu Np ft ?_;exact⟨_,_,rfl,cV t1,cV t6,cV t3⟩
    ·rintro st ⟨T,g,rfl,t1,t6,t3⟩
     rw[jm] at t3;refine P9 t6 ?_;exact⟨aP,_,_,rfl,cV t1,dS,cV t3⟩
    ·refine⟨_,_,rfl,cV t1,cV t6,?_,dS,dS⟩
     rw[show ij R2 u.layout 0=[] from rfl,List.append_nil]
     exact cV t3
   ·rw[axy af] at t3
    simp(disch:=omega)only[dJ,ab,simprocAttr,t1,t6,Np,ah,List.length_map];exact⟨_,_,rfl,cV t1,cV t3⟩
  ·rintro st ⟨T,g,rfl,t1,t3⟩
   have hds:=aku s.defs.length;rw[axz] at hds;have e:iI s=J++fq s.defs++s.fin:=by unfold iI;rw[hJ,hR]
   rw[e];have hlJ:(J++fq s.defs).length<=2000000000000:=by rw[List.length_append];omega
   generalize J++fq s.defs=acc at t3 hlJ;exact nL4 t1 t3 Np qN tv
  ·refine⟨_,_,rfl,cV t1,dS,?_⟩
   rw[show fq (s.defs.take 0)=[] from rfl,List.append_nil]
   exact cV t3
 ·exact⟨_,_,rfl,dS,(by rw[show ij R s.head 0=[] from rfl];exact dS),dS,dS⟩
def vY(args:List AV)(H:aa):Option (AV × Option fw) :=
 match args with
 | [.str s]=>cond (Nat.ble s.length 4611686018427387904) (some (.tuple [.agg (mz (gW s).1),.int .i64 (gW s).2],none)) none
 | _=>none
def CL(args:List AV)(H:aa):Option (AV × Option fw) :=
 match args,H with
 | [],[]=>some (.bool true,none)
 | _,_=>none
def aeU:FuncId->Option aD
 | 3=>some ir3
 | 10=>some ali
 | _=>none
def ov9:FuncId->Option (List AV->aa->Option (AV × Option fw))
 | 3=>none
 | 10=>none
 | 7=>some vY
 | 8=>some CL
 | f=>some (ai A f)
def A9:AP:={ fns:=aeU,ov:=ov9,aX:=BS }
def c9(h:A9.ov f=some (ai A f)){args:List AV}{r:AV × Option fw}(hr:ai A f args H=some r)(hn:args.all vX=true:=by rfl):ai A9 f args H=some r:=fC (g:=ai A f) h hr hn
def agJ:ai A9 8 [] []=some (.bool true,none):=fC (g:=CL) rfl rfl
def WL{s:av}(hs:s.length<=4611686018427387904)(H:aa):ai A9 7 [.str s] H=some (.tuple [.agg (mz (gW s).1),.int .i64 (gW s).2],none) :=
 fC (g:=vY) rfl (by simp only[vY,axH hs,cond_true])
def V1(h0:0<l.length)(hfs:0<(l.getD 0 []).length):0<(ji l y).length:=by
 have:=Ha (y:=y) h0 hfs
 unfold ji;rw[List.length_append];omega
def QD{s:So}(hb:SoX s)(hp:gW (iI s)=(s, -1))(hml:(iI s).length<=8192)(H:aa):ai A9 10 [.agg (mz s)] H=some (.bool true,none):=by
 have ht:=fun H=>c9 (H:=H) rfl (DC s.name s.gZ (.slice (s.defs.map bJ) false) (.slice (strs s.head) false) (.str s.fin) hb.a hb.ul hb.ub H rfl rfl rfl rfl rfl rfl)
 have PI:=fun H=>c9 (H:=H) rfl (abv s hb H)
 have ap1:=fun H=>c9 (H:=H) rfl (adM s.head (by have:=hb.l;have:=hb.hn;omega) H)
 have hdl:=hb.dl;have B2:=hb.e;have hh0:=hb.h0;have hhn:=hb.hn;have hhl:=hb.l;have Pv:∀ i,(ji (de s) s.head++fq (s.defs.take i)).length<=8192:=fun i=>by
  have h1:(fq s.defs).length=(fq (s.defs.take i)).length+(fq (s.defs.drop i)).length:=by
   rw[<- List.length_append];unfold fq;rw[<- List.flatten_append,<- List.map_append,axW]
  unfold iI at hml;simp only[List.length_append] at hml ⊢;omega
 have hrh:de ⟨s.name,s.gZ,[],[],[]⟩=de s:=rfl;simp only[hrh] at ht;obtain⟨b,hbd⟩:∃ b,b=bG.box 32 [.str s.name,.slice (strs s.gZ) false,.slice (s.defs.map bJ) false,.slice (strs s.head) false,.str s.fin]:=⟨_,rfl⟩;have Np:∀ o,(H++[b,o])[H.length]?=some (.box 32 [.str s.name,.slice (strs s.gZ) false,.slice (s.defs.map bJ) false,.slice (strs s.head) false,.str s.fin]):=fun o=>by rw[hbd];exact h2a
 have vK:bN (some b) false 1 3=some (.slice (strs s.head) false):=by rw[hbd];rfl
 have hBt:∀ o,(H++[b,o]).take H.length=H:=fun o=>h2t
 have ZR:=fun K=>c9 (H:=K) rfl (Qx (de s) s.head K hh0 af hb.hb hb.lb hhl (zK hh0))
 have FW:=Pv 0;rw[show fq (s.defs.take 0)=[] from rfl,List.append_nil] at FW
 have hJp:=V1 (y:=s.head) hh0 (zK hh0);obtain⟨J,hJ⟩:∃ J,J=ji (de s) s.head:=⟨_,rfl⟩;rw[<- hJ] at ZR FW hJp;simp only[<- hJ] at Pv;have hw:∀ (p v:AV) (x y:av),Bd (H.length+1) p v x->x.length+y.length<=1000000000->ai A9 36 [.ref (H.length+1) 0,.str y] (H++[b,.box 101 [p,v]])=some (.tuple [.int .i64 y.length,.cM],some ⟨H++[b,.box 101 [.ref (H.length+1) 0,.slice (cQ (x++y)) true]],H.length+1⟩):=fun p v x y hp hl=>by
  have h:=c9 rfl (FQ (H++[b]) p v x y (by rw[List.length_append];exact hp) hl)
  simpa using h
 have gP:∀ x:av,x.length<=1000000000->x≠[]->ai A9 38 [.ref (H.length+1) 0] (H++[b,.box 101 [.ref (H.length+1) 0,.slice (cQ x) true]])=some (.str x,none):=fun x hl hx=>by
  have h:=c9 rfl (HR (H++[b]) (.ref (H.length+1) 0) x hl hx)
  simpa using h
 have Gl:=hw .kX .al [] J (.inl ⟨rfl,rfl,rfl⟩) (by rw[List.length_nil];omega)
 rw[axM] at Gl;have NA:iI s=J++fq s.defs++s.fin:=by unfold iI;rw[hJ]
 have hmp:iI s≠[]:=fun h=>by
  have:=ayj List.length h
  rw[NA] at this;simp only[List.length_append,List.length_nil] at this;omega
 have Vo:=fun K=>WL (s:=iI s) af K
 rw[hp] at Vo;rw[mz] at PI Vo ⊢;refine cW ali.eq_1 ?_;refine iC 2 (fun st=>∃ T g,st=⟨T,H++[b,.box 101 [.ref (H.length+1) 0,.slice (cQ J) true]],H.length,g⟩/\T 1=.ref H.length 0/\T 3=.ref (H.length+1) 0) ?_ ?_
 ·simp only[aG.pre]
  simp(disch:=omega)only[dJ,ab,simprocAttr,<- hbd,ht,ZR,Gl,Np,vK,ah];exact⟨_,_,rfl,dS,dS⟩
 rintro st ⟨T,g,rfl,t1,t3⟩
 simp only[aG.post];simp(disch:=omega)only[dJ,ab,simprocAttr,t1,Np,vK,ah,List.length_map];refine bK s.defs.length 0 (fun i st=>∃ T g,st=⟨T,H++[b,.box 101 [.ref (H.length+1) 0,.slice (cQ (J++fq (s.defs.take i))) true]],H.length,g⟩/\T 1=.ref H.length 0/\T 3=.ref (H.length+1) 0/\T 18=.slice (s.defs.map bJ) false/\T 19=.int .i64 s.defs.length/\T 20=.int .i64 i)
  (fun st=>∃ T g,st=⟨T,H++[b,.box 101 [.ref (H.length+1) 0,.slice (cQ (J++fq s.defs)) true]],H.length,g⟩/\T 1=.ref H.length 0/\T 3=.ref (H.length+1) 0) (fun _=>False) ?_ ?_ (fun _ h=>h.elim) 0 _ (axh _) ?_
 ·rintro i st hi ⟨T,g,rfl,t1,t3,t18,t19,t20⟩
  by_cases aP:i<s.defs.length
  ·have hx:=aw3 aP
   have hm:=axn aP;have mD:=jD hx;generalize s.defs[i]=u at hx hm mD;have ft:=Pp hx;have hu:=hb.d u hm;have oy:=hu.n;have h3:=Rz (f:=u);have BE:=fun K=>c9 (H:=K) rfl (Ba hu.k hu.p af K)
   have hxt:=fun K=>c9 (H:=K) rfl (Qx (dD u) u.layout K af af hu.b hu.lb hu.l (KJ hu))
   have jm:J++fq (s.defs.take i)++ji (dD u) u.layout=J++fq (s.defs.take (i+1)):=by rw[mD,xA,axf];rfl
   have PD:=Pv (i+1);rw[<- jm,List.length_append] at PD;have RV:=hw (.ref (H.length+1) 0) (.slice (cQ (J++fq (s.defs.take i))) true) (J++fq (s.defs.take i)) (ji (dD u) u.layout) (.inr ⟨rfl,rfl⟩) af;rw[jm] at RV;rw[bJ] at ft BE;refine l8 t3 t18 t19 t20 ft (j3 BE hxt RV) ?_;exact⟨aP,_,_,rfl,cV t1,cV t3,cV t18,cV t19,dS⟩
  ·rw[axy af]
   refine qx t19 t20 ?_;exact⟨_,_,rfl,cV t1,cV t3⟩
 ·rintro st ⟨T,g,rfl,t1,t3⟩
  have hJd:=Pv s.defs.length;rw[axz] at hJd;have hwf:=hw (.ref (H.length+1) 0) (.slice (cQ (J++fq s.defs)) true) (J++fq s.defs) s.fin (.inr ⟨rfl,rfl⟩) af;rw[<- NA] at hwf;have hsx:=gP (iI s) af hmp;generalize iI s=M at *;obtain⟨K,hK⟩:∃ K,K=H++[b,.box 101 [.ref (H.length+1) 0,.slice (cQ M) true]]:=⟨_,rfl⟩;have hKb:=Np (.box 101 [.ref (H.length+1) 0,.slice (cQ M) true]);have hKt:=hBt (.box 101 [.ref (H.length+1) 0,.slice (cQ M) true]);rw[<- hK] at hwf hsx hKb hKt;have hKl:K.length=H.length+2:=by rw[hK];simp
  simp(disch:=omega)only[dJ,ab,simprocAttr,t1,t3,Np,vK,hwf,hsx,Vo,hKb,PI,ap1,ah,bne_self_eq_false,List.length_map];refine bK s.defs.length 2 (fun i st=>∃ T g lo,st=⟨T,K,lo,g⟩/\lo=H.length/\(∃ q,T 6=.lbox q [.str s.name,.slice (strs s.gZ) false,.slice (s.defs.map bJ) false,.slice (strs s.head) false,.str s.fin])/\T 8=.func (.func 39) [] []/\T 64=.slice (s.defs.map bJ) false/\T 65=.int .i64 s.defs.length/\T 66=.int .i64 i)
   (fun st=>∃ T g,st=⟨T,K,H.length,g⟩) (fun _=>False) ?_ ?_ (fun _ h=>h.elim) 0 _ (axh _) ?_
  ·rintro i st hi ⟨T,g,lo,rfl,rfl,⟨q,t6⟩,t8,t64,t65,t66⟩
   by_cases aP:i<s.defs.length
   ·have hx:=aw3 aP
    have hm:=axn aP;generalize s.defs[i]=u at hx hm;have ft:=Pp hx;have hu:=hb.d u hm;have oy:=hu.n;have PN:=hu.l;have hoi:=fun K=>c9 (H:=K) rfl (adM u.layout af K)
    rw[bJ] at ft;refine l8 t6 t8 t64 t65 t66 (j2 ft hoi) ?_;exact⟨aP,_,_,_,rfl,rfl,⟨q,cV t6⟩,cV t8,cV t64,cV t65,dS⟩
   ·refine qx t65 t66 ?_
    exact⟨_,_,rfl⟩
  ·rintro st ⟨T,g,rfl⟩
   exact P9 hKt tv
  ·exact⟨_,_,_,rfl,rfl,⟨g,dS⟩,cV @Tr,dS,dS,dS⟩
 ·have e0:J++fq (s.defs.take 0)=J:=by rw[show fq (s.defs.take 0)=[] from rfl,List.append_nil]
  rw[e0];exact⟨_,_,rfl,cV t1,cV t3,dS,dS,dS⟩
def Xx:∀ (m:Nat) (r:av) (off:Nat),r.length<=m->(dK r off).2.2=-1\/∃ n:Nat,(dK r off).2.2=(n:Int)/\n<=off+r.length:=by
 intro m
 induction m with
 | zero =>
  intro r off h;have:r=[]:=List.eq_nil_of_length_eq_zero af
  subst this;left;rw[dK,if_pos (show bt false []=([]:av).length from rfl)]
 | succ m ih =>
  intro r off h;have k1:=mg false r;rw[dK];split
  ·exact .inl rfl
  ·split
   ·exact .inr ⟨off+bt false r,rfl,af⟩
   ·rename_i h1 h2
    have k2:=wz (r.drop (bt false r));simp only;split
    ·exact .inl rfl
    ·rcases ih (r.drop (bt false r+fW (r.drop (bt false r)))) (off+(bt false r+fW (r.drop (bt false r)))) (by rw[axD];omega) with h3|⟨n,h3,h4⟩
     ·rename_i hx;exact absurd h3 hx
     ·refine .inr ⟨n,h3,?_⟩
      simp only[axD] at h4 k2;omega
def LI{s:av}(h:(gW s).2≠-1):∃ n:Nat,(gW s).2=(n:Int)/\n<=s.length/\(gW s).1.defs=[]:=by
 have hp:=vn s;unfold qg at hp
 by_cases hs:(bO s).2.2=-1
 ·rw[if_pos hs,aw0] at hp
  obtain⟨q,hq,he⟩:=hp;have gI:∀ i,nE (iv (bO s).1) i s.length<=s.length:=fun i=>by
   obtain⟨-,hc, -⟩:=A3 hs;have h1:=ayj List.length hc;rw[List.length_append,<- AM] at h1;unfold nE;split
   ·rename_i t ht
    have h2:gu (iv (bO s).1)=gu ((iv (bO s).1).take i++t :: (iv (bO s).1).drop (i+1)):=by
     obtain⟨aP,e⟩:=aw5.1 ht;rw[<- e,<- axk aP,axW]
    rw[pJ] at h2;have h3:t.2.length<=gu (t :: (iv (bO s).1).drop (i+1)):=by unfold gu;omega
    omega
   ·exact Nat.le_refl _
  unfold vm at he;cases hb:q.2.bad with
  | true=>rw[hb,cond_true] at he;rw[<- he];exact⟨_,rfl,gI _,rfl⟩
  | false =>
   rw[hb,cond_false] at he;cases hm:Cd (aq (iv (bO s).1)) (lk q.1.1 q.1.2.1 q.1.2.2.1) with
   | some i=>rw[hm] at he;rw[<- he];exact⟨_,rfl,gI _,rfl⟩
   | none=>rw[hm] at he;rw[<- he] at h;exact absurd rfl h
 ·rw[if_neg hs,aw2] at hp
  rw[<- hp];unfold bO at hs ⊢;split
  ·exact⟨8192,rfl,af,rfl⟩
  ·rename_i h8
   rw[if_neg h8] at hs;rcases Xx s.length s 0 (Nat.le_refl _) with h1|⟨n,h1,h2⟩
   ·exact absurd h1 hs
   ·exact⟨n,h1,af,rfl⟩
def ajG{s:So}(h:SoX s):SoX (Ik s) :=
 ⟨h.a,h.ul,h.ub,h.h0,h.hn,h.hb,h.l,h.lb,by show (s.defs.take 1).length<=8192;rw[axO];omega,fun f hf=>h.d f (axV hf),axh _⟩
def YT{s:So} : (iI (Ik s)).length<=(iI s).length:=by
 have h1:(fq s.defs).length=(fq (s.defs.take 1)).length+(fq (s.defs.drop 1)).length:=by
  rw[<- List.length_append];unfold fq;rw[<- List.flatten_append,<- List.map_append,axW]
 unfold iI Ik
 show (ji (de s) s.head++fq (s.defs.take 1)++[]).length<=_
 simp only[List.length_append,List.length_nil];omega
def alU(l:List Int)(a h b:Int)(hl:∀ n∈l,CU n)(ha:CU a)(hh:CU h)(hb:CU b) :
  ai A9 3 [.slice (ints l) false,.int .i64 a,.int .i64 h,.int .i64 b] []=some (.bool true,none):=by
 obtain⟨so,FZ,h5⟩:=Xs l hl [];obtain⟨s0,aqd,h4⟩:=aik af FZ [];obtain⟨_,h6,s,qu,rfl⟩:=Q6 s0 a h b [] af ha hh hb;have hsL:s.length<=1000000000000:=af;clear qu aqd;have hp:=WL (s:=s) af []
 replace h5:=c9 rfl h5
 replace h4:=c9 rfl h4
 replace h6:=c9 rfl h6
 have hv:=agJ;rw[mz] at h5 h4 hp;refine cW ir3.eq_1 ?_
 by_cases c1:(gW s).2=-1
 ·obtain⟨⟨hX,hM⟩,afh⟩:=Sq c1
  have hs8:s.length<=8192:=(A3 (Hz c1).1).1;have Vd:=c9 rfl (agE hX []);have hva:=QD hX (by rw[hM];exact Prod.ext rfl c1) (by rw[hM];exact hs8) []
  rw[hM] at Vd;rw[mz] at Vd hva;have NJ:=fun h=>QD (ajG hX) (afh h) (axx YT (by rw[hM];exact hs8)) []
  unfold Ik mz at NJ;simp only[List.map_take] at NJ;generalize (gW s).1=S at *
  by_cases c2:2<=S.defs.length
  ·have NJ:=NJ c2
   simp(disch:=omega)only[dJ,ab,simprocAttr,h5,h4,h6,hp,c1,Vd,hva,NJ,hv,iU,List.length_map,ayo]
  ·simp(disch:=omega)only[dJ,ab,simprocAttr,h5,h4,h6,hp,c1,Vd,hva,hv,List.length_map,ayo]
 ·obtain⟨n,e,hn,hd⟩:=LI c1
  have da:(((n:Int))==-1)=false:=by rw[<- e];exact ayI.2 c1
  rw[hd,e] at hp;simp(disch:=omega)only[dJ,ab,simprocAttr,h5,h4,h6,hp,da,hv,axB,List.length_nil]
def xf:Nat->av->Nat->List Tok × av × Int
 | 0,_,_=>([],[],0)
 | n+1,r,off =>
  bif Nat.beq (bt false r) r.length then ([],r, -1)
  else bif Nat.beq (fW (r.drop (bt false r))) 0 then ([],[],((off+bt false r:Nat):Int))
  else
   let x:=xf n (r.drop (bt false r+fW (r.drop (bt false r)))) (off+(bt false r+fW (r.drop (bt false r))))
   bif decide (x.2.2=-1) then (⟨(r.drop (bt false r)).take (fW (r.drop (bt false r))),r.take (bt false r)⟩ :: x.1,x.2.1, -1) else ([],[],x.2.2)
theorem L6:∀ (n:Nat) (r:av) (off:Nat),r.length<n->xf n r off=dK r off
 | 0,_,_,h=>by omega
 | n+1,r,off,h=>by
  rw[dK,xf]
  by_cases h1:bt false r=r.length
  ·simp_all
  ·have e1:Nat.beq (bt false r) r.length=false:=by rw[<- aze,aza];exact h1
   rw[if_neg h1,e1,cond_false]
   by_cases h2:fW (r.drop (bt false r))=0
   ·rw[dif_pos h2,h2];rfl
   ·have e2:Nat.beq (fW (r.drop (bt false r))) 0=false:=by rw[<- aze,aza];exact h2
    rw[dif_neg h2,e2,cond_false];have h3:=mg false r;rw[L6 n _ _ (by rw[axD];omega)]
    grind
end Go.Proofs.YtkoebdjmmgckdaaGreatDoor
end
