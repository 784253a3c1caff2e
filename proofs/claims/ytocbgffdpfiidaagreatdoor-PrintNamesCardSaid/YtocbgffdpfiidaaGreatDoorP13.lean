/-
  A part of the proof of PrintNames: S35, S36, S37, S43, S44, SP1, SP2, SK, SL1, SN1, SN2, SL2.
-/
import Derived.Test.YtocbgffdpfiidaaGreatDoorP12
set_option linter.unusedSimpArgs false
set_option linter.unusedVariables false
set_option linter.defProp false
set_option maxHeartbeats 1000000
set_option maxRecDepth 100000
namespace Go.Proofs.YtocbgffdpfiidaaGreatDoor
open Go Go.Abs Go.Proofs
structure He (m:Nat) (f:Fm):Prop where
 k:0<=f.kind/\f.kind<=5
 a:f.name.length<=20
 sl:f.bA.length<=3
 sb:∀ s∈f.bA,FdB s
 w:w4 3 (.mk f.rn f.rk)
 b:zd m 5 f.body
 ll:f.layout.length<=19000+m
 lb:∀ s∈f.layout,s.length<=20
structure Ic (m:Nat) (s:So):Prop where
 a:s.name.length<=20
 ul:s.k9.length<=2+m
 ub:∀ u∈s.k9,u.length<=20
 dl:s.defs.length<=3
 db:∀ f∈s.defs,He m f
 hl:s.head.length<=19000
 hb:∀ u∈s.head,u.length<=20
 e:s.fin.length<=20
theorem He.B{m:Nat}{f:Fm}(hm:m<=8)(h:He m f):PM f:=⟨h.k,h.a,h.sl,h.sb,h.w,h.b.le hm _ _ _ (aiK _),by have:=h.ll;omega,h.lb⟩
structure SA (c:Cc) (so:So) (b:Bool) (T:aC):Prop where
 t2:T 2=.lbox 0 [.str [],.slice [] true,.slice [] true,.slice [] true,.str []]
 t3:T 3=.ref c.mm 0
 t5:T 5=.bool b
 t4:∃ g,T 4=.lbox g [.str so.name,.slice (strs so.k9) true,.slice (so.defs.map jI) true,.slice (strs so.head) true,.str so.fin]
def Uz(c:Cc)(K:ag)(b:Bool)(P:So->Prop)(s:AS):Prop:=∃ T p g so,s=⟨T,bZ c p K,c.mm,g⟩/\SA c so b T/\Ic 4 so/\P so
structure FA (c:Cc) (so:So) (b:Bool) (many i:Int) (f:Fm) (T:aC):Prop where
 sa:SA c so b T
 t7:T 7=.int .i64 many
 t8:T 8=.int .i64 i
 t9:∃ g o1 o2 o3,T 9=.lbox g [.int .i64 f.kind,.str f.name,.slice (f.bA.map gm) true,.str f.rn,.slice (aO f.rk) o1,.int .i64 f.body.kind,.int .i64 f.body.n,.str f.body.name,.str f.body.field,.str f.body.wn,.slice (aO f.body.wk) o2,.slice (aK f.body.kids) o2,.slice (strs f.body.names) o2,.slice (strs f.layout) o3]
def Ux(c:Cc)(K:ag)(so:So)(b:Bool)(many i:Int)(P:Fm->aC->Prop)(s:AS):Prop:=∃ T p g f,s=⟨T,bZ c p K,c.mm,g⟩/\FA c so b many i f T/\He 4 f/\P f T
theorem Ap{c:Cc}{p0:Int}{K:ag}(h:CH c p0 K)(p n:Int)(hn:0<n):∃ x p',0<=x/\x<n/\aA A 19 [.ref c.mm 0,.int .i64 n] (bZ c p K)=some (.int .i64 x,some ⟨bZ c p' K,c.mm⟩):=by
 obtain⟨x,p',a,b,e⟩:=ju (h.set (p':=p)) n hn
 rw[aL] at e
 exact⟨x,p',a,b,e⟩
theorem HS{c:Cc}{p0:Int}{K:ag}(h:CH c p0 K)(p:Int):∃ s p',(s.length<=20/\isWord s=true)/\aA A 18 [.ref c.mm 0] (bZ c p K)=some (.str s,some ⟨bZ c p' K,c.mm⟩):=by
 obtain⟨s,p',a,e⟩:=kJ (h.set (p':=p))
 rw[aL] at e
 exact⟨s,p',⟨by have:=fe s a;omega,ft s a⟩,e⟩
theorem Va{c:Cc}{p0:Int}{K:ag}(h:CH c p0 K)(p:Int):∃ w p',(w4 3 w/\bE w=true)/\aA A 22 [.ref c.mm 0,.int .i64 2] (bZ c p K)=some (.agg [.str w.name,.slice (aO w.kids) false],some ⟨bZ c p' K,c.mm⟩):=by
 obtain⟨w,p',a,e⟩:=CG 2 p (bZ c p K) (by omega) h.set
 rw[aL,kS] at e
 exact⟨w,p',⟨PE (by omega) a.1,a.2⟩,e⟩
theorem y3{c:Cc} : ∀ d:Nat,d<=101->uP c d
 | 0,_=>acx
 | d+1,h=>acz (by omega) (y3 d (by omega))
theorem Vn{c:Cc}{p0:Int}{K:ag}(h:CH c p0 K)(p:Int)(d:Nat)(hd:d<=4):∃ t p',(zd 4 5 t/\bD t=true/\zd 4 (d+1) t)/\aA A 23 [.ref c.mm 0,.int .i64 d] (bZ c p K)=some (.agg [.int .i64 t.kind,.int .i64 t.n,.str t.name,.str t.field,.str t.wn,.slice (aO t.wk) false,.slice (aK t.kids) false,.slice (strs t.names) false],some ⟨bZ c p' K,c.mm⟩):=by
 obtain⟨t,p',a,e⟩:=y3 d (by omega) p (bZ c p K) h.set
 rw[aL,ax] at e
 exact⟨t,p',⟨a.1.up (aiK _) _ _ _ (by omega),a.2,a.1⟩,e⟩
theorem abu{c:Cc}{p0:Int}{K:ag}(h:CH c p0 K)(p:Int)(n:Nat)(hn:n<=12000):∃ (x:Int) (b:aV) (out:List aV) (p1 p2:Int),(out.length<=19000/\out.length=max n 1+1/\ug out)/\(∀ s∈out,s.length<=20) /\
  aA A 19 [.ref c.mm 0,.int .i64 1000] (bZ c p K)=some (.int .i64 x,some ⟨bZ c p1 K,c.mm⟩) /\
  aA A 21 [.int .i64 x,.int .i64 0] (bZ c p1 K)=some (.str b,none)/\aA A 20 [.ref c.mm 0,.int .i64 n,.str b] (bZ c p1 K)=some (.slice (strs out) true,some ⟨bZ c p2 K,c.mm⟩):=by
 obtain⟨x,p1,x0,x1,e1⟩:=Ap h p 1000 (by omega)
 obtain⟨b,⟨hb,Wk, -⟩,e2⟩:=UI x 0 (bZ c p1 K) (yA x0 (by omega))
 obtain⟨out,p2,ol,ob,e3⟩:=Oi (h.set (p':=p1)) n (by omega) b Wk hb
 rw[aL] at e3
 exact⟨x,b,out,p1,p2,⟨by omega,ol,ob⟩,fun s hs=>(ob.w s hs).2,e1,e2,e3⟩
theorem T3{c:Cc}{p0:Int}{K:ag}(h:CH c p0 K){so:So}{b:Bool}{T:aC}{p:Int}{g:Nat}{Q:bC->AS->Prop}(hs:SA c so b T)(hG:Ic 4 so)(hu:so.k9=[])(hd:so.defs=[]) :
  W A ((yC.body.post 3).pre 0) ⟨T,bZ c p K,c.mm,g⟩ (andThen (Uz c K b (fun T4=>T4.defs=[])) Q):=by
 obtain⟨q2,q3,q5,g4,q4⟩:=hs
 unfold yC
 simp only[aZ.post,aZ.pre]
 simp(disch:=omega)only[aW,aa,simprocAttr,q2,q3,q4,q5]
 refine bY 2 0 (fun i s=>∃ T p g so,s=⟨T,bZ c p K,c.mm,g⟩/\SA c so b T/\Ic 4 so/\so.defs=[]/\T 6=.int .i64 i/\so.k9.length=i)
  (Uz c K b (fun T4=>T4.defs=[])) (fun _=>False) ?_ (fun s hs=>hs) (fun _ h=>h.elim) 0 _ (by omega) ?_
 ·rintro i s hi ⟨T,p,g,so,rfl,⟨q2,q3,q5,g4,q4⟩,hG,hd,q6,hl⟩
  obtain⟨x,p1,x0,x1,e1⟩:=Ap h p 3 (by omega)
  by_cases hc:(i:Int)<x
  ·obtain⟨u,p2,ul,e2⟩:=HS h p1
   have a1:aq false 1 16 (.slice (strs so.k9) true) (.slice [[.str u]] true)=some (.slice (strs (so.k9++[u])) true):=dF (by omega)
   simp(disch:=omega)only[aW,aa,simprocAttr,q2,q3,q4,q5,q6,e1,e2,a1,cG,bN,ajm,ajn,an,cb,ajw,ajv,aiQ,aJ]
   refine⟨by omega,_,_,_,{ so with k9:=so.k9++[u] },rfl,⟨?_,?_,?_,g4,?_⟩,⟨hG.a,by simp;omega,fun v hv=>?_,hG.dl,hG.db,hG.hl,hG.hb,hG.e⟩,hd,?_,by simp[hl]⟩
   ·simp(disch:=omega)only[aM,aa,simprocAttr,q2]
   ·simp(disch:=omega)only[aM,aa,simprocAttr,q3]
   ·simp(disch:=omega)only[aM,aa,simprocAttr,q5]
   ·simp(disch:=omega)only[aM,aa,simprocAttr]
   ·rcases aiM.1 hv with hv|hv
    ·exact hG.ub v hv
    ·rw[aiY.1 hv];exact ul.1
   ·simp(disch:=omega)only[aM,aa,simprocAttr]
  ·simp(disch:=omega)only[aW,aa,simprocAttr,q2,q3,q4,q5,q6,e1,cb,ajw,ajv,aiQ,aJ]
   refine⟨_,_,_,so,rfl,⟨?_,?_,?_,g4,?_⟩,hG,hd⟩
   ·simp(disch:=omega)only[aM,aa,simprocAttr,q2]
   ·simp(disch:=omega)only[aM,aa,simprocAttr,q3]
   ·simp(disch:=omega)only[aM,aa,simprocAttr,q5]
   ·simp(disch:=omega)only[aM,aa,simprocAttr,q4]
 ·refine⟨_,_,_,so,rfl,⟨?_,?_,?_,g4,?_⟩,hG,hd,?_,by rw[hu];rfl⟩
  ·simp(disch:=omega)only[aM,aa,simprocAttr,q2]
  ·simp(disch:=omega)only[aM,aa,simprocAttr,q3]
  ·simp(disch:=omega)only[aM,aa,simprocAttr,q5]
  ·simp(disch:=omega)only[aM,aa,simprocAttr,q4]
  ·simp(disch:=omega)only[aM,aa,simprocAttr,ajl]
theorem T2{c:Cc}{p0:Int}{K:ag}(h:CH c p0 K){b:Bool}{s:AS}{Q:bC->AS->Prop}(hs:Uz c K b (fun T4=>T4.defs=[]) s) :
  W A ((yC.body.post 4).pre 1) s (andThen (fun s=>∃ n:Nat,n<=3/\s.T 7=.int .i64 n/\Uz c K b (fun T4=>T4.defs=[]) s) Q):=by
 obtain⟨T,p,g,so,rfl,⟨q2,q3,q5,g4,q4⟩,hG,hd⟩:=hs
 unfold yC
 simp only[aZ.post,aZ.pre]
 have hul:=hG.ul
 cases b with
 | true =>
  obtain⟨x,bs,out,p1,p2,ol,ob,e1,e2,e3⟩:=abu h p (2+2*so.k9.length) (by omega)
  have en:((2+2*so.k9.length:Nat):Int)=2+2*(so.k9.length:Int):=by omega
  rw[en] at e3
  obtain⟨n,p3,n0,n1,e4⟩:=Ap h p2 4 (by omega)
  simp(disch:=omega)only[aW,aa,simprocAttr,q2,q3,q4,q5,e1,e2,e3,e4,aE,cG,bN,ajm,ajn,an,cb,ajw,ajv,aiQ,aJ]
  refine⟨n.toNat,by omega,?_,_,_,_,{ so with head:=out },rfl,⟨?_,?_,?_,g4,?_⟩,⟨hG.a,hG.ul,hG.ub,hG.dl,hG.db,ol.1,ob,hG.e⟩,hd⟩
  ·rw[akt n0]
  ·simp(disch:=omega)only[aM,aa,simprocAttr,q2]
  ·simp(disch:=omega)only[aM,aa,simprocAttr,q3]
  ·simp(disch:=omega)only[aM,aa,simprocAttr,q5]
  ·simp(disch:=omega)only[aM,aa,simprocAttr]
 | false =>
  obtain⟨n,p3,n0,n1,e4⟩:=Ap h p 4 (by omega)
  simp(disch:=omega)only[aW,aa,simprocAttr,q2,q3,q4,q5,e4,cb,ajw,ajv,aiQ,aJ]
  refine⟨n.toNat,by omega,?_,_,_,_,so,rfl,⟨?_,?_,?_,g4,?_⟩,hG,hd⟩
  ·rw[akt n0]
  ·simp(disch:=omega)only[aM,aa,simprocAttr,q2]
  ·simp(disch:=omega)only[aM,aa,simprocAttr,q3]
  ·simp(disch:=omega)only[aM,aa,simprocAttr,q5]
  ·simp(disch:=omega)only[aM,aa,simprocAttr,q4]
abbrev pL:aZ:=yC.body.sub [true,true,true,true,true,true,true,false,true,false,false,true,false,false]
abbrev A3:Tm:=.mk 0 0 [] [] [] [] [] []
structure Kq (f:Fm):Prop where
 n:isWord f.name=true
 s:∀ u∈f.bA,gf f.kind u=true
 rn:f.rn=[]
 rk:f.rk=[]
 bd:f.body=A3
 ly:f.layout=[]
structure Uy (f:Fm):Prop where
 pr:dC f=true
 ln:(df f).length<=200
 ly:f.layout=[]
structure DR (f:Fm):Prop where
 pr:dC f=true
 ln:(df f).length<=200
 ly:f.layout=[]\/(f.layout.length=(df f).length+1/\ug f.layout)
theorem sK(f:Fm):1<=(df f).length:=by unfold df;simp only[List.length_append,List.length_cons];omega
theorem wA{f:Fm}(h:dC f=true):wz f=df f:=by unfold wz;rw[if_pos h]
theorem wK{f:Fm}(hF:He 4 f):(aH (f.bA.map (dc f.kind))).length<=44:=by
 have h1:∀ u∈f.bA,(dc f.kind u).length<=14:=fun u hu=>qi (hF.sb u hu)
 have h2:=hF.sl
 revert h1 h2
 generalize f.bA=l
 intro h1 h2
 match l with
 | []=>simp[aH]
 | [a]=>have:=h1 a (by simp);simp only[aiU,aiX,aH];omega
 | [a,b] =>
  have:=h1 a (by simp);have:=h1 b (by simp)
  simp only[aiU,aiX,aH,List.length_append,List.length_cons,aiR];omega
 | [a,b,c] =>
  have:=h1 a (by simp);have:=h1 b (by simp);have:=h1 c (by simp)
  simp only[aiU,aiX,aH,List.length_append,List.length_cons,aiR];omega
 | a :: b :: c :: d :: r=>simp at h2
theorem Kq.zero{f:Fm}(h:Kq f)(hF:He 4 f)(hk:f.kind=0\/f.kind=1):Uy f where
 pr:=by
  have e:(decide (f.kind=0) || decide (f.kind=1))=true:=by simpa using hk
  unfold dC
  rw[e,h.n,h.rn,h.rk,h.bd,aiO.2 h.s]
  rfl
 ln:=by
  have:=wK hF
  unfold df
  rw[if_pos hk]
  simp only[List.length_append,List.length_cons,aiR]
  omega
 ly:=h.ly
theorem Kq.full{f:Fm}(h:Kq f)(hk:¬ (f.kind=0\/f.kind=1)){w:Wd}{t:Tm}(hw:bE w=true)(ht:bD t=true)(hl:(df { f with rn:=w.name,rk:=w.kids,body:=t }).length<=200):Uy { f with rn:=w.name,rk:=w.kids,body:=t } where
 pr:=by
  have e:(decide (f.kind=0) || decide (f.kind=1))=false:=by
   cases e:(decide (f.kind=0) || decide (f.kind=1)) with
   | false=>rfl
   | true=>exact absurd (by simpa using e) hk
  have ew:bE (.mk w.name w.kids)=true:=by cases w;exact hw
  unfold dC
  simp only
  rw[e,h.n,aiO.2 h.s,ew,ht]
  rfl
 ln:=hl
 ly:=h.ly
theorem yE{f:Fm}(hF:He 4 f){w:Wd}{u:Tm}(hw:w4 3 w)(hu:zd 4 1 u):(df { f with rn:=w.name,rk:=w.kids,body:=u }).length<=200:=by
 have h1:=wK hF
 have h2:=o6 1 u (zd.le (by omega) 1 1 u (aiK _) hu)
 have h3:=iO 3 w hw
 have e:dn (.mk w.name w.kids)=dn w:=by cases w;rfl
 have hb:bT 1=60:=rfl
 unfold df
 simp only
 split
 ·simp only[List.length_append,List.length_cons,aiR];omega
 ·simp only[List.length_append,List.length_cons,aiR,e];omega
theorem Zm:zd 4 5 A3:=H8 (by omega) (by omega) (by decide)
theorem Lr{c:Cc}{p0:Int}{K:ag}(h:CH c p0 K){so:So}{b:Bool}{many i:Int}{T:aC}{p:Int}{g:Nat}{Q:bC->AS->Prop}(hs:SA c so b T)(h7:T 7=.int .i64 many)(h8:T 8=.int .i64 i) :
  W A (pL.pre 1) ⟨T,bZ c p K,c.mm,g⟩ (andThen (Ux c K so b many i (fun f T=>Kq f/\f.bA=[]/\∃ n:Nat,n<=3/\T 10=.int .i64 n)) Q):=by
 obtain⟨q2,q3,q5,g4,q4⟩:=hs
 unfold pL yC
 simp only[aZ.sub,aZ.pre]
 obtain⟨k,p1,k0,k1,e1⟩:=Ap h p 6 (by omega)
 obtain⟨u,p2,ul,e2⟩:=HS h p1
 obtain⟨n,p3,n0,n1,e3⟩:=Ap h p2 4 (by omega)
 simp(disch:=omega)only[aW,aa,simprocAttr,q2,q3,q4,q5,e1,e2,e3,cF,cb,ajw,ajv,aiQ,aJ]
 refine⟨_,_,_,⟨k,u,[],[],[],A3,[]⟩,rfl,⟨⟨?_,?_,?_,g4,?_⟩,?_,?_,g,true,true,true,?_⟩,⟨by simp only;omega,ul.1,by simp,by simp,iQ,Zm,by simp,by simp⟩,⟨ul.2,by simp,rfl,rfl,rfl,rfl⟩,rfl,n.toNat,by omega,?_⟩
 ·simp(disch:=omega)only[aM,aa,simprocAttr,q2]
 ·simp(disch:=omega)only[aM,aa,simprocAttr,q3]
 ·simp(disch:=omega)only[aM,aa,simprocAttr,q5]
 ·simp(disch:=omega)only[aM,aa,simprocAttr,q4]
 ·simp(disch:=omega)only[aM,aa,simprocAttr,h7]
 ·simp(disch:=omega)only[aM,aa,simprocAttr,h8]
 ·simp(disch:=omega)only[aM,aa,simprocAttr,A3,Tm.kind,Tm.n,Tm.name,Tm.field,Tm.wn,Tm.wk,Tm.kids,Tm.names,aO,aK,o5,aiX]
 ·simp(disch:=omega)only[aM,aa,simprocAttr,akt n0]
theorem Lq{c:Cc}{p0:Int}{K:ag}(h:CH c p0 K){so:So}{b:Bool}{many i:Int}{s:AS}{Q:bC->AS->Prop}(hs:Ux c K so b many i (fun f T=>Kq f/\f.bA=[]/\∃ n:Nat,n<=3/\T 10=.int .i64 n) s) :
  W A ((pL.post 1).pre 0) s (andThen (Ux c K so b many i (fun f _=>Kq f)) Q):=by
 obtain⟨T,p,g,f,rfl,⟨⟨q2,q3,q5,g4,q4⟩,q7,q8,g9,o1,o2,o3,q9⟩,hF,hW,tP,n,hn,Yf⟩:=hs
 unfold pL yC
 simp only[aZ.sub,aZ.pre,aZ.post]
 simp(disch:=omega)only[aW,aa,simprocAttr,q2,q3,q4,q5]
 refine bY n 4 (fun j s=>∃ T p g f,s=⟨T,bZ c p K,c.mm,g⟩/\FA c so b many i f T/\He 4 f/\Kq f/\T 10=.int .i64 n/\T 11=.int .i64 j/\f.bA.length=j)
  (Ux c K so b many i (fun f _=>Kq f)) (fun _=>False) ?_ (fun s hs=>hs) (fun _ h=>h.elim) 0 _ (by omega) ?_
 ·rintro j s hj ⟨T,p,g,f,rfl,⟨⟨q2,q3,q5,g4,q4⟩,q7,q8,g9,o1,o2,o3,q9⟩,hF,hW,Yf,q11,hl⟩
  by_cases hc:j<n
  ·obtain⟨u,p1,ul,e1⟩:=HS h p
   obtain⟨w,p2,wb,e2⟩:=Va h p1
   obtain⟨m,p3,m0,m1,e3⟩:=Ap h p2 12 (by omega)
   have fin:∀ (T' : aC) (p' : Int) (g' : Nat) (x:Int),0<=x->x<12->(f.kind=4\/x=0)->SA c so b T'->T' 7=.int .i64 many->T' 8=.int .i64 i->T' 10=.int .i64 n->T' 11=.int .i64 ((j:Int)+1) ->
     T' 9=.lbox g9 [.int .i64 f.kind,.str f.name,.slice ((f.bA++[Fd.mk u w.name w.kids x]).map gm) true,.str f.rn,.slice (aO f.rk) o1,.int .i64 f.body.kind,.int .i64 f.body.n,.str f.body.name,.str f.body.field,.str f.body.wn,.slice (aO f.body.wk) o2,.slice (aK f.body.kids) o2,.slice (strs f.body.names) o2,.slice (strs f.layout) o3] ->
     j<n/\∃ T p g f,(⟨T',bZ c p' K,c.mm,g'⟩:AS)=⟨T,bZ c p K,c.mm,g⟩/\FA c so b many i f T/\He 4 f/\Kq f/\T 10=.int .i64 n/\T 11=.int .i64 ((j:Int)+1)/\f.bA.length=j+1:=by
    intro T' p' g' x x0 x1 x4 PT r7 r8 r10 r11 r9
    refine⟨hc,_,_,_,{ f with bA:=f.bA++[Fd.mk u w.name w.kids x] },rfl,⟨PT,r7,r8,g9,o1,o2,o3,r9⟩,⟨hF.k,hF.a,by simp;omega,fun v hv=>?_,hF.w,hF.b,hF.ll,hF.lb⟩,⟨hW.n,fun v hv=>?_,hW.rn,hW.rk,hW.bd,hW.ly⟩,r10,r11,by simp[hl]⟩
    ·rcases aiM.1 hv with hv|hv
     ·exact hF.sb v hv
     ·rw[aiY.1 hv];exact⟨ul.1,by cases w;exact wb.1,by simp only;omega⟩
    ·rcases aiM.1 hv with hv|hv
     ·exact hW.s v hv
     ·rw[aiY.1 hv]
      have ew:bE (.mk w.name w.kids)=true:=by cases w;exact wb.2
      unfold gf
      simp only
      rw[ul.2,ew,decide_eq_true x0,decide_eq_true (show x<=1099511627776 by omega)]
      simpa using x4
   by_cases h4:f.kind=4
   ·have a1:aq false 4 64 (.slice (f.bA.map gm) true) (.slice [[.str u,.str w.name,.slice (aO w.kids) false,.int .i64 m]] true)=some (.slice ((f.bA++[Fd.mk u w.name w.kids m]).map gm) true):=KB (l:=f.bA) (u:=Fd.mk u w.name w.kids m) (by omega)
    simp(disch:=omega)only[aW,aa,simprocAttr,q2,q3,q4,q5,q7,q8,q9,Yf,q11,e1,e2,e3,a1,cF,cG,bN,ajm,ajn,an,cb,ajw,ajv,aiQ,aJ]
    refine fin _ _ _ m m0 m1 (.inl h4) ⟨?_,?_,?_,g4,?_⟩ ?_ ?_ ?_ ?_ ?_
    ·simp(disch:=omega)only[aM,aa,simprocAttr,q2]
    ·simp(disch:=omega)only[aM,aa,simprocAttr,q3]
    ·simp(disch:=omega)only[aM,aa,simprocAttr,q5]
    ·simp(disch:=omega)only[aM,aa,simprocAttr,q4]
    ·simp(disch:=omega)only[aM,aa,simprocAttr,q7]
    ·simp(disch:=omega)only[aM,aa,simprocAttr,q8]
    ·simp(disch:=omega)only[aM,aa,simprocAttr,Yf]
    ·simp(disch:=omega)only[aM,aa,simprocAttr]
    ·simp(disch:=omega)only[aM,aa,simprocAttr]
   ·have a1:aq false 4 64 (.slice (f.bA.map gm) true) (.slice [[.str u,.str w.name,.slice (aO w.kids) false,.int .i64 0]] true)=some (.slice ((f.bA++[Fd.mk u w.name w.kids 0]).map gm) true):=KB (l:=f.bA) (u:=Fd.mk u w.name w.kids 0) (by omega)
    simp(disch:=omega)only[aW,aa,simprocAttr,q2,q3,q4,q5,q7,q8,q9,Yf,q11,e1,e2,a1,cF,cG,bN,ajm,ajn,an,cb,ajw,ajv,aiQ,aJ]
    refine fin _ _ _ 0 (by omega) (by omega) (.inr rfl) ⟨?_,?_,?_,g4,?_⟩ ?_ ?_ ?_ ?_ ?_
    ·simp(disch:=omega)only[aM,aa,simprocAttr,q2]
    ·simp(disch:=omega)only[aM,aa,simprocAttr,q3]
    ·simp(disch:=omega)only[aM,aa,simprocAttr,q5]
    ·simp(disch:=omega)only[aM,aa,simprocAttr,q4]
    ·simp(disch:=omega)only[aM,aa,simprocAttr,q7]
    ·simp(disch:=omega)only[aM,aa,simprocAttr,q8]
    ·simp(disch:=omega)only[aM,aa,simprocAttr,Yf]
    ·simp(disch:=omega)only[aM,aa,simprocAttr]
    ·simp(disch:=omega)only[aM,aa,simprocAttr]
  ·simp(disch:=omega)only[aW,aa,simprocAttr,q2,q3,q4,q5,Yf,q11,cb,ajw,ajv,aiQ,aJ]
   refine⟨_,_,_,f,rfl,⟨⟨?_,?_,?_,g4,?_⟩,?_,?_,g9,o1,o2,o3,?_⟩,hF,hW⟩
   ·simp(disch:=omega)only[aM,aa,simprocAttr,q2]
   ·simp(disch:=omega)only[aM,aa,simprocAttr,q3]
   ·simp(disch:=omega)only[aM,aa,simprocAttr,q5]
   ·simp(disch:=omega)only[aM,aa,simprocAttr,q4]
   ·simp(disch:=omega)only[aM,aa,simprocAttr,q7]
   ·simp(disch:=omega)only[aM,aa,simprocAttr,q8]
   ·simp(disch:=omega)only[aM,aa,simprocAttr,q9]
 ·refine⟨_,_,_,f,rfl,⟨⟨?_,?_,?_,g4,?_⟩,?_,?_,g9,o1,o2,o3,?_⟩,hF,hW,?_,?_,by rw[tP];rfl⟩
  ·simp(disch:=omega)only[aM,aa,simprocAttr,q2]
  ·simp(disch:=omega)only[aM,aa,simprocAttr,q3]
  ·simp(disch:=omega)only[aM,aa,simprocAttr,q5]
  ·simp(disch:=omega)only[aM,aa,simprocAttr,q4]
  ·simp(disch:=omega)only[aM,aa,simprocAttr,q7]
  ·simp(disch:=omega)only[aM,aa,simprocAttr,q8]
  ·simp(disch:=omega)only[aM,aa,simprocAttr,q9]
  ·simp(disch:=omega)only[aM,aa,simprocAttr,Yf]
  ·simp(disch:=omega)only[aM,aa,simprocAttr,ajl]
theorem QC{c:Cc}{p0:Int}{K:ag}(h:CH c p0 K){so:So}{b:Bool}{many i:Int}{s:AS}{Q:bC->AS->Prop}(hs:Ux c K so b many i (fun f _=>Kq f) s) :
  W A ((pL.post 2).pre 0) s (andThen (Ux c K so b many i (fun f _=>Uy f)) Q):=by
 obtain⟨T,p,g,f,rfl,⟨⟨q2,q3,q5,g4,q4⟩,q7,q8,g9,o1,o2,o3,q9⟩,hF,hW⟩:=hs
 unfold pL yC
 simp only[aZ.sub,aZ.pre,aZ.post]
 have fin:∀ (T' : aC) (p' : Int) (g' : Nat) (f' : Fm) (o1 o2:Bool),T' 2=.lbox 0 [.str [],.slice [] true,.slice [] true,.slice [] true,.str []]->T' 3=.ref c.mm 0->T' 5=.bool b->T' 4=.lbox g4 [.str so.name,.slice (strs so.k9) true,.slice (so.defs.map jI) true,.slice (strs so.head) true,.str so.fin]->T' 7=.int .i64 many->T' 8=.int .i64 i ->
   T' 9=.lbox g9 [.int .i64 f'.kind,.str f'.name,.slice (f'.bA.map gm) true,.str f'.rn,.slice (aO f'.rk) o1,.int .i64 f'.body.kind,.int .i64 f'.body.n,.str f'.body.name,.str f'.body.field,.str f'.body.wn,.slice (aO f'.body.wk) o2,.slice (aK f'.body.kids) o2,.slice (strs f'.body.names) o2,.slice (strs f'.layout) o3]->He 4 f'->Uy f'->Ux c K so b many i (fun f _=>Uy f) ⟨T',bZ c p' K,c.mm,g'⟩ :=
  fun T' p' g' f' o1 o2 r2 r3 r5 r4 r7 r8 r9 hf hx=>⟨_,_,_,f',rfl,⟨⟨r2,r3,r5,g4,r4⟩,r7,r8,g9,o1,o2,o3,r9⟩,hf,hx⟩
 by_cases k0:f.kind=0
 ·simp(disch:=omega)only[aW,aa,simprocAttr,q2,q3,q4,q5,q9,cG,bN,ajm,ajn,an,cb,ajw,ajv,aiQ,aJ]
  refine fin _ _ _ f o1 o2 ?_ ?_ ?_ ?_ ?_ ?_ ?_ hF (hW.zero hF (.inl k0))
  all_goals simp(disch:=omega)only[aM,aa,simprocAttr,q2,q3,q4,q5,q7,q8,q9]
 by_cases k1:f.kind=1
 ·simp(disch:=omega)only[aW,aa,simprocAttr,q2,q3,q4,q5,q9,cG,bN,ajm,ajn,an,cb,ajw,ajv,aiQ,aJ]
  refine fin _ _ _ f o1 o2 ?_ ?_ ?_ ?_ ?_ ?_ ?_ hF (hW.zero hF (.inr k1))
  all_goals simp(disch:=omega)only[aM,aa,simprocAttr,q2,q3,q4,q5,q7,q8,q9]
 obtain⟨w,p1,wb,e1⟩:=Va h p
 obtain⟨t,p2,tb,e2⟩:=Vn h p1 4 (by omega)
 rw[show ((4:Nat):Int)=4 from rfl] at e2
 obtain⟨u,p3,ub,e3⟩:=Vn h p2 0 (by omega)
 rw[show ((0:Nat):Int)=0 from rfl] at e3
 have uq:He 4 { f with rn:=w.name,rk:=w.kids,body:=t }:=⟨hF.k,hF.a,hF.sl,hF.sb,by cases w;exact wb.1,tb.1,hF.ll,hF.lb⟩
 have Cm:He 4 { f with rn:=w.name,rk:=w.kids,body:=u }:=⟨hF.k,hF.a,hF.sl,hF.sb,by cases w;exact wb.1,ub.1,hF.ll,hF.lb⟩
 have e4:=AJ (uq.B (by omega)) (bZ c p2 K)
 rw[jI] at e4
 simp only at e4
 simp(disch:=omega)only[aW,aa,simprocAttr,q2,q3,q4,q5,q9,e1,e2,e4,aE,cG,bN,ajm,ajn,an,cb,ajw,ajv,aiQ,aJ]
 refine gK ?_ ?_<;>intro hlen
 ·simp(disch:=omega)only[aW,aa,simprocAttr,q2,q3,q4,q5,q9,e3,cG,bN,ajm,ajn,an,cb,ajw,ajv,aiQ,aJ]
  refine fin _ _ _ { f with rn:=w.name,rk:=w.kids,body:=u } false false ?_ ?_ ?_ ?_ ?_ ?_ ?_ Cm (hW.full (by omega) wb.2 ub.2.1 (yE hF wb.1 ub.2.2))
  all_goals simp(disch:=omega)only[aM,aa,simprocAttr,q2,q3,q4,q5,q7,q8,q9]
 ·simp(disch:=omega)only[aW,aa,simprocAttr,q2,q3,q4,q5,q9,cG,bN,ajm,ajn,an,cb,ajw,ajv,aiQ,aJ]
  have hX:Uy { f with rn:=w.name,rk:=w.kids,body:=t }:=by
   refine hW.full (by omega) wb.2 tb.2.1 ?_
   have hx:Uy { f with rn:=w.name,rk:=w.kids,body:=u }:=hW.full (by omega) wb.2 ub.2.1 (yE hF wb.1 ub.2.2)
   have hp:dC { f with rn:=w.name,rk:=w.kids,body:=t }=true:=by
    have e0:=hx.pr
    unfold dC at e0 ⊢
    have e:(decide (f.kind=0) || decide (f.kind=1))=false:=by simp[k0,k1]
    simp only[e,aiQ,aiL] at e0 ⊢
    exact⟨e0.1,e0.2.1,tb.2.1⟩
   rw[wA hp] at hlen
   simp only[Int.not_lt] at hlen
   omega
  refine fin _ _ _ { f with rn:=w.name,rk:=w.kids,body:=t } false false ?_ ?_ ?_ ?_ ?_ ?_ ?_ uq hX
  all_goals simp(disch:=omega)only[aM,aa,simprocAttr,q2,q3,q4,q5,q7,q8,q9]
def Ko(c:Cc)(K:ag)(b:Bool)(many i:Int)(nd:Nat)(s:AS):Prop:=∃ T p g so,s=⟨T,bZ c p K,c.mm,g⟩/\SA c so b T/\Ic 4 so/\(∀ f∈so.defs,DR f)/\T 7=.int .i64 many/\T 8=.int .i64 i/\so.defs.length=nd
theorem Wa{c:Cc}{p0:Int}{K:ag}(h:CH c p0 K){so:So}(hG:Ic 4 so)(hV:∀ f∈so.defs,DR f)(hd:so.defs.length<3){b:Bool}{many i:Int}{s:AS}{R:AS->Prop}{Q:bC->AS->Prop}(hs:Ux c K so b many i (fun f _=>Uy f) s)
  (hR:∀ s',Ko c K b many i (so.defs.length+1) s'->R s'):W A (pL.post 3) s (andThen R Q):=by
 obtain⟨T,p,g,f,rfl,⟨⟨q2,q3,q5,g4,q4⟩,q7,q8,g9,o1,o2,o3,q9⟩,hF,hX⟩:=hs
 unfold pL yC
 simp only[aZ.sub,aZ.pre,aZ.post]
 have po:∀ f',He 4 f'->Ic 4 { so with defs:=so.defs++[f'] }:=fun f' hf=>⟨hG.a,hG.ul,hG.ub,by simp;omega,fun v hv=>by
  rcases aiM.1 hv with hv|hv
  ·exact hG.db v hv
  ·rw[aiY.1 hv];exact hf,hG.hl,hG.hb,hG.e⟩
 have fin:∀ (T' : aC) (p' : Int) (g' : Nat) (f' : Fm),He 4 f'->DR f'->T' 2=.lbox 0 [.str [],.slice [] true,.slice [] true,.slice [] true,.str []]->T' 3=.ref c.mm 0->T' 5=.bool b->T' 4=.lbox g4 [.str so.name,.slice (strs so.k9) true,.slice ((so.defs++[f']).map jI) true,.slice (strs so.head) true,.str so.fin]->T' 7=.int .i64 many->T' 8=.int .i64 i->R ⟨T',bZ c p' K,c.mm,g'⟩ :=
  fun T' p' g' f' hf hv r2 r3 r5 r4 r7 r8=>hR _ ⟨_,_,_,{ so with defs:=so.defs++[f'] },rfl,⟨r2,r3,r5,g4,r4⟩,po f' hf,fun v n6=>by
   rcases aiM.1 n6 with n6|n6
   ·exact hV v n6
   ·rw[aiY.1 n6];exact hv,r7,r8,by simp⟩
 cases b with
 | false =>
  have a1:=KC (l:=so.defs) (f:=f) (o:=true) (by omega)
  simp(disch:=omega)only[aW,aa,simprocAttr,q2,q3,q4,q5,q9,a1,cG,bN,ajm,ajn,an,cb,ajw,ajv,aiQ,aJ]
  refine fin _ _ _ f hF ⟨hX.pr,hX.ln,.inl hX.ly⟩ ?_ ?_ ?_ ?_ ?_ ?_
  all_goals simp(disch:=omega)only[aM,aa,simprocAttr,q2,q3,q4,q5,q7,q8,q9]
 | true =>
  have hB:=hF.B (by omega)
  have e4:=AJ hB (bZ c p K)
  rw[jI] at e4
  obtain⟨x,bs,out,p1,p2,ol,ob,e1,e2,e3⟩:=abu h p (wz f).length (by have:=JU hB;omega)
  have a1:=KC (l:=so.defs) (f:={ f with layout:=out }) (o:=true) (by omega)
  simp only at a1
  simp(disch:=omega)only[aW,aa,simprocAttr,q2,q3,q4,q5,q9,e1,e2,e3,e4,aE,a1,cG,bN,ajm,ajn,an,cb,ajw,ajv,aiQ,aJ]
  refine fin _ _ _ { f with layout:=out } ⟨hF.k,hF.a,hF.sl,hF.sb,hF.w,hF.b,by simp only;have:=ol.1;omega,ob⟩ ⟨hX.pr,hX.ln,.inr ⟨by rw[wA hX.pr] at ol;have:=sK f;have:=ol.2.1;show out.length=_;rw[show df { f with layout:=out }=df f from rfl];omega,ol.2.2⟩⟩ ?_ ?_ ?_ ?_ ?_ ?_
  all_goals simp(disch:=omega)only[aM,aa,simprocAttr,q2,q3,q4,q5,q7,q8,q9]
theorem ng:∀ (n:Nat) (c:aZ),(c.post n).post 0=c.post (n+1)
 | 0,.seq a b=>by cases b<;>rfl
 | n+1,.seq a b=>ng n b
 | n,.skip|n,.region ..|n,.xd ..|n,.cond ..|n,.block ..|n,.loop ..|n,.exit ..|n,.ret=>by cases n<;>rfl
theorem V'{c:Cc}{p0:Int}{K:ag}(h:CH c p0 K){so:So}(hG:Ic 4 so)(hV:∀ f∈so.defs,DR f)(hd:so.defs.length<3){b:Bool}{many i:Int}{T:aC}{p:Int}{g:Nat}{R:AS->Prop}{Q:bC->AS->Prop}(hs:SA c so b T)(h7:T 7=.int .i64 many)(h8:T 8=.int .i64 i)
  (hR:∀ s',Ko c K b many i (so.defs.length+1) s'->R s'):W A pL ⟨T,bZ c p K,c.mm,g⟩ (andThen R Q):=by
 refine ib 1 _ (Lr h hs h7 h8) fun s1 h1=>?_
 refine ib 0 _ (Lq h h1) fun s2 h2=>?_
 rw[ng]
 refine ib 0 _ (QC h h2) fun s3 h3=>?_
 rw[ng]
 exact Wa h hG hV hd h3 hR
theorem T1{c:Cc}{p0:Int}{K:ag}(h:CH c p0 K){b:Bool}{s:AS}{Q:bC->AS->Prop}(hs:∃ n:Nat,n<=3/\s.T 7=.int .i64 n/\Uz c K b (fun T4=>T4.defs=[]) s) :
  W A ((yC.body.post 6).pre 0) s (andThen (Uz c K b (fun so=>∀ f∈so.defs,DR f)) Q):=by
 obtain⟨n,hn,q7,T,p,g,so,rfl,⟨q2,q3,q5,g4,q4⟩,hG,hd⟩:=hs
 unfold yC
 simp only[aZ.post,aZ.pre]
 simp only at q7
 simp(disch:=omega)only[aW,aa,simprocAttr]
 have Oa:∀ {T:aC} {T' : aC},SA c so b T->T' 2=T 2->T' 3=T 3->T' 4=T 4->T' 5=T 5->SA c so b T':=fun h a2 a3 a4 a5=>by
  obtain⟨q2,q3,q5,g4,q4⟩:=h
  exact⟨a2.trans q2,a3.trans q3,a5.trans q5,g4,a4.trans q4⟩
 refine bY n 2 (fun i s=>Ko c K b n i i s) (Uz c K b (fun so=>∀ f∈so.defs,DR f)) (fun _=>False) ?_ (fun s hs=>hs) (fun _ h=>h.elim) 0 _ (by omega) ?_
 ·rintro i s hi ⟨T,p,g,so,rfl,PT,hG,hV,q7,q8,hl⟩
  have Oa:∀ {T T' : aC} {so:So},SA c so b T->T' 2=T 2->T' 3=T 3->T' 4=T 4->T' 5=T 5->SA c so b T':=fun h a2 a3 a4 a5=>by
   obtain⟨q2,q3,q5,g4,q4⟩:=h
   exact⟨a2.trans q2,a3.trans q3,a5.trans q5,g4,a4.trans q4⟩
  by_cases hc:i<n
  ·refine Bc (fun s'=>∃ T g,s'=⟨T,bZ c p K,c.mm,g⟩/\SA c so b T/\T 7=.int .i64 n/\T 8=.int .i64 i) ?_ ?_
   ·simp(disch:=omega)only[aW,aa,simprocAttr,q7,q8]
    refine⟨_,_,rfl,Oa PT ?_ ?_ ?_ ?_,?_,?_⟩
    all_goals simp(disch:=omega)only[aM,aa,simprocAttr,q7,q8]
   ·rintro s' ⟨T,g,rfl,PT,q7,q8⟩
    refine Bc (Ko c K b n i (i+1)) ?_ ?_
    ·rw[ze]
     refine p9 (c:=pL) (V' h hG hV (by omega) PT q7 q8 (R:=Ko c K b n i (i+1)) (Q:=fun _ _=>False) (fun s h=>by rw[hl] at h;exact h)) ?_
     intro e s hs
     cases e with
     | normal=>exact hs
     | _=>exact hs.elim
    ·rintro s' ⟨T,p,g,so,rfl,PT,hG,hV,q7,q8,hl⟩
     simp(disch:=omega)only[aW,aa,simprocAttr,q7,q8]
     refine⟨hc,_,_,_,so,rfl,Oa PT ?_ ?_ ?_ ?_,hG,hV,?_,?_,hl⟩
     all_goals simp(disch:=omega)only[aM,aa,simprocAttr,q7,q8]
  ·simp(disch:=omega)only[aW,aa,simprocAttr,q7,q8]
   refine⟨_,_,_,so,rfl,Oa PT ?_ ?_ ?_ ?_,hG,hV⟩
   all_goals simp(disch:=omega)only[aM,aa,simprocAttr]
 ·refine⟨_,_,_,so,rfl,Oa ⟨q2,q3,q5,g4,q4⟩ ?_ ?_ ?_ ?_,hG,(by rw[hd];simp),?_,?_,by rw[hd];rfl⟩
  all_goals simp(disch:=omega)only[aM,aa,simprocAttr,q7,ajl]
theorem adl{x:Int}(h0:0<=x)(h1:x<4):∃ s:aV,s.length<=20/\([[.str []],[.str [32]],[.str [35,32,101,110,100]],[.str [10,10]]]:List (List AV))[x.toNat]?=some [.str s]:=by
 have:x.toNat=0\/x.toNat=1\/x.toNat=2\/x.toNat=3:=by omega
 rcases this with e|e|e|e<;>rw[e]<;>exact⟨_,by decide,rfl⟩
theorem Pd{c:Cc}{K:ag}(h:CH c 0 K)(hK:K.take c.mm=K.take c.mm){b:Bool}{s:AS}(hs:Uz c K b (fun so=>∀ f∈so.defs,DR f) s) :
  W A (yC.body.post 7) s (ve c.mm [.cell 2 true 5] fun x=>∃ so,(Ic 4 so/\∀ f∈so.defs,DR f)/\(lV x.1,x.2)=(.agg (Qh so),none)):=by
 obtain⟨T,p,g,so,rfl,⟨q2,q3,q5,g4,q4⟩,hG,hV⟩:=hs
 unfold yC
 simp only[aZ.post]
 have NVr:=@gF
 cases b with
 | true =>
  obtain⟨x,p1,x0,x1,e1⟩:=Ap h p 4 (by omega)
  obtain⟨e,el,ee⟩:=adl x0 x1
  simp(disch:=omega)only[aW,aa,simprocAttr,q2,q3,q4,q5,e1,ee,cG,bN,ajm,ajn,an,cb,ajw,ajv,aiQ,aJ,cj,aiU,aiX,cQ,cg,cd,cK,cL,cP,cJ,dJ,gF,Vd]
  exact⟨{ so with fin:=e },⟨⟨hG.a,hG.ul,hG.ub,hG.dl,hG.db,hG.hl,hG.hb,el⟩,hV⟩,rfl⟩
 | false =>
  simp(disch:=omega)only[aW,aa,simprocAttr,q2,q3,q4,q5,cG,bN,ajm,ajn,an,cb,ajw,ajv,aiQ,aJ,cj,aiU,aiX,cQ,cg,cd,cK,cL,cP,cJ,dJ,gF,Vd]
  exact⟨so,⟨hG,hV⟩,rfl⟩
theorem Pc(l:List Int)(hl:∀ n∈l,zb n)(H:ag):∃ so,(Ic 4 so/\∀ f∈so.defs,DR f)/\aA A 5 [.slice (ints l) false] H=some (.agg (Qh so),none):=by
 have key:∃ r,aA A 5 [.slice (ints l) false] H=some r/\∃ so,(Ic 4 so/\∀ f∈so.defs,DR f)/\r=(.agg (Qh so),none):=by
  obtain⟨c,hc⟩:∃ c:Cc,c=⟨H.length,l⟩:=⟨_,rfl⟩
  obtain⟨K,hK⟩:∃ K,K=H++[.box 55 [.slice (ints l) false,.int .i64 0]]:=⟨_,rfl⟩
  have Zv:c.mm=H.length:=by rw[hc]
  have h:CH c 0 K:=⟨by rw[Zv,hK];rw[hc];exact cX,by rw[hc];exact hl,by rw[Zv,hK];simp⟩
  have hs0:bZ c 0 K=K:=by
   unfold bZ
   refine akd fun j=>?_
   rw[ajF]
   split
   ·rename_i e;subst e;rw[if_pos h.lt,h.h0]
   ·rfl
  obtain⟨u,p1,ul,e1⟩:=HS h 0
  rw[hs0] at e1
  obtain⟨x,p2,x0,x1,e2⟩:=Ap h p1 2 (by omega)
  refine lg (fn:=yC) rfl rfl rfl rfl ?_
  rw[<- Zv]
  refine ib 3 (fun s=>∃ T p g b so,s=⟨T,bZ c p K,c.mm,g⟩/\SA c so b T/\Ic 4 so/\so.k9=[]/\so.defs=[]) ?_ ?_
  ·unfold yC
   simp only[aZ.pre]
   have hK' : H++[de.box 55 [.slice (ints l) false,.int .i64 0]]=K:=hK.symm
   simp(disch:=omega)only[aW,aa,simprocAttr,<- Zv,hK',e1,e2,cF,cb,ajw,ajv,aiQ,aJ]
   refine⟨_,_,_,x==1,⟨u,[],[],[],[]⟩,rfl,⟨?_,?_,?_,1,?_⟩,⟨ul.1,by simp,by simp,by simp,by simp,by simp,by simp,by simp⟩,rfl,rfl⟩
   all_goals simp(disch:=omega)only[aM,aa,simprocAttr,o5,aiX]
  ·rintro s ⟨T,p,g,b,so,rfl,PT,hG,hu,hd⟩
   refine ib 0 _ (T3 h PT hG hu hd) fun s1 h1=>?_
   rw[ng]
   refine ib 1 _ (T2 h h1) fun s2 h2=>?_
   have e:(yC.body.post 4).post 1=yC.body.post 6:=rfl
   rw[e]
   refine ib 0 _ (T1 h h2) fun s3 h3=>?_
   rw[ng]
   exact Pd h rfl h3
 obtain⟨r,h1,so,h2,rfl⟩:=key
 exact⟨so,h2,h1⟩
theorem aai:A.aP 0=[.func (.func 100) [] [],.func (.func 187) [] [],.func (.func 188) [] [],.func (.func 188) [] []]:=rfl
theorem aaj:A.aP 1=jj.map .str:=rfl
theorem tT{c:UInt8} : gD c=decide (kindOf c=1):=by
 unfold kindOf
 cases h:gD c<;>cases h2:isDigit c<;>simp
theorem qx{c:UInt8} : isDigit c=decide (kindOf c=2):=by
 unfold kindOf
 cases h:gD c<;>cases h2:isDigit c<;>simp
 simp only[gD,isDigit,akh,aiL,ai2] at h h2
 omega
def k8(s:aV):List aV->Nat
 | []=>0
 | x :: r=>if x.isPrefixOf s then x.length else k8 s r
theorem rU{b:UInt8}{r:aV} : ∀ l:aV,k8 (b :: r) (l.map fun x=>[x])=if l.contains b=true then 1 else 0
 | []=>rfl
 | x :: l=>by
  simp only[aiU,k8,List.isPrefixOf,List.isPrefixOf_nil_left,akw,akB,akh,rU l,List.length_cons,aiR]
  by_cases h:x=b
  ·subst h;simp
  ·have h1:(x==b)=false:=by simpa using h
   have h2:(b==x)=false:=by simpa using fun e=>h e.symm
   simp[h1,h2]
theorem Dw{b:UInt8}{r:aV}(h:kindOf b=0):k8 (b :: r) jj=fE (b :: r):=by
 simp only[fE]
 rw[if_neg (by omega)]
 have Ac:gb [b]=jM.contains b:=by unfold gb;simp
 rw[Ac]
 have two:(1<=r.length/\gb ((b :: r).take 2)=true)↔([61,61].isPrefixOf (b :: r)=true\/[45,62].isPrefixOf (b :: r)=true):=by
  cases r with
  | nil=>simp[List.isPrefixOf]
  | cons c r' =>
   simp only[ajP,ajJ,gb,List.isPrefixOf,List.length_cons,aiR]
   simp
   constructor
   ·rintro (⟨rfl,rfl⟩|⟨rfl,rfl⟩)<;>simp
   ·rintro (⟨rfl,rfl⟩|⟨rfl,rfl⟩)<;>simp
 have e:jj=[61,61] :: [45,62] :: (jM.map fun x=>[x]):=rfl
 rw[e]
 simp only[k8,rU]
 by_cases h2:[61,61].isPrefixOf (b :: r)=true
 ·rw[if_pos h2,if_pos (two.2 (.inl h2))];rfl
 rw[if_neg h2]
 by_cases h3:[45,62].isPrefixOf (b :: r)=true
 ·rw[if_pos h3,if_pos (two.2 (.inr h3))];rfl
 rw[if_neg h3,if_neg (fun h=>(two.1 h).elim h2 h3)]
theorem Um(s:aV)(H:ag)(Ka:s≠[])(hs:s.length<=4611686018427387904):aA A 36 [.str s] H=some (.int .i64 (fE s),none):=by
 refine bb (fn:=NL) rfl rfl rfl ?_
 unfold NL
 obtain⟨b,r,qt⟩:∃ b r,s=b :: r:=by cases s with|nil=>exact absurd rfl Ka|cons b r=>exact⟨b,r,rfl⟩
 have hb:s[0]?=some b:=by rw[qt];rfl
 have hd:s.drop 1=r:=by rw[qt];rfl
 simp(disch:=omega)only[fV,aa,simprocAttr,aai]
 cases hl:gD b with
 | true =>
  have hk:kindOf b=1:=by rw[tT] at hl;simpa using hl
  refine qO ?_
  simp(disch:=omega)only[fV,aa,simprocAttr,ba,putAt,hb,vT,hl]
  refine bY s.length 2 (fun i=>Hd (fun T=>T 0=.str s/\T 4=.lbox 0 [.func (.func 100) [] [],.func (.func 187) [] []]/\T 5=.int .i64 i/\1<=i/\1+bX 1 r=i+bX 1 (s.drop i)) H H.length 1)
   (Hd (fun T=>T 5=.int .i64 ((1+bX 1 r:Nat):Int)) H H.length 1) (fun _=>False) ?_ ?_ (fun _ h=>h.elim) 1 _ (by rw[qt];simp) ?_
  ·rintro i st hi iR
   obtain⟨T,rfl,h0,h4,h5,hi1,hc⟩:=iR.out
   by_cases h:i<s.length
   ·rw[ajc h] at hc
    have uH:s[i]?=some s[i]:=aiJ h
    generalize s[i]=c at hc uH
    simp only[bX,aj4] at hc
    have he:(gD c || isDigit c)=decide (kindOf c=2\/kindOf c=1):=by rw[tT,qx];by_cases e1:kindOf c=1<;>by_cases e2:kindOf c=2<;>simp[e1,e2]
    by_cases nY:kindOf c=2\/kindOf c=1
    ·rw[if_pos nY] at hc
     simp(disch:=omega)only[aM,aa,simprocAttr,h0,h4,h5,uH,BR,he,nY]
     omega
    ·rw[if_neg nY] at hc
     simp(disch:=omega)only[aM,aa,simprocAttr,h0,h4,h5,uH,BR,he,nY]
     omega
   ·have:i=s.length:=by omega
    subst this
    rw[akr] at hc
    simp only[bX] at hc
    simp(disch:=omega)only[aM,aa,simprocAttr,h0,h4,h5]
    omega
  ·intro st iR
   obtain⟨T,rfl,h5⟩:=iR.out
   have ht:fE s=if 16<1+bX 1 r then 0 else 1+bX 1 r:=by rw[qt];simp only[fE,hk,if_pos (show (0:Int)<1 by omega)]
   by_cases QI:16<1+bX 1 r
   ·rw[if_pos QI] at ht
    simp(disch:=omega)only[aM,aa,simprocAttr,h5,ht]
   ·rw[if_neg QI] at ht
    simp(disch:=omega)only[aM,aa,simprocAttr,h5,ht]
  ·simp(disch:=omega)only[fV,aa,simprocAttr,hd]
 | false =>
  refine qO ?_
  simp(disch:=omega)only[fV,aa,simprocAttr,ba,putAt,hb,vT,hl]
  refine qO ?_
  cases QQ:isDigit b with
  | true =>
   have hk:kindOf b=2:=by rw[qx] at QQ;simpa using QQ
   simp(disch:=omega)only[fV,aa,simprocAttr,ba,putAt,hb,rb,QQ]
   refine bY s.length 2 (fun i=>Hd (fun T=>T 0=.str s/\T 4=.lbox 1 [.func (.func 188) [] [],.func (.func 188) [] []]/\T 5=.int .i64 i/\1<=i/\1+bX 2 r=i+bX 2 (s.drop i)) H H.length 2)
    (Hd (fun T=>T 5=.int .i64 ((1+bX 2 r:Nat):Int)) H H.length 2) (fun _=>False) ?_ ?_ (fun _ h=>h.elim) 1 _ (by rw[qt];simp) ?_
   ·rintro i st hi iR
    obtain⟨T,rfl,h0,h4,h5,hi1,hc⟩:=iR.out
    by_cases h:i<s.length
    ·rw[ajc h] at hc
     have uH:s[i]?=some s[i]:=aiJ h
     generalize s[i]=c at hc uH
     simp only[bX,show ((2:Int)=1)=False by simp,ak7,alq] at hc
     have he:isDigit c=decide (kindOf c=2):=qx
     by_cases nY:kindOf c=2
     ·rw[if_pos nY] at hc
      simp(disch:=omega)only[aM,aa,simprocAttr,h0,h4,h5,uH,rb,he,nY]
      omega
     ·rw[if_neg nY] at hc
      simp(disch:=omega)only[aM,aa,simprocAttr,h0,h4,h5,uH,rb,he,nY]
      omega
    ·have:i=s.length:=by omega
     subst this
     rw[akr] at hc
     simp only[bX] at hc
     simp(disch:=omega)only[aM,aa,simprocAttr,h0,h4,h5]
     omega
   ·intro st iR
    obtain⟨T,rfl,h5⟩:=iR.out
    have ht:fE s=if 16<1+bX 2 r then 0 else 1+bX 2 r:=by rw[qt];simp only[fE,hk,if_pos (show (0:Int)<2 by omega)]
    by_cases QI:16<1+bX 2 r
    ·rw[if_pos QI] at ht
     simp(disch:=omega)only[aM,aa,simprocAttr,h5,ht]
    ·rw[if_neg QI] at ht
     simp(disch:=omega)only[aM,aa,simprocAttr,h5,ht]
   ·simp(disch:=omega)only[fV,aa,simprocAttr,hd]
  | false =>
   have hk:kindOf b=0:=by unfold kindOf;rw[hl,QQ];rfl
   simp(disch:=omega)only[fV,aa,simprocAttr,ba,putAt,hb,rb,QQ]
   refine qO ?_
   simp(disch:=omega)only[fV,aa,simprocAttr,aaj]
   refine Pq (.agg (jj.map .str)) (by kernel_rfl) rfl ?_
   simp(disch:=omega)only[fV,aa,simprocAttr]
   have aem:k8 s jj=fE s:=by rw[qt];exact Dw hk
   have h18:jj.length=18:=rfl
   refine bY 18 4 (fun i=>Hd (fun T=>T 0=.str s/\T 36=.agg (jj.map .str)/\T 37=.int .i64 i/\fE s=k8 s (jj.drop i)) H H.length 2)
    (Hd (fun T=>fE s=0) H H.length 2) (Hd (fun T=>T 2=.int .i64 (fE s)) H H.length 2) ?_ ?_ ?_ 0 _ (by omega) ?_
   ·rintro i st hi iR
    obtain⟨T,rfl,h0,h36,h37,hc⟩:=iR.out
    by_cases h:i<18
    ·have jW:i<jj.length:=by rw[h18];exact h
     have hx:(jj.map AV.str)[i]?=some (.str jj[i]):=by rw[aiW,aiJ jW];rfl
     rw[ajc jW] at hc
     simp only[k8] at hc
     generalize jj[i]=x at hc hx
     cases hp:x.isPrefixOf s with
     | true =>
      rw[if_pos hp] at hc
      simp(disch:=omega)only[aM,aa,simprocAttr,h0,h36,h37,akf,hx,tK,hp]
      omega
     | false =>
      rw[if_neg (by simp[hp])] at hc
      simp(disch:=omega)only[aM,aa,simprocAttr,h0,h36,h37,akf,hx,tK,hp]
      exact⟨h,hc⟩
    ·have:i=18:=by omega
     subst this
     rw[show jj.drop 18=[] from rfl] at hc
     simp only[k8] at hc
     simp(disch:=omega)only[aM,aa,simprocAttr,h37,hc]
   ·intro st iR
    obtain⟨T,rfl,hc⟩:=iR.out
    simp(disch:=omega)only[fV,aa,simprocAttr,hc]
   ·intro st iR
    obtain⟨T,rfl,hc⟩:=iR.out
    simp(disch:=omega)only[fV,aa,simprocAttr,hc]
   ·simp(disch:=omega)only[fV,aa,simprocAttr,aem]
theorem wH:∀ (r:aV) (j:Nat),(gQ 10 j r<0/\gQ 10 j r=-1/\bB true r=r.length)\/(∃ k:Nat,gQ 10 j r=((j+k:Nat):Int)/\k<r.length/\bB true r=k+bB false (r.drop k))
 | [],j=>.inl ⟨by simp[gQ],by simp[gQ],rfl⟩
 | b :: r,j=>by
  by_cases hb:b.toNat=10
  ·refine .inr ⟨0,?_,by simp,?_⟩
   ·simp[gQ,hb]
   ·simp[bB,hb]
  ·have h1:bB true (b :: r)=1+bB true r:=by
    simp only[bB,if_neg hb]
    split
    ·rfl
    ·simp
   have h2:gQ 10 j (b :: r)=gQ 10 (j+1) r:=by
    simp only[gQ]
    rw[ajO (by omega)];rfl
   rw[h1,h2]
   rcases wH r (j+1) with ⟨k1,k2,k3⟩|⟨k,k1,k2,k3⟩
   ·exact .inl ⟨k1,k2,by rw[k3,List.length_cons];omega⟩
   ·exact .inr ⟨k+1,by rw[k1];congr 1;omega,by simpa using k2,by rw[k3,ako];omega⟩
theorem Cw(s:aV)(H:ag):aA A 66 [.str s,.int .u8 10] H=some (.int .i64 (gQ 10 0 s),none):=mO (g:=fL) rfl rfl
theorem KN(s:aV)(H:ag)(hs:s.length<=4611686018427387904):aA A 35 [.str s] H=some (.int .i64 (bB false s),none):=by
 refine bb (fn:=NK) rfl rfl rfl ?_
 unfold NK
 simp(disch:=omega)only[fV,aa,simprocAttr]
 refine zg 0 (fun k=>Hd (fun T=>∃ n:Nat,T 0=.str s/\T 3=.int .i64 n/\n<=s.length/\k=s.length-n/\bB false s=n+bB false (s.drop n)) H H.length 0)
  (Hd (fun T=>T 3=.int .i64 (bB false s)) H H.length 0) (Hd (fun T=>T 2=.int .i64 (bB false s)) H H.length 0) ?_ ?_ ?_ s.length _ ?_
 ·rintro k st iR
  obtain⟨T,rfl,n,h0,h3,hn,hk,hc⟩:=iR.out
  by_cases h:n<s.length
  ·have hx:=aiJ h
   have hd:=ajc h
   generalize s[n]=b at hx hd
   rw[hd] at hc
   have LC:b.toNat<256:=UInt8.toNat_lt b
   by_cases b32:b.toNat=32
   ·have e:bB false (b :: s.drop (n+1))=1+bB false (s.drop (n+1)):=by simp[bB,b32]
    rw[e] at hc
    simp(disch:=omega)only[aM,aa,simprocAttr,h0,h3,hx]
    exact⟨s.length-(n+1),by omega,n+1,by omega,by omega,rfl,by omega⟩
   by_cases b10:b.toNat=10
   ·have e:bB false (b :: s.drop (n+1))=1+bB false (s.drop (n+1)):=by simp[bB,b10]
    rw[e] at hc
    simp(disch:=omega)only[aM,aa,simprocAttr,h0,h3,hx]
    exact⟨s.length-(n+1),by omega,n+1,by omega,by omega,rfl,by omega⟩
   by_cases b35:b.toNat=35
   ·have e:bB false (b :: s.drop (n+1))=1+bB true (s.drop (n+1)):=by simp[bB,b35]
    rw[e] at hc
    have hi:gQ 10 0 (s.drop n)=gQ 10 1 (s.drop (n+1)):=by
     rw[hd];simp only[gQ];rw[ajO (by omega)];rfl
    have hlen:(s.drop (n+1)).length=s.length-(n+1):=ajB ..
    rcases wH (s.drop (n+1)) 1 with ⟨k1,k2,k3⟩|⟨j,k1,k2,k3⟩
    ·rw[k2] at hi
     rw[k3] at hc
     simp(disch:=omega)only[aM,aa,simprocAttr,h0,h3,hx,ajU,Cw,hi]
     omega
    ·rw[k1] at hi
     rw[k3,aj9] at hc
     simp(disch:=omega)only[aM,aa,simprocAttr,h0,h3,hx,ajU,Cw,hi]
     exact⟨s.length-(n+(1+j)),by omega,n+(1+j),by omega,by omega,rfl,by rw[hc,show n+1+j=n+(1+j) by omega];omega⟩
   ·have e:bB false (b :: s.drop (n+1))=0:=by simp[bB,b32,b10,b35]
    rw[e] at hc
    simp(disch:=omega)only[aM,aa,simprocAttr,h0,h3,hx]
    omega
  ·have:n=s.length:=by omega
   subst this
   rw[akr] at hc
   simp only[bB] at hc
   simp(disch:=omega)only[aM,aa,simprocAttr,h0,h3]
   omega
 ·intro st iR
  obtain⟨T,rfl,h3⟩:=iR.out
  simp(disch:=omega)only[fV,aa,simprocAttr,h3]
 ·intro st iR
  obtain⟨T,rfl,h2⟩:=iR.out
  simp(disch:=omega)only[fV,aa,simprocAttr,h2]
 ·simp(disch:=omega)only[fV,aa,simprocAttr]
  exact⟨0,by omega,by omega,by omega,by simp⟩
structure Tok where
 text:aV
 before:aV
 deriving DecidableEq
def FB(t:Tok):List AV:=[.str t.text,.str t.before]
def fw(l:List Tok):List (List AV):=l.map FB
theorem rX{l:List Tok} : (fw l).length=l.length:=by simp[fw]
theorem Un{l:List Tok}{i:Nat}{t:Tok}(h:l[i]?=some t):(fw l)[i]?=some (FB t):=by simp[fw,h]
def jz(r:aV)(off:Nat):List Tok × aV × Int :=
 if bB false r=r.length then ([],r, -1)
 else if h2:fE (r.drop (bB false r))=0 then ([],[],((off+bB false r:Nat):Int))
 else
  let x:=jz (r.drop (bB false r+fE (r.drop (bB false r)))) (off+(bB false r+fE (r.drop (bB false r))))
  if x.2.2=-1 then (⟨(r.drop (bB false r)).take (fE (r.drop (bB false r))),r.take (bB false r)⟩ :: x.1,x.2.1, -1) else ([],[],x.2.2)
termination_by r.length
decreasing_by
 have:=oZ false r
 have:=H9 (r.drop (bB false r))
 simp only[ajB] at this ⊢
 omega
def pV(s:aV):List Tok × aV × Int:=if 8192<s.length then ([],[],8192) else jz s 0
def ahead(acc:List Tok)(x:List Tok × aV × Int):List Tok × aV × Int:=if x.2.2=-1 then (acc++x.1,x.2.1, -1) else ([],[],x.2.2)
theorem Pf{r:aV}{off:Nat}(h:bB false r=r.length)(acc:List Tok):ahead acc (jz r off)=(acc,r, -1):=by
 rw[jz,if_pos h]
 simp[ahead]
theorem Pe{r:aV}{off:Nat}(h:bB false r≠r.length)(h2:fE (r.drop (bB false r))=0)(acc:List Tok):ahead acc (jz r off)=([],[],((off+bB false r:Nat):Int)):=by
 rw[jz,if_neg h,dif_pos h2]
 simp only[ahead]
 rw[if_neg (by omega)]
theorem Pg{r:aV}{off:Nat}(h:bB false r≠r.length)(h2:fE (r.drop (bB false r))≠0)(acc:List Tok) :
  ahead acc (jz r off)=ahead (acc++[⟨(r.drop (bB false r)).take (fE (r.drop (bB false r))),r.take (bB false r)⟩]) (jz (r.drop (bB false r+fE (r.drop (bB false r)))) (off+(bB false r+fE (r.drop (bB false r))))):=by
 conv=>lhs;rw[jz,if_neg h,dif_neg h2]
 simp only[ahead]
 split
 ·simp
 ·rename_i hx;simp[hx]
theorem JZ{s:aV}{off k n:Nat}(hk:bB false (s.drop off)=k)(hn:fE (s.drop (off+k))=n)(h:k≠s.length-off)(h2:n≠0)(acc:List Tok) :
  ahead acc (jz (s.drop off) off)=ahead (acc++[⟨(s.take (off+k+n)).drop (off+k),(s.take (off+k)).drop off⟩]) (jz (s.drop (off+k+n)) (off+k+n)):=by
 subst hk
 rw[<- aj9] at hn
 rw[Pg (by rw[ajB];exact h) (by rw[hn];exact h2),hn]
 rw[aj9,aj9,List.take_drop,List.take_drop,akm]
theorem Io(s:aV)(h:¬ 8192<s.length):ahead [] (jz s 0)=pV s:=by
 unfold pV
 rw[if_neg h]
 have key:∀ (r:aV) (off:Nat),(jz r off).2.2≠-1->jz r off=([],[],(jz r off).2.2):=by
  intro r off hx
  rw[jz] at hx ⊢
  split at hx
  ·exact absurd rfl hx
  ·rename_i h1
   rw[if_neg h1]
   split at hx
   ·rename_i h2;rw[dif_pos h2]
   ·rename_i h2
    rw[dif_neg h2]
    simp only at hx ⊢
    split at hx
    ·exact absurd rfl hx
    ·rename_i h3;rw[if_neg h3]
 unfold ahead
 split
 ·rename_i hx
  simp[<- hx]
 ·rename_i hx
  exact (key s 0 hx).symm
theorem y7{l:List Tok} : tA 2 (fw l) :=
 ⟨fun r hr=>by simp only[fw,ai5] at hr;obtain⟨n,_,rfl⟩:=hr;rfl,sX fun r hr=>by simp only[fw,ai5] at hr;obtain⟨n,_,rfl⟩:=hr;rfl⟩
theorem KF{l m:List Tok}{o:Bool}(h:l.length+m.length<=1099511627776):aq false 2 32 (.slice (fw l) true) (.slice (fw m) o)=some (.slice (fw (l++m)) true):=by
 rw[sq y7 y7 (by rw[rX,rX];omega) (by rw[rX,rX];omega)];simp[fw]
theorem P6{l:List Tok}{a b:aV}{o:Bool}(h:l.length<=1000000):aq false 2 32 (.slice (fw l) true) (.slice [[.str a,.str b]] o)=some (.slice (fw (l++[⟨a,b⟩])) true):=KF (m:=[⟨a,b⟩]) (by simp;omega)
theorem TY(s:aV)(H:ag)(hs:s.length<=4611686018427387904) :
  aA A 16 [.str s] H=some (.tuple [.slice (fw (pV s).1) false,.str (pV s).2.1,.int .i64 (pV s).2.2],none):=by
 refine bb (fn:=Nv) rfl rfl rfl ?_
 unfold Nv
 by_cases aau:8192<s.length
 ·have e:pV s=([],[],8192):=by unfold pV;rw[if_pos aau]
  rw[e]
  simp(disch:=omega)only[aM,aa,simprocAttr]
  rfl
 have e:=Io s aau
 generalize pV s=R at e
 simp(disch:=omega)only[aM,aa,simprocAttr]
 refine zg 0 (fun k=>Hd (fun T=>∃ (off:Nat) (acc:List Tok),T 0=.str s/\T 5=.slice (fw acc) true/\T 6=.int .i64 off/\off<=s.length/\k=s.length-off/\acc.length<=off/\ahead acc (jz (s.drop off) off)=R) H H.length 0)
  (fun _=>False) (Hd (fun T=>∃ o,T 2=.slice (fw R.1) o/\T 3=.str R.2.1/\T 4=.int .i64 R.2.2) H H.length 0) ?_ (fun _ h=>h.elim) ?_ s.length _ ?_
 ·rintro k st iR
  obtain⟨T,rfl,off,acc,h0,h5,h6,WI,hk,Cn,hc⟩:=iR.out
  have Jk:=KN (s.drop off) H (by rw[ajB];omega)
  have hle:=oZ false (s.drop off)
  rw[ajB] at hle
  by_cases Jc:bB false (s.drop off)=(s.drop off).length
  ·rw[Pf Jc] at hc
   subst hc
   rw[ajB] at Jc
   rw[Jc] at Jk
   have e1:(off:Int)+((s.length-off:Nat):Int)=(s.length:Int):=by omega
   generalize s.length-off=q at Jk e1
   simp(disch:=omega)only[aM,aa,simprocAttr,h0,h5,h6,Jk,ajU,e1]
   exact⟨false,rfl⟩
  ·have a7:bB false (s.drop off)<s.length-off:=by rw[ajB] at Jc;omega
   have US:=Um (s.drop (off+bB false (s.drop off))) H (fun e=>by have:=ak2 List.length e;rw[ajB,aiR] at this;omega) (by rw[ajB];omega)
   have ZD:=H9 (s.drop (off+bB false (s.drop off)))
   rw[ajB] at ZD
   by_cases ur:fE (s.drop (off+bB false (s.drop off)))=0
   ·rw[Pe Jc (by rw[aj9];exact ur)] at hc
    subst hc
    rw[ur] at US
    generalize bB false (s.drop off)=k at Jk US a7
    have e1:(off:Int)+(k:Int)=((off+k:Nat):Int):=by omega
    generalize hm:off+k=m at Jk US e1
    have QR:off<=m:=by omega
    have ZA:m<s.length:=by omega
    clear hm
    simp(disch:=omega)only[aM,aa,simprocAttr,h0,h5,h6,Jk,US,ajU,e1]
    exact⟨true,rfl,rfl⟩
   ·generalize pH:bB false (s.drop off)=k at Jk US a7 ur ZD
    generalize hn' : fE (s.drop (off+k))=n at US ur ZD
    rw[JZ pH hn' (by omega) ur] at hc
    have aaL:off+k+n<=s.length:=by omega
    have hn0:0<n:=by omega
    have e1:(off:Int)+(k:Int)=((off+k:Nat):Int):=by omega
    generalize hm:off+k=m at Jk US hc aaL e1
    have QR:off<=m:=by omega
    have ZA:m<s.length:=by omega
    clear hm pH hn' ZD a7 Jc hle
    have e2:(m:Int)+(n:Int)=((m+n:Nat):Int):=by omega
    generalize hp:m+n=p at hc aaL e2
    have hp1:m<p:=by omega
    clear hp
    simp(disch:=omega)only[aM,aa,simprocAttr,h0,h5,h6,Jk,US,P6,ajU,e1,e2]
    exact⟨s.length-p,by omega,p,_,rfl,rfl,by omega,rfl,by simp;omega,hc⟩
 ·intro st iR
  obtain⟨T,rfl,o,h2,h3,h4⟩:=iR.out
  simp(disch:=omega)only[fV,aa,simprocAttr,h2,h3,h4]
 ·simp(disch:=omega)only[fV,aa,simprocAttr,ajW,ajl]
  exact⟨0,[],rfl,rfl,by omega,by omega,by simp,by simpa using e⟩
def Cut(r:aV):Prop:=r=[]\/∃ b t,r=b :: t/\(b=32\/b=10\/b=35\/b=41\/b=93\/b=44\/b=46)
theorem Whole.cut{x r:aV}(h:Whole x)(hx:x≠[]):Cut (x++r):=by
 cases x with
 | nil=>exact (hx rfl).elim
 | cons b t =>
  refine .inr ⟨b,t++r,rfl,?_⟩
  have h0:=h []
  simp only[ajh,bB,List.length_cons] at h0
  by_cases h1:b.toNat=10
  ·exact .inr (.inl (UInt8.toNat_inj.1 h1))
  by_cases h2:b.toNat=35
  ·exact .inr (.inr (.inl (UInt8.toNat_inj.1 h2)))
  by_cases h3:b.toNat=32
  ·exact .inl (UInt8.toNat_inj.1 h3)
  rw[if_neg h1,if_neg h2,if_pos ⟨h3,trivial⟩] at h0
  omega
def fX(s:aV):Prop:=s≠[]/\fE s=s.length
theorem uf(k:Int){r:aV}(hr:bX k r=0):∀ s:aV,bX k s=s.length->bX k (s++r)=s.length
 | [],_=>hr
 | c :: s,h=>by
  have hl:=nT k s
  simp only[bX,List.length_cons,aj7] at h ⊢
  by_cases hc:kindOf c=2\/kindOf c=1/\k=1
  ·rw[if_pos hc] at h ⊢
   rw[uf k hr s (by omega)]
   omega
  ·rw[if_neg hc] at h
   omega
theorem Qa{r:aV}(h:Cut r)(k:Int):bX k r=0:=by
 rcases h with rfl|⟨b,t,rfl,hb⟩
 ·rfl
 ·have hk:kindOf b=0:=by rcases hb with rfl|rfl|rfl|rfl|rfl|rfl|rfl<;>decide
  simp only[bX,hk]
  rfl
theorem Qc{c:UInt8}{r:aV}(h:Cut r)(hr:r≠[]):gb ((c :: r).take 2)=false:=by
 rcases h with rfl|⟨b,t,rfl,hb⟩
 ·exact (hr rfl).elim
 ·have h1:b≠61/\b≠62:=by rcases hb with rfl|rfl|rfl|rfl|rfl|rfl|rfl<;>decide
  simp[gb,h1.1,h1.2]
theorem fX.cut{s r:aV}(h:fX s)(hr:Cut r):fE (s++r)=s.length:=by
 obtain⟨hs,ht⟩:=h
 cases s with
 | nil=>exact (hs rfl).elim
 | cons b t =>
  simp only[fE,List.length_cons,aj7] at ht ⊢
  by_cases hk:0<kindOf b
  ·rw[if_pos hk] at ht ⊢
   by_cases QI:16<1+bX (kindOf b) t
   ·rw[if_pos QI] at ht;omega
   ·rw[if_neg QI] at ht
    have e:=uf (kindOf b) (Qa hr (kindOf b)) t (by omega)
    rw[e,if_neg (by omega)];omega
  ·rw[if_neg hk] at ht ⊢
   cases t with
   | nil =>
    simp only[aiR,aj5] at ht ⊢
    rw[if_neg (by simp)] at ht
    by_cases F9:r=[]
    ·subst F9
     rw[if_neg (by simp)];exact ht
    ·have e:=Qc (c:=b) hr F9
     rw[if_neg (fun h=>by rw[e] at h;exact absurd h.2 (by decide))];exact ht
   | cons c u =>
    have e2:((b :: (c :: u)).take 2)=[b,c]:=rfl
    have e3:((b :: ((c :: u)++r)).take 2)=[b,c]:=rfl
    rw[e2] at ht
    rw[e3]
    simp only[List.length_cons,List.length_append,aj7] at ht ⊢
    by_cases QW:gb [b,c]=true
    ·rw[if_pos ⟨by omega,QW⟩] at ht ⊢;exact ht
    ·rw[if_neg (fun h=>QW h.2)] at ht
     split at ht<;>omega
theorem qF{s:aV}(h:s=[40]\/s=[91]\/s=[46])(r:aV):fE (s++r)=s.length:=by
 have h2:∀ b:UInt8,(b=40\/b=91\/b=46)->fE (b :: r)=1:=by
  intro b hb
  have hk:¬ 0<kindOf b:=by rcases hb with rfl|rfl|rfl<;>decide
  have h1:gb [b]=true:=by rcases hb with rfl|rfl|rfl<;>decide
  have hn:gb ((b :: r).take 2)=false\/¬ 1<=r.length:=by
   cases r with
   | nil=>exact .inr (by simp)
   | cons c u =>
    left
    have:b≠61/\b≠45:=by rcases hb with rfl|rfl|rfl<;>decide
    simp[gb,this.1,this.2]
  simp only[fE]
  rw[if_neg hk,if_neg (by rintro ⟨a,b⟩;rcases hn with hn|hn<;>simp_all),if_pos h1]
 rcases h with rfl|rfl|rfl
 ·exact h2 40 (by decide)
 ·exact h2 91 (by decide)
 ·exact h2 46 (by decide)
theorem fX.skip{s r:aV}(h:fX s):bB false (s++r)=0:=by
 obtain⟨hs,ht⟩:=h
 cases s with
 | nil=>exact (hs rfl).elim
 | cons b t =>
  have hb:b≠10/\b≠35/\b≠32:=by
   refine⟨?_,?_,?_⟩<;>rintro rfl<;>simp only[fE,List.length_cons] at ht <;>
    rw[if_neg (by decide)] at ht<;>(cases t with
     | nil=>simp at ht;revert ht;decide
     | cons c u=>simp[gb,jM] at ht)
  have h1:b.toNat≠10:=fun e=>hb.1 (UInt8.toNat_inj.1 e)
  have h2:b.toNat≠35:=fun e=>hb.2.1 (UInt8.toNat_inj.1 e)
  have h3:b.toNat≠32:=fun e=>hb.2.2 (UInt8.toNat_inj.1 e)
  simp only[aj7,bB]
  rw[if_neg h1,if_neg h2,if_pos ⟨h3,trivial⟩]
def glue:List aV->List aV->aV
 | _,[]=>[]
 | [],x :: _=>x
 | t :: ts,x :: xs=>x++(t++glue ts xs)
def kN:List aV->List aV->List Tok
 | t :: ts,x :: xs=>⟨t,x⟩ :: kN ts xs
 | _,_=>[]
inductive Kp:List aV->List aV->Prop where
 | nil {x:aV} (h:Whole x):Kp [] [x]
 | cons {t x:aV} {ts xs:List aV} (hx:Whole x) (ht:fX t) (hl:fE (t++glue ts xs)=t.length) (hr:Kp ts xs):Kp (t :: ts) (x :: xs)
theorem yY:∀ (ts xs:List aV) (off:Nat),Kp ts xs->jz (glue ts xs) off=(kN ts xs,xs.getLastD [], -1)
 | [],xs,off,h=>by
  cases h with
  | nil hx =>
   rename_i x
   have e:bB false x=x.length:=by have:=hx [];simpa [bB] using this
   rw[glue,jz,if_pos e]
   rfl
 | t :: ts,xs,off,h=>by
  cases h with
  | cons hx ht hl hr =>
   rename_i x xs
   have ih:=fun off=>yY ts xs off hr
   have e1:bB false (x++(t++glue ts xs))=x.length:=by rw[hx,ht.skip];rfl
   have cU:t.length≠0:=by simpa using ht.1
   have e2:(x++(t++glue ts xs)).drop x.length=t++glue ts xs:=by simp
   have e3:(x++(t++glue ts xs)).drop (x.length+t.length)=glue ts xs:=by rw[<- aj9,e2];simp
   have e4:(x++(t++glue ts xs)).take x.length=x:=by simp
   have ad9:¬ bB false (x++(t++glue ts xs))=(x++(t++glue ts xs)).length:=by rw[e1];simp only[List.length_append];omega
   have W3:xs≠[]:=by cases hr<;>simp
   rw[glue,jz,if_neg ad9,dif_neg (by rw[e1,e2,hl];exact cU)]
   simp only[e1,e2,hl,e3,e4,ih,ajY,kN]
   have e5:(t++glue ts xs).take t.length=t:=by simp
   have e6:(x :: xs).getLastD []=xs.getLastD []:=by cases xs with
    | nil=>exact (W3 rfl).elim
    | cons a b=>rfl
   rw[e5,e6]
structure lA (ts xs:List aV):Prop where
 len:xs.length=ts.length+1
 w:∀ x∈xs,Whole x
 s:∀ t∈ts,fX t
 g:∀ i,i+1<ts.length->xs.getD (i+1) []≠[]\/kM (ts.getD i []) (ts.getD (i+1) [])=true
theorem jN{t r:aV}(h:t=[41]\/t=[93]\/t=[44]\/t=[46]):Cut (t++r):=by
 rcases h with rfl|rfl|rfl|rfl
 ·exact .inr ⟨41,r,rfl,by decide⟩
 ·exact .inr ⟨93,r,rfl,by decide⟩
 ·exact .inr ⟨44,r,rfl,by decide⟩
 ·exact .inr ⟨46,r,rfl,by decide⟩
theorem lA.Ln:∀ {ts xs:List aV},lA ts xs->Kp ts xs
 | [],xs,h=>by
  obtain⟨hl,hw, -, -⟩:=h
  match xs,hl with
  | [x],_=>exact .nil (hw x (by simp))
 | t :: ts,xs,h=>by
  obtain⟨hl,hw,hs,hg⟩:=h
  match xs,hl with
  | x :: xs,hl =>
   have Aa:xs.length=ts.length+1:=by simpa using hl
   have hr:lA ts xs:=⟨Aa,fun y hy=>hw y (by simp[hy]),fun y hy=>hs y (by simp[hy]),fun i hi=>by
    have:=hg (i+1) (by simp;omega)
    simpa using this⟩
   refine .cons (hw x (by simp)) (hs t (by simp)) ?_ (lA.Ln hr)
   have iR:=hs t (by simp)
   match xs,Aa with
   | y :: ys,Aa =>
    have hy:Whole y:=hw y (by simp)
    by_cases hy0:y=[]
    ·subst hy0
     match ts,Aa with
     | [],_=>simpa [glue] using iR.cut (.inl rfl)
     | u :: us,Aa =>
      have h0:=hg 0 (by simp)
      have ht:kM t u=true:=by simpa using h0
      rw[glue,aj5]
      simp only[kM,akh,ajq] at ht
      rcases ht with (((((h|h)|h)|h)|h)|h)|h
      ·exact iR.cut (jN (.inl h))
      ·exact iR.cut (jN (.inr (.inl h)))
      ·exact iR.cut (jN (.inr (.inr (.inl h))))
      ·exact iR.cut (jN (.inr (.inr (.inr h))))
      ·exact qF (.inl h) _
      ·exact qF (.inr (.inl h)) _
      ·exact qF (.inr (.inr h)) _
    ·refine iR.cut ?_
     cases ts with
     | nil=>rw[glue];have:=hy.cut (r:=[]) hy0;simpa using this
     | cons u us=>rw[glue];exact hy.cut hy0
theorem Lw(t:List aV):glue t []=[]:=by cases t<;>rfl
theorem Hz{B:Nat} : ∀ {ts xs:List aV},(∀ t∈ts,t.length<=B)->(∀ t∈xs,t.length<=B)->(glue ts xs).length<=(2*ts.length+1)*B
 | ts,[],_,_=>by rw[Lw];simp
 | [],x :: xs,_,h2=>by rw[glue];have:=h2 x (by simp);simpa using this
 | t :: ts,x :: xs,h1,h2=>by
  have ih:=Hz (B:=B) (ts:=ts) (xs:=xs) (fun y hy=>h1 y (by simp[hy])) (fun y hy=>h2 y (by simp[hy]))
  have a:=h1 t (by simp)
  have b:=h2 x (by simp)
  rw[glue]
  simp only[List.length_append,List.length_cons]
  have e:(2*(ts.length+1)+1)*B=(2*ts.length+1)*B+2*B:=by rw[<- ajj];congr 1
  omega
theorem JY{ts xs:List aV}(h:lA ts xs)(hl:(glue ts xs).length<=8192):pV (glue ts xs)=(kN ts xs,xs.getLastD [], -1):=by
 rw[pV,if_neg (by omega)]
 exact yY _ _ _ h.Ln
def Ag(layout old now:List aV)(i:Nat):aV :=
 if i<gv old now then layout.getD i []
 else if now.length-cc old now<=i/\(now.length-cc old now<i\/layout.getD (i+old.length-now.length) []≠[]) then layout.getD (i+old.length-now.length) []
 else cS now i
def kept(layout old now:List aV):List aV:=if layout.length=old.length+1 then (List.range (now.length+1)).map (Ag layout old now) else []
theorem rH{layout old now:List aV}(h:layout.length=old.length+1):(kept layout old now).length=now.length+1:=by simp[kept,h]
theorem CF{layout old now:List aV}(h:layout.length=old.length+1){i:Nat}(hi:i<now.length+1):(kept layout old now)[i]?=some (Ag layout old now i):=by simp[kept,h,aj3 hi]
theorem xL(l:List aV)(i:Nat):Whole (cS l i):=by
 unfold cS
 split
 ·exact wW
 ·exact J4
theorem AZ{l:List aV}{i:Nat}(h:i+1<l.length):cS l (i+1)≠[]\/kM (l.getD i []) (l.getD (i+1) [])=true:=by
 unfold cS
 rw[show i+1-1=i from rfl]
 cases ht:kM (l.getD i []) (l.getD (i+1) [])
 ·left;rw[if_pos ⟨by omega,h,rfl⟩];simp
 ·right;rfl
theorem Hb{l:List aV}{i:Nat}(h:i<l.length+1):(dh l).getD i []=cS l i:=by
 simp[dh,List.getD,aj3 h]
theorem Ha{l:List aV}(h:∀ t∈l,fX t):lA l (dh l) where
 len:=by simp[dh]
 w:=by
  intro x hx
  obtain⟨i, -,rfl⟩:=ai5.1 hx
  exact xL l i
 s:=h
 g:=fun i hi=>by rw[Hb (by omega)];exact AZ hi
theorem Ob{layout old:List aV}{k:Nat}{x:aV}(h:layout.length=old.length+1)(hk:k<old.length)(hx:x≠old.getD k [])(hu:cS (old.set k x) k=layout.getD k [])(hn:layout.getD (k+1) []≠[]):kept layout old (old.set k x)=layout:=by
 have g1:∀ j,j≠k->(old.set k x).getD j []=old.getD j []:=fun j hj=>by
  rw[List.getD,List.getD,aj' (aj6 hj)]
 have g2:(old.set k x).getD k []=x:=by rw[List.getD,List.getElem?_set_self hk];rfl
 have ef:gv old (old.set k x)=k:=by
  refine zD _ (by simp;omega) (fun j hj=>?_) (fun _=>?_)
  ·rw[g1 j (by omega)];simp
  ·rw[g2];simpa using aj6 hx
 have hm:min old.length (old.set k x).length-gv old (old.set k x)=old.length-k:=by rw[ef,List.length_set,Nat.min_self]
 have el:cc old (old.set k x)=old.length-1-k:=by
  unfold cc
  rw[hm]
  refine zD _ (by omega) (fun j hj=>?_) (fun hj=>?_)
  ·rw[List.length_set,g1 _ (by omega)];simp
  ·rw[List.length_set,show old.length-1-(old.length-1-k)=k by omega,g2]
   simpa using aj6 hx
 refine akd fun j=>?_
 by_cases hj:j<old.length+1
 ·rw[CF h (by simpa using hj),Ag,ef,el,List.length_set]
  have rZ:j<layout.length:=by omega
  rw[aiJ rZ,<- getD_at (d:=[]) rZ]
  congr 1
  by_cases h1:j<k
  ·rw[if_pos h1]
  ·rw[if_neg h1]
   by_cases h2:j=k
   ·subst h2
    rw[if_neg (by omega)];exact hu
   ·have e:j+old.length-old.length=j:=by omega
    rw[e]
    by_cases h3:j=k+1
    ·subst h3
     rw[if_pos ⟨by omega,.inr hn⟩]
    ·rw[if_pos ⟨by omega,.inl (by omega)⟩]
 ·rw[ajk (show (kept layout old (old.set k x)).length<=j by rw[rH h,List.length_set];omega),ajk (by omega)]
def Sd(l:List aV):Prop:=∀ s∈l,fX s
theorem Sd.nil:Sd []:=by intro s h;cases h
theorem Sd.cons{a:aV}{l:List aV}(h1:fX a)(h2:Sd l):Sd (a :: l):=by
 intro s h
 rcases aja.1 h with rfl|h
 ·exact h1
 ·exact h2 s h
theorem Sd.app{a b:List aV}(h1:Sd a)(h2:Sd b):Sd (a++b):=by
 intro s h
 rcases aiM.1 h with h|h
 ·exact h1 s h
 ·exact h2 s h
theorem Sd.listed:∀ {l:List (List aV)},(∀ x∈l,Sd x)->Sd (aH l)
 | [],_=>by rw[aH];exact Sd.nil
 | [a],h=>by rw[aH];exact h a (by simp)
 | a :: b :: r,h=>by
  rw[aH]
  exact ((h a (by simp)).app (Sd.cons ⟨by decide,by decide⟩ Sd.nil)).app (Sd.listed fun x hx=>h x (by simp only[aja] at hx ⊢;exact .inr hx))
theorem fX.len{s:aV}(h:fX s):s.length<=16:=by
 obtain⟨hs,ht⟩:=h
 cases s with
 | nil=>exact (hs rfl).elim
 | cons b t =>
  simp only[fE,List.length_cons] at ht ⊢
  split at ht
  ·split at ht<;>omega
  ·split at ht
   ·omega
   ·split at ht<;>omega
theorem iG{s:aV}(h:isWord s=true):fX s:=by
 cases s with
 | nil=>cases h
 | cons b t =>
  simp only[isWord,aiL,ai2] at h
  exact⟨by simp,h.2⟩
theorem tF:∀ (f n:Nat) (acc:aV),(∀ b∈acc,kindOf b=2)->∀ b∈dj f n acc,kindOf b=2
 | 0,n,acc,h=>by rw[dj];exact h
 | f+1,n,acc,h=>by
  have one:∀ d:Nat,d<10->kindOf (UInt8.ofNat (48+d))=2:=by
   intro d hd
   have:d=0\/d=1\/d=2\/d=3\/d=4\/d=5\/d=6\/d=7\/d=8\/d=9:=by omega
   rcases this with rfl|rfl|rfl|rfl|rfl|rfl|rfl|rfl|rfl|rfl<;>decide
  have put:∀ d:Nat,d<10->∀ b∈UInt8.ofNat (48+d) :: acc,kindOf b=2:=by
   intro d hd b hb
   rcases aja.1 hb with rfl|hb
   ·exact one d hd
   ·exact h b hb
  rw[dj]
  cases hb:Nat.blt n 10 with
  | true=>rw[cond_true];exact put n (by simpa [ajb] using hb)
  | false=>rw[aiQ];exact tF f (n / 10) _ (put (n % 10) (by omega))
theorem x7:∀ (f n:Nat) (acc:aV),acc≠[]\/0<f->dj f n acc≠[]
 | 0,n,acc,h=>by rw[dj];rcases h with h|h;exact h;omega
 | f+1,n,acc,h=>by
  rw[dj]
  cases Nat.blt n 10 with
  | true=>rw[cond_true];simp
  | false=>rw[aiQ];exact x7 f _ _ (.inl (by simp))
theorem wB:∀ s:aV,(∀ b∈s,kindOf b=2)->bX 2 s=s.length
 | [],_=>rfl
 | b :: s,h=>by
  rw[bX,if_pos (.inl (h b (by simp))),wB s fun c hc=>h c (by simp[hc])]
  simp;omega
theorem tj{n:Nat}(h:n<=2199023255552):fX (ra n):=by
 have h1:=tF (n+1) n [] (by simp)
 have h2:=x7 (n+1) n [] (.inr (by omega))
 have h3:=KY h
 unfold ra at h3 ⊢
 revert h1 h2 h3
 generalize dj (n+1) n []=s
 intro h1 h2 h3
 cases s with
 | nil=>exact (h2 rfl).elim
 | cons b t =>
  refine⟨by simp,?_⟩
  have hb:=h1 b (by simp)
  have hr:=wB t fun c hc=>h1 c (by simp[hc])
  simp only[List.length_cons] at h3 ⊢
  simp only[fE,hb]
  rw[if_pos (by omega),hr,if_neg (by omega)]
  omega
theorem G6{n:Int}(h:0<=n/\n<=11):fX (fm n).1:=by
 have:n=0\/n=1\/n=2\/n=3\/n=4\/n=5\/n=6\/n=7\/n=8\/n=9\/n=10\/n=11:=by omega
 rcases this with rfl|rfl|rfl|rfl|rfl|rfl|rfl|rfl|rfl|rfl|rfl|rfl<;>exact⟨by decide,by decide⟩
theorem Du{s:aV}(h:lX s=true):Sd (cu s):=by
 unfold lX at h
 unfold cu
 rw[aiL] at h
 split
 ·rename_i h2
  rw[h2] at h
  exact Sd.cons (iG h.1) (Sd.cons ⟨by decide,by decide⟩ (Sd.cons (iG (by simpa using h.2)) Sd.nil))
 ·exact Sd.cons (iG h.1) Sd.nil
theorem wG:∀ (h:Nat) (w:Wd),w4 h w->bE w=true->Sd (dn w):=by
 have leaf:∀ (n:aV),bE (.mk n [])=true->Sd (dn (.mk n [])):=by
  intro n hp
  rw[bE] at hp
  by_cases hl:n=gH
  ·rw[if_pos hl] at hp;cases hp
  rw[if_neg hl] at hp
  simp only[dn]
  by_cases h1:n=Dt\/n=uc
  ·rw[if_pos h1]
   rcases h1 with rfl|rfl<;>exact Sd.cons ⟨by decide,by decide⟩ Sd.nil
  ·rw[if_neg h1]
   refine Du ?_
   have e1:(n==Dt)=false:=by simpa using fun e=>h1 (.inl e)
   have e2:(n==uc)=false:=by simpa using fun e=>h1 (.inr e)
   rw[e1,e2] at hp
   simpa using hp
 intro h
 induction h with
 | zero =>
  intro w hb hp
  obtain⟨n,ks⟩:=w
  obtain⟨h1,h2⟩:=hb
  simp only[Wd.kids] at h2
  subst h2
  exact leaf n hp
 | succ h ih =>
  intro w hb hp
  obtain⟨n,ks⟩:=w
  obtain⟨h1,h2,h3⟩:=hb
  simp only[Wd.kids,Wd.name] at h1 h2 h3
  match ks,h2,h3,hp with
  | [],_,_,hp=>exact leaf n hp
  | [k],_,h3,hp =>
   rw[bE] at hp
   by_cases hl:n=gH
   ·rw[if_pos hl] at hp
    rw[dn,if_pos hl]
    exact ((Sd.cons ⟨by decide,by decide⟩ (Sd.cons ⟨by decide,by decide⟩ Sd.nil)).app (ih k (h3 k (by simp)) hp)).app (Sd.cons ⟨by decide,by decide⟩ Sd.nil)
   ·rw[if_neg hl] at hp;cases hp
theorem mE{p:List aV × Int}{k:Int}(h:Sd p.1):Sd (pI p k):=by
 unfold pI
 split
 ·exact ((Sd.cons ⟨by decide,by decide⟩ Sd.nil).app h).app (Sd.cons ⟨by decide,by decide⟩ Sd.nil)
 ·exact h
theorem Pj:∀ {ns:List aV} {tl:List (List aV × Int)},(∀ s∈ns,fX s)->(∀ p∈tl,Sd p.1)->∀ x∈List.zipWith (fun s (x:List aV × Int)=>[s,[61]]++x.1) ns tl,Sd x
 | [],_,_,_,x,hx=>by simp at hx
 | _ :: _,[],_,_,x,hx=>by simp at hx
 | s :: ns,p :: tl,h1,h2,x,hx=>by
  rw[List.zipWith_cons_cons,aja] at hx
  rcases hx with rfl|hx
  ·exact Sd.cons (h1 s (by simp)) (Sd.cons ⟨by decide,by decide⟩ (h2 p (by simp)))
  ·exact Pj (fun u hu=>h1 u (by simp[hu])) (fun q hq=>h2 q (by simp[hq])) x hx
theorem Ph{k n:Int}{a f:aV}{w:Wd}{ns:List aV}{tl:List (List aV × Int)}(hn:k=0->-1099511627776<=n/\n<=1099511627776)(h2:k=2->fX a)(hq:k=3\/k=7\/k=8\/k=9\/k=10->Sd (cu a))(hf:k=8\/k=9->fX f)
  (hw:k=11->Sd (dn w)) (hs:k=4->0<=n/\n<=11) (sQ:∀ s∈ns,fX s) (h:∀ p∈tl,Sd p.1):Sd (jF k n a f w ns tl):=by
 have hl:Sd (aH (tl.map (·.1))):=Sd.listed fun x hx=>by obtain⟨p,hp,rfl⟩:=ai5.1 hx;exact h p hp
 have hz:=Sd.listed (Pj sQ h)
 unfold jF
 by_cases h0:k=0
 ·rw[if_pos h0]
  have:=hn h0
  split
  ·exact Sd.cons ⟨by decide,by decide⟩ (Sd.cons (tj (by omega)) Sd.nil)
  ·exact Sd.cons (tj (by omega)) Sd.nil
 rw[if_neg h0]
 by_cases h1:k=1
 ·rw[if_pos h1]
  split<;>exact Sd.cons ⟨by decide,by decide⟩ Sd.nil
 rw[if_neg h1]
 by_cases UL:k=2
 ·rw[if_pos UL];exact Sd.cons (h2 UL) Sd.nil
 rw[if_neg UL]
 by_cases h3:k=3
 ·rw[if_pos h3]
  have hq:=hq (by omega)
  repeat' first
   | exact Sd.nil
   | exact hq
   | exact hw
   | exact hl
   | exact hz
   | exact h _ (by simp)
   | exact mE (h _ (by simp))
   | refine Sd.app ?_ ?_
   | refine Sd.cons (by first|exact⟨by decide,by decide⟩|exact sQ _ (by simp)|exact hs|exact hf) ?_
 rw[if_neg h3]
 by_cases h4:k=4
 ·rw[if_pos h4]
  have hs:=G6 (hs h4)
  split
  all_goals repeat' first
   | exact Sd.nil
   | exact hq
   | exact hw
   | exact hl
   | exact hz
   | exact h _ (by simp)
   | exact mE (h _ (by simp))
   | refine Sd.app ?_ ?_
   | refine Sd.cons (by first|exact⟨by decide,by decide⟩|exact sQ _ (by simp)|exact hs|exact hf) ?_
 rw[if_neg h4]
 by_cases h5:k=5
 ·rw[if_pos h5]
  split
  all_goals repeat' first
   | exact Sd.nil
   | exact hq
   | exact hw
   | exact hl
   | exact hz
   | exact h _ (by simp)
   | exact mE (h _ (by simp))
   | refine Sd.app ?_ ?_
   | refine Sd.cons (by first|exact⟨by decide,by decide⟩|exact sQ _ (by simp)|exact hs|exact hf) ?_
 rw[if_neg h5]
 by_cases h6:k=6
 ·rw[if_pos h6]
  split
  all_goals repeat' first
   | exact Sd.nil
   | exact hq
   | exact hw
   | exact hl
   | exact hz
   | exact h _ (by simp)
   | exact mE (h _ (by simp))
   | refine Sd.app ?_ ?_
   | refine Sd.cons (by first|exact⟨by decide,by decide⟩|exact sQ _ (by simp)|exact hs|exact hf) ?_
 rw[if_neg h6]
 by_cases h7:k=7
 ·rw[if_pos h7]
  have hq:=hq (by omega)
  repeat' first
   | exact Sd.nil
   | exact hq
   | exact hw
   | exact hl
   | exact hz
   | exact h _ (by simp)
   | exact mE (h _ (by simp))
   | refine Sd.app ?_ ?_
   | refine Sd.cons (by first|exact⟨by decide,by decide⟩|exact sQ _ (by simp)|exact hs|exact hf) ?_
 rw[if_neg h7]
 by_cases h8:k=8
 ·rw[if_pos h8]
  have hq:=hq (by omega)
  have hf:=hf (by omega)
  split
  all_goals repeat' first
   | exact Sd.nil
   | exact hq
   | exact hw
   | exact hl
   | exact hz
   | exact h _ (by simp)
   | exact mE (h _ (by simp))
   | refine Sd.app ?_ ?_
   | refine Sd.cons (by first|exact⟨by decide,by decide⟩|exact sQ _ (by simp)|exact hs|exact hf) ?_
 rw[if_neg h8]
 by_cases h9:k=9
 ·rw[if_pos h9]
  have hq:=hq (by omega)
  have hf:=hf (by omega)
  split
  all_goals repeat' first
   | exact Sd.nil
   | exact hq
   | exact hw
   | exact hl
   | exact hz
   | exact h _ (by simp)
   | exact mE (h _ (by simp))
   | refine Sd.app ?_ ?_
   | refine Sd.cons (by first|exact⟨by decide,by decide⟩|exact sQ _ (by simp)|exact hs|exact hf) ?_
 rw[if_neg h9]
 by_cases h10:k=10
 ·rw[if_pos h10]
  have hq:=hq (by omega)
  split
  all_goals repeat' first
   | exact Sd.nil
   | exact hq
   | exact hw
   | exact hl
   | exact hz
   | exact h _ (by simp)
   | exact mE (h _ (by simp))
   | refine Sd.app ?_ ?_
   | refine Sd.cons (by first|exact⟨by decide,by decide⟩|exact sQ _ (by simp)|exact hs|exact hf) ?_
 rw[if_neg h10]
 by_cases Zs:k=11
 ·rw[if_pos Zs]
  have hw:=hw Zs
  repeat' first
   | exact Sd.nil
   | exact hq
   | exact hw
   | exact hl
   | exact hz
   | exact h _ (by simp)
   | exact mE (h _ (by simp))
   | refine Sd.app ?_ ?_
   | refine Sd.cons (by first|exact⟨by decide,by decide⟩|exact sQ _ (by simp)|exact hs|exact hf) ?_
 rw[if_neg Zs]
 by_cases UK:k=12
 ·rw[if_pos UK]
  split
  all_goals repeat' first
   | exact Sd.nil
   | exact hq
   | exact hw
   | exact hl
   | exact hz
   | exact h _ (by simp)
   | exact mE (h _ (by simp))
   | refine Sd.app ?_ ?_
   | refine Sd.cons (by first|exact⟨by decide,by decide⟩|exact sQ _ (by simp)|exact hs|exact hf) ?_
 rw[if_neg UK]
 exact Sd.nil
theorem H4:∀ (h:Nat) (t:Tm),Ks h t->bD t=true->Sd (aj t)
 | 0,t,hb,_=>by cases hb
 | h+1,t,hb,hp=>by
  have hF:=hb.out
  have hO:=HW hp
  have ih:∀ p∈t.kids.map fun t=>(aj t,dm t),Sd p.1:=fun p hp=>by
   obtain⟨u,hu,rfl⟩:=ai5.1 hp
   exact H4 h u (hF.kb u hu) (hO.kids u hu)
  rw[dY]
  have LU:∀ s∈t.names,fX s:=fun s hs=>by
   have h1:=hO.b1
   unfold mK kn at h1
   simp only[akO,akz] at h1
   exact iG (aiO.1 h1.2 s hs)
  refine Ph (fun hk=>?_) (fun hk=>?_) (fun hk=>?_) (fun hk=>?_) (fun hk=>?_) (fun hk=>?_) LU ih
  ·have h5:=hO.b5
   unfold mL at h5
   rw[decide_eq_true hk] at h5
   simp only[cond_true,akb] at h5
   omega
  ·have h2:=hO.b2
   unfold nx at h2
   have e:gC t.kind=false:=by unfold gC;rw[hk];decide
   rw[e,decide_eq_true hk] at h2
   simp only[aiQ,cond_true,akz] at h2
   exact iG h2
  ·have h2:=hO.b2
   unfold nx at h2
   have e:gC t.kind=true:=by unfold gC;exact decide_eq_true (by omega)
   rw[e] at h2
   simp only[cond_true,akz] at h2
   exact Du h2
  ·have h3:=hO.b3
   unfold n8 at h3
   rw[decide_eq_true hk] at h3
   simp only[cond_true,akz] at h3
   exact iG h3
  ·have h4:=hO.b4
   unfold ny at h4
   rw[decide_eq_true hk] at h4
   simp only[cond_true,akz] at h4
   exact wG 3 _ hF.w h4
  ·have h1:=hO.b1
   unfold mK kn at h1
   simp only[akO,akb] at h1
   have h2:=h1.1.1.1
   by_cases hn:0<=t.n/\t.n<=11
   ·exact hn
   ·exfalso
    apply h2
    have e:fm t.n=([],0):=by unfold fm;rw[if_pos (by omega)]
    unfold bP
    rw[hk,e]
    rfl
theorem TZ{f:Fm}(hF:PM f)(hp:dC f=true):Sd (df f):=by
 unfold dC at hp
 simp only[aiL] at hp
 obtain⟨⟨hn,hs⟩,hb⟩:=hp
 have hk:fX (qy.getD f.kind.toNat []):=by
  have:=hF.k
  have:f.kind.toNat=0\/f.kind.toNat=1\/f.kind.toNat=2\/f.kind.toNat=3\/f.kind.toNat=4\/f.kind.toNat=5:=by omega
  rcases this with e|e|e|e|e|e<;>rw[e]<;>exact⟨by decide,by decide⟩
 have tP:Sd (aH (f.bA.map (dc f.kind))):=Sd.listed fun x hx=>by
  obtain⟨u,hu,rfl⟩:=ai5.1 hx
  have h1:=aiO.1 hs u hu
  unfold gf at h1
  simp only[aiL,ai2] at h1
  obtain⟨⟨⟨⟨a1,a2⟩,a3⟩,a4⟩,a5⟩:=h1
  unfold dc
  refine ((Sd.cons (iG a1) Sd.nil).app (wG 3 _ (hF.sb u hu).w a2)).app ?_
  split
  ·exact Sd.cons (tj (by omega)) Sd.nil
  ·exact Sd.nil
 unfold df
 refine (((Sd.cons hk (Sd.cons (iG hn) (Sd.cons ⟨by decide,by decide⟩ Sd.nil))).app tP).app (Sd.cons ⟨by decide,by decide⟩ Sd.nil)).app ?_
 split
 ·exact Sd.nil
 ·rename_i hk2
  have e:(decide (f.kind=0) || decide (f.kind=1))=false:=by simpa using hk2
  rw[e] at hb
  simp only[aiQ,aiL] at hb
  exact ((wG 3 _ hF.w hb.1).app (Sd.cons ⟨by decide,by decide⟩ Sd.nil)).app (H4 _ _ hF.b hb.2)
theorem I0{f:Fm}(hF:PM f)(hV:DR f){lay:List aV}(hl:lay=if f.layout=[] then gT (df f) else f.layout):lA (df f) lay/\∀ x∈lay,x.length<=20:=by
 have hs:=TZ hF hV.pr
 have pos:=sK f
 by_cases h:f.layout=[]
 ·rw[if_pos h] at hl
  subst hl
  have hu:=Ha (l:=df f) hs
  have e:∀ i,i<(df f).length->(gT (df f)).getD i []=(dh (df f)).getD i []:=fun i hi=>by
   unfold gT
   rw[List.getD,ai1 (by rw[List.length_take,gO];omega),ai0,if_pos hi,List.getD]
  have mem:∀ x∈gT (df f),x∈dh (df f)\/x=[10]:=fun x hx=>by
   unfold gT at hx
   rcases aiM.1 hx with hx|hx
   ·exact .inl (ajR hx)
   ·exact .inr (aiY.1 hx)
  refine⟨⟨qJ,fun x hx=>?_,hs,fun i hi=>?_⟩,fun x hx=>?_⟩
  ·rcases mem x hx with hx|rfl
   ·exact hu.w x hx
   ·exact PF
  ·rw[e _ hi];exact hu.g i hi
  ·rcases mem x hx with hx|rfl
   ·obtain⟨i, -,rfl⟩:=ai5.1 hx
    unfold cS;split<;>decide
   ·decide
 ·rw[if_neg h] at hl
  subst hl
  rcases hV.ly with h'|⟨h1,h2⟩
  ·exact (h h').elim
  ·exact⟨⟨h1,fun x hx=>(h2.w x hx).1,hs,fun i hi=>.inl (h2.g i (by omega))⟩,fun x hx=>(h2.w x hx).2⟩
section
section
variable {T:aC}{H:ag}{lo gen t:Nat}{os:List az}{K:AS->Prop}
def x6(x y:AV)(t:Nat)(os:List az)(T:aC)(H:ag)(lo gen:Nat)(K:AS->Prop):Prop :=
 bn (kT ⟨T,H,lo,gen⟩ x y) fun r=>match r.2 with
  | some s'=>WO A false os (s'.bz t r.1) K
  | none=>WO A false os ⟨T.put t r.1,H,lo,gen⟩ K
theorem rS{x y:ak} : WO A false (⟨some t,none,.copyO x y⟩ :: os) ⟨T,H,lo,gen⟩ K=x6 (x.addr A.aP T) (y.eval A.aP T) t os T H lo gen K:=ma rfl
theorem BD{o own:Bool}{f:List (List AV)} : x6 (.slice [] o) (.slice f own) t os T H lo gen K=WO A false os ⟨T.put t (.int .i64 0),H,lo,gen⟩ K:=by
 simp only[x6,kT,av]
theorem ID{l o n:Nat}{own:Bool}{L:List aV}{cs:List AV}(hH:H[l]?=some (.dL cs))(hb:o+n<=cs.length) :
  x6 (.sref l o n 1) (.slice (strs L) own) t os T H lo gen K =
   WO A false os ⟨T.put t (.int .i64 (Nat.min L.length n:Nat)),H.set l (.dL (cs.take o++(L.take (Nat.min L.length n)).map AV.str++cs.drop (o+(L.take (Nat.min L.length n)).length))),cond (Nat.blt l lo) l lo,gen⟩ K:=by
 have h1:fR 1 (strs L)=true:=by cases L<;>rfl
 have h2:ff (strs L)=true:=by simp[ff,strs,AV.plain]
 have h3:Nat.ble (o+n) cs.length=true:=by simpa [ajg] using hb
 have h4:((strs L).take (Nat.min L.length n)).flatten=(L.take (Nat.min L.length n)).map AV.str:=by
  generalize Nat.min L.length n=k
  rw[strs,<- List.map_take]
  generalize L.take k=M
  induction M with
  | nil=>rfl
  | cons a M ih=>simp only[aiU,ajx,ih];rfl
 simp only[x6,kT,hH,h1,h2,h3,ajN,cond_true,av,akI,aE,h4,putAt,AS.dZ,AS.bz,ai9]
end
theorem rm{base t l n:Nat}{fn:au}{s:AS}{L:List aV}(hr:fn.results=[.tmp t])(hm:fn.muts.elem 888888=false)(hT:s.T t=.sref l 0 n 1)(hH:s.H[l]?=some (.dL (L.map AV.str)))(hl:base<=l)(hn:L.length=n)(w5:s.lo=base)(m7:fn.muts.elem 777777=false:=by decide) :
  finish base fn s=some (.slice (strs L) false,none):=B8 hr hm m7 hT hH rfl hl hn.symm w5
theorem sA{l o n:Nat}{own:Bool}{L O:List aV}{H:ag}{T:aC}{lo gen t:Nat}{os:List az}{K:AS->Prop}(hH:H[l]?=some (.dL (O.map AV.str)))(hb:o+n<=O.length)(hn:L.length<=n) :
  x6 (.sref l o n 1) (.slice (strs L) own) t os T H lo gen K =
   WO A false os ⟨T.put t (.int .i64 (L.length:Nat)),H.set l (.dL ((O.take o++L++O.drop (o+L.length)).map AV.str)),cond (Nat.blt l lo) l lo,gen⟩ K:=by
 have e:Nat.min L.length n=L.length:=Nat.min_eq_left hn
 rw[ID hH (by simpa using hb),e,ajU]
 simp only[List.map_append,List.map_take,List.map_drop]
theorem OJ{O:List aV}{i:Nat}{x:aV}(h:i<O.length):(O.map AV.str).take i++[AV.str x]++(O.map AV.str).drop (i+1)=(O.set i x).map AV.str:=by
 rw[List.set_eq_take_append_cons_drop,if_pos h]
 simp[List.map_take,List.map_drop]
theorem G7{l:List aV}{i:Nat} : (strs l).take i=strs (l.take i):=by simp[strs,List.map_take]
theorem nN{l:List aV}{i:Nat} : (strs l).drop i=strs (l.drop i):=by simp[strs,List.map_drop]
theorem vQ{layout old now O1 O2:List aV}(hlen:layout.length=old.length+1)(hO:(dh now).take 0++layout.take (gv old now)++(dh now).drop (0+(layout.take (gv old now)).length)=O1)
  (h2:O2=if layout.getD (old.length-cc old now) []=[] then O1 else O1.set (now.length-cc old now) (layout.getD (old.length-cc old now) [])) :
  O1.length=now.length+1/\O2.length=now.length+1/\O2.take (now.length-cc old now+1)++layout.drop (old.length-cc old now+1)=kept layout old now:=by
 have hf:=Cd old now
 have QQ:=HQ old now
 have hk:∀ j,Ag layout old now j=if j<gv old now then layout.getD j [] else if now.length-cc old now<=j/\(now.length-cc old now<j\/layout.getD (j+old.length-now.length) []≠[]) then layout.getD (j+old.length-now.length) [] else cS now j:=fun _=>rfl
 have hkg:=fun {i:Nat} (hi:i<now.length+1)=>CF (layout:=layout) (old:=old) (now:=now) hlen hi
 have yq:=rH (layout:=layout) (old:=old) (now:=now) hlen
 generalize gv old now=a at *
 generalize cc old now=b at *
 have ha:(layout.take a).length=a:=by rw[List.length_take];omega
 have l1:O1.length=now.length+1:=by
  rw[<- hO];simp[gO];omega
 have g1:∀ j,j<now.length+1->O1[j]?=some (if j<a then layout.getD j [] else cS now j):=by
  intro j hj
  rw[<- hO,ajJ,aj5,aju,ha,Nat.zero_add]
  by_cases Kg:j<a
  ·rw[if_pos Kg,if_pos Kg,ai0,if_pos Kg,getD_at (show j<layout.length by omega),aiJ (show j<layout.length by omega)]
  ·rw[if_neg Kg,if_neg Kg,aje,show a+(j-a)=j by omega,tu hj]
 have l2:O2.length=now.length+1:=by
  rw[h2];split
  ·exact l1
  ·rw[List.length_set];exact l1
 refine⟨l1,l2,?_⟩
 have g2:∀ j,j<now.length+1->O2[j]?=some (if j=now.length-b/\layout.getD (old.length-b) []≠[] then layout.getD (old.length-b) [] else if j<a then layout.getD j [] else cS now j):=by
  intro j hj
  rw[h2]
  by_cases hx:layout.getD (old.length-b) []=[]
  ·rw[if_pos hx,if_neg (fun h=>h.2 hx)];exact g1 j hj
  ·rw[if_neg hx]
   by_cases UU:j=now.length-b
   ·rw[if_pos ⟨UU,hx⟩,UU,List.getElem?_set_self (by omega)]
   ·rw[if_neg (fun h=>UU h.1),aj' (fun h=>UU h.symm)];exact g1 j hj
 refine akd fun j=>?_
 by_cases hj:j<now.length+1
 ·rw[hkg hj,aju,List.length_take,l2,show min (now.length-b+1) (now.length+1)=now.length-b+1 by omega]
  by_cases UU:j<now.length-b+1
  ·rw[if_pos UU,ai0,if_pos UU,g2 j hj,hk]
   congr 1
   by_cases hje:j=now.length-b
   ·have e:j+old.length-now.length=old.length-b:=by omega
    have Kg:¬ j<a:=by omega
    rw[e]
    by_cases hx:layout.getD (old.length-b) []=[]
    ·rw[if_neg (show ¬ (j=now.length-b/\layout.getD (old.length-b) []≠[]) from fun h=>h.2 hx),if_neg (show ¬ (now.length-b<=j/\(now.length-b<j\/layout.getD (old.length-b) []≠[])) by rintro ⟨_,h|h⟩;omega;exact h hx)]
    ·rw[if_pos (show j=now.length-b/\layout.getD (old.length-b) []≠[] from ⟨hje,hx⟩),if_neg Kg,if_pos (show now.length-b<=j/\(now.length-b<j\/layout.getD (old.length-b) []≠[]) from ⟨by omega,.inr hx⟩)]
   ·rw[if_neg (fun h=>hje h.1)]
    by_cases Kg:j<a
    ·rw[if_pos Kg,if_pos Kg]
    ·rw[if_neg Kg,if_neg Kg,if_neg (by omega)]
  ·rw[if_neg UU,aje,hk,if_neg (show ¬ j<a by omega),if_pos ⟨by omega,.inl (by omega)⟩]
   have e:old.length-b+1+(j-(now.length-b+1))=j+old.length-now.length:=by omega
   rw[e,getD_at (show j+old.length-now.length<layout.length by omega),aiJ (show j+old.length-now.length<layout.length by omega)]
 ·rw[ajk (by simp[l2];omega),ajk (by rw[yq];omega)]
theorem XR(layout old now:List aV)(H:ag)(hl:layout.length<=1000000)(ho:old.length<=1000000)(hn:now.length<=1000000) :
  ∃ o,aA A 10 [.slice (strs layout) false,.slice (strs old) false,.slice (strs now) false] H=some (.slice (strs (kept layout old now)) o,none):=by
 by_cases hlen:layout.length=old.length+1
 ·refine⟨false,?_⟩
  have cU:((layout.length:Int) != (old.length:Int)+1)=false:=by simp;omega
  have hf:=Cd old now
  have QQ:=HQ old now
  have key:∃ r,aA A 10 [.slice (strs layout) false,.slice (strs old) false,.slice (strs now) false] H=some r/\r=(.slice (strs (kept layout old now)) false,none):=by
   refine pa (fn:=Gf) rfl rfl rfl ?_
   unfold Gf
   simp(disch:=omega)only[aW,aa,simprocAttr,aE,cU]
   have LR:(if (now.length:Int)<old.length then (now.length:Int) else old.length)=((min old.length now.length:Nat):Int):=by
    rw[Nat.min_def];split<;>split<;>omega
   simp(disch:=omega)only[LR]
   refine bY (min old.length now.length) 0 (fun i=>Ib (fun T=>T 0=.slice (strs layout) false/\T 1=.slice (strs old) false/\T 2=.slice (strs now) false/\T 7=.int .i64 (min old.length now.length:Nat)/\T 8=.int .i64 i/\∀ j,j<i->(old.getD j []==now.getD j [])=true) H H.length)
    (Ib (fun T=>T 0=.slice (strs layout) false/\T 1=.slice (strs old) false/\T 2=.slice (strs now) false/\T 7=.int .i64 (min old.length now.length:Nat)/\T 8=.int .i64 (gv old now:Nat)) H H.length) (fun _=>False) ?_ ?_ ?_ 0 _ (by omega) ?_
   ·rintro i s hi hs
    obtain⟨T,g,rfl,h0,h1,h2,h7,h8,hj⟩:=hs.out
    have LK:∀ (h:i<min old.length now.length->(old.getD i []==now.getD i [])=false),gv old now=i:=fun h=>zD _ hi hj h
    by_cases DP:(i:Int)<((min old.length now.length:Nat):Int)
    ·have e1:=aiJ (show i<old.length by omega)
     have e2:=aiJ (show i<now.length by omega)
     have d1:=getD_at (d:=([]:aV)) (show i<old.length by omega)
     have d2:=getD_at (d:=([]:aV)) (show i<now.length by omega)
     cases he:(old[i]==now[i]) with
     | true =>
      simp(disch:=omega)only[aW,aa,simprocAttr,h0,h1,h2,h7,h8,aE,DP,bk e1,bk e2,he]
      refine⟨by omega,fun j mV=>?_⟩
      rcases (show j<i\/j=i by omega) with h|rfl
      ·exact hj j h
      ·rw[d1,d2];exact he
     | false =>
      simp(disch:=omega)only[aW,aa,simprocAttr,h0,h1,h2,h7,h8,aE,DP,bk e1,bk e2,he]
      rw[LK (fun _=>by rw[d1,d2];exact he)]
    ·simp(disch:=omega)only[aW,aa,simprocAttr,h0,h1,h2,h7,h8,aE,DP]
     rw[LK (fun h=>by omega)]
   ·intro s hs
    obtain⟨T,g,rfl,h0,h1,h2,h7,h8⟩:=hs.out
    simp(disch:=omega)only[aW,aa,simprocAttr,h0,h1,h2,h7,h8]
    refine bY (min old.length now.length-gv old now) 2 (fun i=>Ib (fun T=>T 0=.slice (strs layout) false/\T 1=.slice (strs old) false/\T 2=.slice (strs now) false/\T 7=.int .i64 (min old.length now.length:Nat)/\T 8=.int .i64 (gv old now:Nat)/\T 9=.int .i64 i/\∀ j,j<i->(old.getD (old.length-1-j) []==now.getD (now.length-1-j) [])=true) H H.length)
     (Ib (fun T=>T 0=.slice (strs layout) false/\T 1=.slice (strs old) false/\T 2=.slice (strs now) false/\T 8=.int .i64 (gv old now:Nat)/\T 9=.int .i64 (cc old now:Nat)) H H.length) (fun _=>False) ?_ ?_ ?_ 0 _ (by omega) ?_
    ·rintro i s hi hs
     obtain⟨T,g,rfl,h0,h1,h2,h7,h8,h9,hj⟩:=hs.out
     have yr:∀ (h:i<min old.length now.length-gv old now->(old.getD (old.length-1-i) []==now.getD (now.length-1-i) [])=false),cc old now=i:=fun h=>zD _ hi hj h
     generalize gv old now=a at *
     by_cases DP:(i:Int)<((min old.length now.length:Nat):Int)-a
     ·have e1:=aiJ (show old.length-1-i<old.length by omega)
      have e2:=aiJ (show now.length-1-i<now.length by omega)
      have d1:=getD_at (d:=([]:aV)) (show old.length-1-i<old.length by omega)
      have d2:=getD_at (d:=([]:aV)) (show now.length-1-i<now.length by omega)
      have n1:asNat (.int .i64 ((old.length:Int)-1-i))=some (old.length-1-i):=by rw[fl (by omega)];congr 1;omega
      have n2:asNat (.int .i64 ((now.length:Int)-1-i))=some (now.length-1-i):=by rw[fl (by omega)];congr 1;omega
      cases he:(old[old.length-1-i]==now[now.length-1-i]) with
      | true =>
       simp(disch:=omega)only[aW,aa,simprocAttr,h0,h1,h2,h7,h8,h9,aE,DP,n1,n2,bk e1,bk e2,he]
       refine⟨by omega,fun j mV=>?_⟩
       rcases (show j<i\/j=i by omega) with h|rfl
       ·exact hj j h
       ·rw[d1,d2];exact he
      | false =>
       simp(disch:=omega)only[aW,aa,simprocAttr,h0,h1,h2,h7,h8,h9,aE,DP,n1,n2,bk e1,bk e2,he]
       rw[yr (fun _=>by rw[d1,d2];exact he)]
     ·simp(disch:=omega)only[aW,aa,simprocAttr,h0,h1,h2,h7,h8,h9,aE,DP]
      rw[yr (fun h=>by omega)]
    ·intro s hs
     obtain⟨T,g,rfl,h0,h1,h2,h8,h9⟩:=hs.out
     simp(disch:=omega)only[aW,aa,simprocAttr,h0,h1,h2,h8,h9,Uo now H hn,aE,G7,rS]
     rw[sA (O:=dh now) cX (by rw[gO];omega) (by rw[List.length_take];omega)]
     obtain⟨O1,hO1⟩:∃ O1:List aV,(dh now).take 0++layout.take (gv old now)++(dh now).drop (0+(layout.take (gv old now)).length)=O1:=⟨_,rfl⟩
     rw[hO1]
     have Wz:old.length-cc old now<layout.length:=by omega
     have e0:=aiJ Wz
     have n0:asNat (.int .i64 ((old.length:Int)-(cc old now:Nat)))=some (old.length-cc old now):=by rw[fl (by omega)];congr 1;omega
     have n3:asNat (.int .i64 ((now.length:Int)-(cc old now:Nat)))=some (now.length-cc old now):=by rw[fl (by omega)];congr 1;omega
     have n4:asNat (.int .i64 ((now.length:Int)-(cc old now:Nat)+1))=some (now.length-cc old now+1):=by rw[fl (by omega)];congr 1;omega
     have n5:asNat (.int .i64 ((old.length:Int)-(cc old now:Nat)+1))=some (old.length-cc old now+1):=by rw[fl (by omega)];congr 1;omega
     have d0:=getD_at (d:=([]:aV)) Wz
     have hho:fR 1 (strs layout)=true:=by cases layout<;>rfl
     cases hy:(layout[old.length-cc old now]==[]) with
     | true =>
      have oI:=vQ (layout:=layout) (old:=old) (now:=now) (O2:=O1) hlen hO1 (by rw[d0,if_pos (ajq.1 hy)])
      by_cases hz:cc old now=0
      ·have hd:decide (now.length-cc old now+1<now.length+1)=false:=ajO (by omega)
       simp(disch:=omega)only[aW,aa,simprocAttr,h0,h1,h2,h8,h9,heap_set,cb,aE,n0,bk e0,hy,n4,n5,nN,rS,hho,hd,BD,akf]
       have hK:O1=kept layout old now:=by
        rw[<- oI.2.2,aji (by rw[oI.2.1];omega),ajS (by omega),ajh]
       exact⟨_,rm (t:=6) (L:=O1) (n:=now.length+1) rfl (by decide) (by simp[aC.put]) cX (aiK _) oI.2.1 rfl,by rw[hK]⟩
      ·have hd:decide (now.length-cc old now+1<now.length+1)=true:=decide_eq_true (by omega)
       simp(disch:=omega)only[aW,aa,simprocAttr,h0,h1,h2,h8,h9,heap_set,cb,aE,n0,bk e0,hy,n4,n5,nN,rS,hho,hd,akf]
       rw[sA (O:=O1) cX (by rw[oI.2.1];omega) (by rw[ajB];omega)]
       simp(disch:=omega)only[aW,aa,simprocAttr,h0,h1,h2,h8,h9,heap_set,cb]
       have hK:(O1).take (now.length-cc old now+1)++layout.drop (old.length-cc old now+1)++(O1).drop (now.length-cc old now+1+(layout.drop (old.length-cc old now+1)).length)=kept layout old now:=by
        rw[show (O1).drop (now.length-cc old now+1+(layout.drop (old.length-cc old now+1)).length)=[] from ajS (by rw[oI.2.1,ajB];omega),ajh];exact oI.2.2
       rw[hK]
       exact⟨_,rm (t:=6) (L:=kept layout old now) (n:=now.length+1) rfl (by decide) (by simp[aC.put]) cX (aiK _) (rH hlen) rfl,rfl⟩
     | false =>
      have oI:=vQ (layout:=layout) (old:=old) (now:=now) (O2:=O1.set (now.length-cc old now) layout[old.length-cc old now]) hlen hO1 (by rw[d0,if_neg (ajs.1 hy)])
      have aa0:=OJ (O:=O1) (i:=now.length-cc old now) (x:=layout[old.length-cc old now]) (by rw[oI.1];omega)
      by_cases hz:cc old now=0
      ·have hd:decide (now.length-cc old now+1<now.length+1)=false:=ajO (by omega)
       simp(disch:=omega)only[aW,aa,simprocAttr,h0,h1,h2,h8,h9,heap_set,cb,aE,n0,n3,bk e0,hy,n4,n5,nN,rS,hho,hd,BD,cX,ai9,oI.1,akf,aa0]
       have hK:O1.set (now.length-cc old now) layout[old.length-cc old now]=kept layout old now:=by
        rw[<- oI.2.2,aji (by rw[oI.2.1];omega),ajS (by omega),ajh]
       exact⟨_,rm (t:=6) (L:=O1.set (now.length-cc old now) layout[old.length-cc old now]) (n:=now.length+1) rfl (by decide) (by simp[aC.put]) cX (aiK _) oI.2.1 rfl,by rw[hK]⟩
      ·have hd:decide (now.length-cc old now+1<now.length+1)=true:=decide_eq_true (by omega)
       simp(disch:=omega)only[aW,aa,simprocAttr,h0,h1,h2,h8,h9,heap_set,cb,aE,n0,n3,bk e0,hy,n4,n5,nN,rS,hho,hd,cX,ai9,oI.1,akf,aa0]
       rw[sA (O:=O1.set (now.length-cc old now) layout[old.length-cc old now]) cX (by rw[oI.2.1];omega) (by rw[ajB];omega)]
       simp(disch:=omega)only[aW,aa,simprocAttr,h0,h1,h2,h8,h9,heap_set,cb]
       have hK:(O1.set (now.length-cc old now) layout[old.length-cc old now]).take (now.length-cc old now+1)++layout.drop (old.length-cc old now+1)++(O1.set (now.length-cc old now) layout[old.length-cc old now]).drop (now.length-cc old now+1+(layout.drop (old.length-cc old now+1)).length)=kept layout old now:=by
        rw[show (O1.set (now.length-cc old now) layout[old.length-cc old now]).drop (now.length-cc old now+1+(layout.drop (old.length-cc old now+1)).length)=[] from ajS (by rw[oI.2.1,ajB];omega),ajh];exact oI.2.2
       rw[hK]
       exact⟨_,rm (t:=6) (L:=kept layout old now) (n:=now.length+1) rfl (by decide) (by simp[aC.put]) cX (aiK _) (rH hlen) rfl,rfl⟩
    ·intro s hs;exact hs.elim
    ·simp(disch:=omega)only[aW,aa,simprocAttr,h0,h1,h2,h7,h8,ajl]
     exact fun j h=>absurd h (akY j)
   ·intro s hs;exact hs.elim
   ·simp(disch:=omega)only[aW,aa,simprocAttr,ajl]
    exact fun j h=>absurd h (akY j)
  obtain⟨r,h,rfl⟩:=key
  exact h
 ·refine⟨true,bb (fn:=Gf) rfl rfl rfl ?_⟩
  unfold Gf
  have cU:((layout.length:Int) != (old.length:Int)+1)=true:=by simp;omega
  have hk:kept layout old now=[]:=by simp[kept,hlen]
  simp(disch:=omega)only[aW,aa,simprocAttr,aE,cU,hk,o5]
end
theorem qI:∀ {ts xs:List aV},xs.length=ts.length+1->(kN ts xs).length=ts.length
 | [],[],_=>rfl
 | [],_ :: _,_=>rfl
 | _ :: _,[],h=>by simp at h
 | t :: ts,x :: xs,h=>by simp only[kN,List.length_cons];rw[qI (by simpa using h)]
theorem sM:∀ {ts xs:List aV},xs.length=ts.length+1->glue ts xs=gE ts xs ts.length++xs.getD ts.length []
 | [],[x],_=>by simp[glue,gE]
 | t :: ts,x :: xs,h=>by
  have ih:=sM (ts:=ts) (xs:=xs) (by simpa using h)
  rw[glue,ih]
  unfold gE
  rw[List.length_cons,List.range_succ_eq_map]
  simp[ake,Function.comp_def]
theorem Gl{l lay:List aV}(h:lay.length=l.length+1):CE l lay=glue l lay:=by
 unfold CE rL
 rw[if_pos h,sM h]
theorem Hl{cs:List AV}{agg:Bool}{sz off:Nat} : mM (some (.dL cs)) agg sz off=an false agg sz off cs:=rfl
theorem l1{H:ag}{a:de} : (H++[a]).length=H.length+1:=by simp
theorem acw{H:ag}{a:de} : (H++[a]).take H.length=H:=by simp
def cI(l:aV):List (List AV):=l.map fun b=>[.int .u8 b.toNat]
theorem uV{l:aV} : (cI l).length=l.length:=by simp[cI]
theorem xS:∀ l:aV,bytesOf (cI l)=some l
 | []=>rfl
 | b :: l=>by
  have:=xS l
  simp only[cI] at this
  simp only[cI,aiU,bytesOf,this,aiV]
  simp
theorem uU:∀ l:aV,ko (cI l)=true
 | []=>rfl
 | b :: l=>by
  have:=uU l
  simp only[ko,cI] at this
  simp only[ko,cI,aiU,ajV,this,akw]
theorem tB:∀ l:aV,o9 (cI l)=true
 | []=>rfl
 | b :: l=>by
  have:=tB l
  simp only[o9,cI] at this
  have hb:=UInt8.toNat_lt b
  simp only[o9,cI,aiU,ajV,this,akw,aiL,ai2]
  omega
theorem KQ{l:aV} : ∀ r∈cI l,r.length=1:=fun r hr=>by simp only[cI,ai5] at hr;obtain⟨n,_,rfl⟩:=hr;rfl
theorem xO{a s:aV}(h:a.length+s.length<=1000000000):aq true 1 1 (.slice (cI a) true) (.str s)=some (.slice (cI (a++s)) true):=by
 have e:(s.map fun (b:UInt8)=>[AV.int .u8 b.toNat])=cI s:=rfl
 simp only[aq,dG,Bm,cond_true,aiP,e]
 have ha:cI a++cI s=cI (a++s):=by simp[cI]
 cases s with
 | nil=>simp[cI]
 | cons b s =>
  have hf:b9 1 1 (cI a) (cI (b :: s))=true:=by
   simp only[b9,sO KQ,uV,ajX (show (a.length+(b :: s).length)*1<=70368744177664 by omega),ajX (show a.length+(b :: s).length<=70368744177664 by omega),ajN]
  have hr:ji true (cI a++cI (b :: s))=true:=by rw[ha];exact uU _
  show (cond (true&&b9 1 1 (cI a) (cI (b :: s))&&ji true (cI a++cI (b :: s))) (some (AV.slice (cI a++cI (b :: s)) true)) none)=_
  rw[hf,hr,ha];rfl
def Bd(n:Nat)(p v:AV)(s:aV):Prop:=(p=.cx/\v=.ay/\s=[])\/(p=.ref n 0/\v=.slice (cI s) true)
theorem Ve{B:ag}{ty:TypeId}{cs:List AV} : tW (B.length+1) B.length (B++[.box ty cs])=true:=by
 unfold tW
 have h1:(B++[de.box ty cs]).take (B.length+1)=B++[.box ty cs]:=aji (by simp)
 rw[h1]
 have h2:(B++[de.box ty cs]).drop B.length=[.box ty cs]:=by simp
 rw[h2]
 cases Nat.beq B.length (B.length+1)<;>rfl
theorem Vm{B:ag}{o:de} : (B++[o]).take (B.length+1)=B++[o]:=aji (by simp)
theorem D3{s:aV}(h:s.length<=1000000000):aq true 1 1 (.slice [] true) (.str s)=some (.slice (cI s) true):=xO (a:=[]) (by simpa using h)
theorem PH(B:ag)(p v:AV)(s t:aV)(hp:Bd B.length p v s)(hl:s.length+t.length<=1000000000):aA A 37 [.ref B.length 0,.str t] (B++[.box 92 [p,v]]) =
  some (.tuple [.int .i64 t.length,.bt],some ⟨B++[.box 92 [.ref B.length 0,.slice (cI (s++t)) true]],B.length⟩):=by
 refine bb (fn:=NM) rfl rfl rfl ?_
 unfold NM
 rcases hp with ⟨rfl,rfl,rfl⟩|⟨rfl,rfl⟩
 ·have hc:aA A 68 [.ref B.length 0] (B++[.box 92 [.cx,.ay]])=some (.undef,some ⟨B++[.box 92 [.ref B.length 0,.ay]],B.length⟩):=by
   refine mO (A:=A) (f:=68) (g:=gq) rfl ?_
   simp only[gq,cX,heap_set]
  have a1:=D3 (s:=t) (by omega)
  rw[aj5]
  simp(disch:=omega)only[aW,aa,simprocAttr,hc,cX,heap_set,a1,aR,Vm,Ve,l1,Nat.lt_add_one,als,cond_true,cb,ajw,ajv,aiQ,cond_true,Hl,cG,bN,ajm,ajn,an]
 ·have hc:aA A 68 [.ref B.length 0] (B++[.box 92 [.ref B.length 0,.slice (cI s) true]])=some (.undef,none):=by
   refine mO (A:=A) (f:=68) (g:=gq) rfl ?_
   simp only[gq,cX,akI,cond_true]
  have a1:=xO (a:=s) (s:=t) (by omega)
  simp(disch:=omega)only[aW,aa,simprocAttr,hc,cX,heap_set,a1,aR,Vm,Ve,l1,Nat.lt_add_one,als,cond_true,cb,ajw,ajv,aiQ,cond_true,Hl,cG,bN,ajm,ajn,an]
theorem J2(B:ag)(p:AV)(s:aV)(hl:s.length<=1000000000):aA A 38 [.ref B.length 0] (B++[.box 92 [p,.slice (cI s) true]])=some (.str s,none):=by
 refine mO (A:=A) (f:=38) (g:=nc) rfl ?_
 simp only[nc,cX,uV,xS,aiV,ajX (show s.length<=4611686018427387904 by omega),tB,ajN,cond_true]
def nK:List Tok->aV
 | []=>[]
 | t :: r=>t.before++t.text++nK r
theorem yR(t:Tok):∀ L:List Tok,nK (L++[t])=nK L++(t.before++t.text)
 | []=>by simp[nK]
 | u :: L=>by simp[nK,yR t L]
theorem yS{L:List Tok}{i:Nat}{t:Tok}(h:L[i]?=some t):nK (L.take (i+1))=nK (L.take i)++(t.before++t.text):=by
 rw[akl,h]
 exact yR t _
theorem Dn{L:List Tok}{B:Nat}(h:∀ t∈L,t.before.length<=B/\t.text.length<=B):∀ i,(nK (L.take i)).length<=i*(2*B):=by
 intro i
 induction i with
 | zero=>simp[nK]
 | succ i ih =>
  by_cases hi:i<L.length
  ·have hx:=aiJ hi
   have hm:=h _ (ajA hi)
   rw[yS hx,List.length_append,List.length_append,Nat.succ_mul]
   omega
  ·rw[aji (by omega)] at ih ⊢
   rw[Nat.succ_mul];omega
theorem Uk(L:List Tok)(e:aV)(H:ag)(h0:0<L.length)(hl:L.length<=10000)(hb:∀ t∈L,t.before.length<=40/\t.text.length<=40)(he:e.length<=40) :
  aA A 17 [.slice (fw L) false,.str e] H=some (.str (nK L++e),none):=by
 refine bb (fn:=Ny) rfl rfl rfl ?_
 unfold Ny
 simp(disch:=omega)only[aW,aa,simprocAttr,rX]
 refine bY L.length 0 (fun i s=>∃ T p v g,s=⟨T,H++[.box 92 [p,v]],H.length,g⟩/\Bd H.length p v (nK (L.take i))/\(0<i->p=.ref H.length 0/\v=.slice (cI (nK (L.take i))) true)/\T 1=.str e/\T 5=.ref H.length 0/\T 8=.slice (fw L) false/\T 9=.int .i64 L.length/\T 10=.int .i64 i)
  (fun s=>∃ T g,s=⟨T,H++[.box 92 [.ref H.length 0,.slice (cI (nK L)) true]],H.length,g⟩/\T 1=.str e/\T 5=.ref H.length 0) (fun _=>False) ?_ ?_ (fun _ h=>h.elim) 0 _ (ajy _) ?_
 ·rintro i s hi ⟨T,p,v,g,rfl,hB,hB2,e1,e5,e8,e9,uk⟩
  by_cases hc:i<L.length
  ·have hx:=aiJ hc
   have hm:=hb _ (ajA hc)
   have hr:=yS hx
   have Ji:=Dn hb i
   have hq:i*(2*40)<=10000*(2*40):=aiZ _ (by omega)
   have q1:=Un hx
   generalize L[i]=t at hx hm hr q1
   have hw:=PH H p v (nK (L.take i)) (t.before++t.text) hB (by rw[List.length_append];omega)
   rw[<- hr] at hw
   simp(disch:=omega)only[aW,aa,simprocAttr,e1,e5,e8,e9,uk,q1,FB,hw,cG,an,bN,ajm,ajn,cb,ajw,ajv,aiQ]
   refine⟨hc,_,_,_,_,rfl,.inr ⟨rfl,rfl⟩,fun _=>⟨rfl,rfl⟩,?_,?_,?_,?_,?_⟩
   all_goals simp(disch:=omega)only[aM,aa,simprocAttr,e1,e5,e8,e9]
  ·have:L.take i=L:=aji (by omega)
   rw[this] at hB2
   obtain⟨rfl,rfl⟩:=hB2 (by omega)
   simp(disch:=omega)only[aW,aa,simprocAttr,e9,uk]
   exact⟨_,_,rfl,by simp(disch:=omega)only[aM,aa,simprocAttr,e1],by simp(disch:=omega)only[aM,aa,simprocAttr,e5]⟩
 ·rintro s ⟨T,g,rfl,e1,e5⟩
  have Ji:=Dn hb L.length
  rw[ajU] at Ji
  have hq:L.length*(2*40)<=10000*(2*40):=aiZ _ (by omega)
  have hs:=J2 H (.ref H.length 0) (nK L) (by omega)
  simp(disch:=omega)only[aW,aa,simprocAttr,e1,e5,hs,yn,acw,l1]
 ·refine⟨_,.cx,.ay,_,rfl,.inl ⟨rfl,rfl,by simp[nK]⟩,fun h=>absurd h (by decide),?_,?_,?_,?_,?_⟩
  all_goals simp(disch:=omega)only[aM,aa,simprocAttr,ajl]
def nU:List aV:=[[102],[120,49],[99,97,115,101],[80,111,105,110,116],[97,86,101,114,121,76,111,110,103,78,97,109,101,49,50,51],[105,102],[90,57],[110,111,116]]
def oY:List aV:=[[40],[41],[123],[125],[91],[93],[44],[58],[46],[61],[61,61],[45,62],[43],[45],[42],[47],[37],[60]]
def v8:List aV:=[[48],[55],[52,50],[49,50,51,52,53,54,55,56,57,48,49,50,51,52,53,54]]
theorem AO:∀ s,s∈nU\/s∈oY\/s∈v8->fX s:=by
 have h:(nU++oY++v8).all (fun s=>decide (s≠[])&&decide (fE s=s.length))=true:=by decide
 intro s hs
 have hm:s∈nU++oY++v8:=by
  rcases hs with h|h|h
  ·exact aiM.2 (.inl (aiM.2 (.inl h)))
  ·exact aiM.2 (.inl (aiM.2 (.inr h)))
  ·exact aiM.2 (.inr h)
 have:=aiO.1 h s hm
 simp only[aiL,ai2] at this
 exact this
theorem S5(n:Int)(H:ag)(hn:zb n):∃ s,fX s/\aA A 14 [.int .i64 n] H=some (.str s,none):=by
 obtain⟨r1,r2⟩:=kR (n:=n) (k:=1000000) (by omega)
 have ha:=qP n 1000000 H hn (by omega)
 generalize mu n 1000000=k at r1 r2 ha
 have key:∃ r,aA A 14 [.int .i64 n] H=some r/\∃ s,fX s/\r=(.str s,none):=by
  refine Bn (fn:=Ni) rfl rfl rfl ?_
  unfold Ni
  have hm5:k.tmod 5=k % 5:=Int.tmod_eq_emod_of_nonneg r1
  have hd5:k.tdiv 5=k / 5:=Int.tdiv_eq_ediv_of_nonneg r1
  obtain⟨a,ha8,ea⟩:∃ a:Nat,a<8/\(k / 5).tmod 8=a:=⟨((k / 5).tmod 8).toNat,by rw[Int.tmod_eq_emod_of_nonneg (by omega)];omega,by rw[Int.tmod_eq_emod_of_nonneg (by omega)];omega⟩
  obtain⟨b,Wh,eb⟩:∃ a:Nat,a<18/\(k / 5).tmod 18=a:=⟨((k / 5).tmod 18).toNat,by rw[Int.tmod_eq_emod_of_nonneg (by omega)];omega,by rw[Int.tmod_eq_emod_of_nonneg (by omega)];omega⟩
  obtain⟨c,pG,ec⟩:∃ a:Nat,a<4/\(k / 5).tmod 4=a:=⟨((k / 5).tmod 4).toNat,by rw[Int.tmod_eq_emod_of_nonneg (by omega)];omega,by rw[Int.tmod_eq_emod_of_nonneg (by omega)];omega⟩
  have wa:=bk (aiJ (show a<nU.length from ha8))
  have wb:=bk (aiJ (show b<oY.length from Wh))
  have wc:=bk (aiJ (show c<v8.length from pG))
  have sa:=AO _ (.inl (ajA (show a<nU.length from ha8)))
  have sb:=AO _ (.inr (.inl (ajA (show b<oY.length from Wh))))
  have sc:=AO _ (.inr (.inr (ajA (show c<v8.length from pG))))
  generalize nU[a]'ha8=xa at wa sa
  generalize oY[b]'Wh=xb at wb sb
  generalize v8[c]'pG=xc at wc sc
  have pw:([[.str [102]],[.str [120,49]],[.str [99,97,115,101]],[.str [80,111,105,110,116]],[.str [97,86,101,114,121,76,111,110,103,78,97,109,101,49,50,51]],[.str [105,102]],[.str [90,57]],[.str [110,111,116]]]:List (List AV))=strs nU:=rfl
  have ad3:k % 5=0\/k % 5=1\/k % 5=2\/k % 5=3\/k % 5=4:=by omega
  have w8:((strs nU).length:Int)=8:=rfl
  have w18:((strs oY).length:Int)=18:=rfl
  have P1:bL 1 [[AV.str []],[AV.str []],[AV.str []],[AV.str []],[AV.str []],[AV.str []],[AV.str []],[AV.str []]] [(0,AV.str [102]),(1,AV.str [120,49]),(2,AV.str [99,97,115,101]),(3,AV.str [80,111,105,110,116]),(4,AV.str [97,86,101,114,121,76,111,110,103,78,97,109,101,49,50,51]),(5,AV.str [105,102]),(6,AV.str [90,57]),(7,AV.str [110,111,116])]=some (strs nU):=rfl
  have P2:bL 1 [[AV.str []],[AV.str []],[AV.str []],[AV.str []],[AV.str []],[AV.str []],[AV.str []],[AV.str []],[AV.str []],[AV.str []],[AV.str []],[AV.str []],[AV.str []],[AV.str []],[AV.str []],[AV.str []],[AV.str []],[AV.str []]] [(0,AV.str [40]),(1,AV.str [41]),(2,AV.str [123]),(3,AV.str [125]),(4,AV.str [91]),(5,AV.str [93]),(6,AV.str [44]),(7,AV.str [58]),(8,AV.str [46]),(9,AV.str [61]),(10,AV.str [61,61]),(11,AV.str [45,62]),(12,AV.str [43]),(13,AV.str [45]),(14,AV.str [42]),(15,AV.str [47]),(16,AV.str [37]),(17,AV.str [60])]=some (strs oY):=rfl
  have P3:bL 1 [[AV.str []],[AV.str []],[AV.str []],[AV.str []]] [(0,AV.str [48]),(1,AV.str [55]),(2,AV.str [52,50]),(3,AV.str [49,50,51,52,53,54,55,56,57,48,49,50,51,52,53,54])]=some (strs v8):=rfl
  rcases ad3 with h|h|h|h|h
  all_goals
   simp(disch:=omega)only[aW,aa,simprocAttr,ha,hm5,hd5,h,P1,P2,P3,w8,w18,ea,eb,ec,wa,wb,wc]
  ·exact⟨xa,sa,rfl⟩
  ·exact⟨xa,sa,rfl⟩
  ·exact⟨xc,sc,rfl⟩
  ·exact⟨xb,sb,rfl⟩
  ·exact⟨xb,sb,rfl⟩
 obtain⟨r,h1,s,h2,rfl⟩:=key
 exact⟨s,h2,h1⟩
def Wb(f:FuncId):Option au :=
 match f with
 | 4=>some Sz
 | 15=>some Sx
 | _=>none
noncomputable def ov2(f:FuncId):Option (List AV->ag->Option (AV × Option fz)) :=
 match f with
 | 4=>none
 | 15=>none
 | f=>some (aA A f)
noncomputable def A2:AP:=⟨Wb,ov2,A.aP⟩
theorem QD(f:FuncId)(oh:au)(h:Wb f=some oh):∃ fn bK locals muts,Tryz.prog.funcs[f]?=some fn/\mQ Tryz.prog bK locals muts fn=some oh:=by
 unfold Wb at h
 split at h
 ·exact fo Tryz.func4 XQ h
 ·exact fo Tryz.func15 Sy h
 ·cases h
theorem Bo{f:FuncId} : iH Tryz.prog A.aP f (aA A f):=by
 intro args H r c h
 obtain⟨n,hn⟩:=lC.1 h
 obtain⟨k1,k2,k3⟩:=sG OH n f args H r c hn
 exact⟨k1,k2,fun base gh w vs hW iT sd bU=>k3 base gh w vs hW iT sd fun j v x hv hx=>.inl (bU j v x hv hx)⟩
theorem Yc(f:FuncId)(g:List AV->ag->Option (AV × Option fz))(h:ov2 f=some g):iH Tryz.prog A.aP f g:=by
 unfold ov2 at h
 split at h
 ·cases h
 ·cases h
 ·injection h with h;subst h;exact Bo
theorem S7:p8 Tryz.prog A2:=⟨OH.mixed,QD,Yc⟩
theorem c2{f:FuncId}(h:A2.ov f=some (aA A f)){args:List AV}{H:ag}{r:AV × Option fz}(hr:aA A f args H=some r)(hn:args.all pz=true:=by rfl):aA A2 f args H=some r:=mO (g:=aA A f) h hr hn
theorem PA(l:List aV)(H:ag)(hl:l.length<=1000000):aA A2 15 [.slice (strs l) false] H=some (.slice (strs (dh l)) false,none):=by
 refine bb (fn:=Sx) rfl rfl rfl ?_
 unfold Sx
 simp only[PL,wZ,GW,wL,PK,wY,s9]
 refine Pq (.slice (strs [[]]) true) (by kernel_rfl) rfl ?_
 simp(disch:=omega)only[aW,aa,simprocAttr,aE]
 refine bY (l.length+1) 0 (fun i s=>1<=i/\Hd (fun T=>T 0=.slice (strs l) false/\T 3=.slice (strs ((dh l).take i)) true/\T 4=.int .i64 i) H H.length 0 s)
  (Hd (fun T=>T 3=.slice (strs (dh l)) true) H H.length 0) (fun _=>False) ?_ ?_ ?_ 1 _ (by omega) ?_
 ·rintro i s hi ⟨h1i,hs⟩
  obtain⟨T,rfl,h0,h3,h4⟩:=hs.out
  simp(disch:=omega)only[aW,aa,simprocAttr,h0,h4,aE]
  refine gK ?_ ?_<;>intro h
  ·have jW:i<=l.length:=by omega
   have e2:=aiJ (show i-1<l.length by omega)
   have en:asNat (.int .i64 ((i:Int)-1))=some (i-1):=by rw[fl (by omega)];congr 1;omega
   have hu:=wU h1i jW
   have ht:=nQ (l:=l) (i:=i) (by omega)
   have hlen:((dh l).take i).length<=1000001:=by rw[List.length_take,gO];omega
   rw[getD_at (show i-1<l.length by omega)] at hu
   have CZ:=fun h=>hu.trans (if_pos h)
   have mk1:=fun h=>hu.trans (if_neg h)
   cases c0:((i:Int)==(l.length:Int)) with
   | true =>
    rw[CZ (.inl (by have:=ajq.1 c0;omega))] at ht
    simp(disch:=omega)only[aW,aa,simprocAttr,h0,h3,h4,en,bk e2,aE,c0]
    exact⟨by omega,by rw[ht]⟩
   | false =>
   cases c1:(l[i-1]==[40]) with
   | true =>
    rw[CZ (.inr (.inl (ajq.1 c1)))] at ht
    simp(disch:=omega)only[aW,aa,simprocAttr,h0,h3,h4,en,bk e2,aE,c0,c1]
    exact⟨by omega,by rw[ht]⟩
   | false =>
   cases c2:(l[i-1]==[91]) with
   | true =>
    rw[CZ (.inr (.inr (.inl (ajq.1 c2))))] at ht
    simp(disch:=omega)only[aW,aa,simprocAttr,h0,h3,h4,en,bk e2,aE,c0,c1,c2]
    exact⟨by omega,by rw[ht]⟩
   | false =>
   cases c3:(l[i-1]==[46]) with
   | true =>
    rw[CZ (.inr (.inr (.inr (.inl (ajq.1 c3)))))] at ht
    simp(disch:=omega)only[aW,aa,simprocAttr,h0,h3,h4,en,bk e2,aE,c0,c1,c2,c3]
    exact⟨by omega,by rw[ht]⟩
   | false =>
   have cU:¬ (i:Int)=l.length:=by
    intro e;rw[e] at c0;simp at c0
   have a7:i<l.length:=by omega
   have e1:=aiJ a7
   have eb:=getD_at (d:=([]:aV)) a7
   cases c4:(l[i]==[41]) with
   | true =>
    rw[CZ (.inr (.inr (.inr (.inr (.inl (eb.trans (ajq.1 c4)))))))] at ht
    simp(disch:=omega)only[aW,aa,simprocAttr,h0,h3,h4,en,bk e2,aE,bk e1,c0,c1,c2,c3,c4]
    exact⟨by omega,by rw[ht]⟩
   | false =>
   cases c5:(l[i]==[93]) with
   | true =>
    rw[CZ (.inr (.inr (.inr (.inr (.inr (.inl (eb.trans (ajq.1 c5))))))))] at ht
    simp(disch:=omega)only[aW,aa,simprocAttr,h0,h3,h4,en,bk e2,aE,bk e1,c0,c1,c2,c3,c4,c5]
    exact⟨by omega,by rw[ht]⟩
   | false =>
   cases c6:(l[i]==[44]) with
   | true =>
    rw[CZ (.inr (.inr (.inr (.inr (.inr (.inr (.inl (eb.trans (ajq.1 c6)))))))))] at ht
    simp(disch:=omega)only[aW,aa,simprocAttr,h0,h3,h4,en,bk e2,aE,bk e1,c0,c1,c2,c3,c4,c5,c6]
    exact⟨by omega,by rw[ht]⟩
   | false =>
   cases c7:(l[i]==[46]) with
   | true =>
    rw[CZ (.inr (.inr (.inr (.inr (.inr (.inr (.inr (eb.trans (ajq.1 c7)))))))))] at ht
    simp(disch:=omega)only[aW,aa,simprocAttr,h0,h3,h4,en,bk e2,aE,bk e1,c0,c1,c2,c3,c4,c5,c6,c7]
    exact⟨by omega,by rw[ht]⟩
   | false =>
   have c1':=ajs.1 c1;have c2':=ajs.1 c2;have c3':=ajs.1 c3;have c4':=ajs.1 c4;have c5':=ajs.1 c5;have c6':=ajs.1 c6;have c7':=ajs.1 c7
   rw[mk1 (by rw[eb];simp[show ¬ i=l.length by omega,c1',c2',c3',c4',c5',c6',c7'])] at ht
   simp(disch:=omega)only[aW,aa,simprocAttr,h0,h3,h4,en,bk e2,aE,bk e1,c0,c1,c2,c3,c4,c5,c6,c7]
   exact⟨by omega,by rw[ht]⟩
  ·simp(disch:=omega)only[aW,aa,simprocAttr,h3]
   rw[aji (by rw[gO];omega)]
 ·intro s hs
  obtain⟨T,rfl,h3⟩:=hs.out
  simp(disch:=omega)only[aW,aa,simprocAttr,h3]
 ·intro s hs;exact hs.elim
 ·simp(disch:=omega)only[aW,aa,simprocAttr]
  rw[show (1:Nat)=0+1 from rfl,nQ (by omega)]
  simp[cS]
structure Df (f:Fm) (lay:List aV):Prop where
 fb:PM f
 fv:DR f
 Ln:lA (df f) lay
 lb:∀ x∈lay,x.length<=20
theorem Df.len{f:Fm}{lay:List aV}(h:Df f lay):(df f).length<=200:=h.fv.ln
theorem O5{f:Fm}(h:PM f)(hv:DR f)(H:ag):∃ o,aA A 8 [.agg [.int .i64 f.kind,.str f.name,.slice (f.bA.map gm) false,.str f.rn,.slice (aO f.rk) false,.int .i64 f.body.kind,.int .i64 f.body.n,.str f.body.name,.str f.body.field,.str f.body.wn,.slice (aO f.body.wk) false,.slice (aK f.body.kids) false,.slice (strs f.body.names) false,.slice (strs f.layout) false]] H=some (.slice (strs (df f)) o,none):=by
 have e:=AJ h H
 rw[wA hv.pr,jI] at e
 exact⟨_,e⟩
end Go.Proofs.YtocbgffdpfiidaaGreatDoor
