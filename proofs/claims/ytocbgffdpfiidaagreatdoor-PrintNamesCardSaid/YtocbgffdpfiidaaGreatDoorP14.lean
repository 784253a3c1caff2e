/-
  A part of the proof of PrintNames: SN3.
-/
import Derived.Test.YtocbgffdpfiidaaGreatDoorP13
set_option linter.unusedSimpArgs false
set_option linter.unusedVariables false
set_option linter.defProp false
set_option maxHeartbeats 1000000
set_option maxRecDepth 100000
namespace Go.Proofs.YtocbgffdpfiidaaGreatDoor
open Go Go.Abs Go.Proofs
abbrev pM:aZ:=Sz.body.sub [true,true,false,true,false,false,true,false,false]
def Zn(x:So)(at' nm:Int)(i:Nat)(s:AS):Prop:=∃ T g,s=⟨T,[],0,g⟩/\T 1=.int .i64 at'/\T 2=.int .i64 nm/\T 7=.lbox 0 [.str x.name,.slice (strs x.k9) false,.slice (x.defs.map jI) false,.slice (strs x.head) false,.str x.fin]/\T 8=.int .i64 i
def NmA(x:So)(at' nm:Int)(i:Nat)(old lay:List aV)(k:Nat)(u:aV)(s:AS):Prop:=∃ T g o g',s=⟨T,[],0,g⟩/\T 1=.int .i64 at'/\T 2=.int .i64 nm/\T 7=.lbox 0 [.str x.name,.slice (strs x.k9) false,.slice (x.defs.map jI) false,.slice (strs x.head) false,.str x.fin]/\T 8=.int .i64 i /\
 T 9=.slice (strs old) o/\T 10=.slice (strs lay) false/\T 11=.int .i64 k/\T 12=.lsl g' (strs (old.set k u))
theorem OA{x:So}{at' nm:Int}{i:Nat}{s:AS}{Q:bC->AS->Prop}(hx:Ic 4 x/\∀ f∈x.defs,DR f)(kV:zb at')(LU:zb nm)(hi:i<x.defs.length)(hs:Zn x at' nm i s) :
  W A2 (pM.pre 5) s (andThen (fun s=>∃ f lay k u,Df f lay/\k<(df f).length/\fX u/\NmA x at' nm i (df f) lay k u s) Q):=by
 obtain⟨T,g,rfl,e1,e2,e7,e8⟩:=hs
 unfold pM Sz
 simp only[aZ.sub,aZ.pre]
 have hxi:=aiJ hi
 have hm:=ajA hi
 generalize x.defs[i]=f at hxi hm
 have Jb:=aad hxi
 rw[jI] at Jb
 have hB:=(hx.1.db f hm).B (by omega)
 have hV:=hx.2 f hm
 obtain⟨o,h8⟩:=O5 hB hV []
 replace h8:=c2 rfl h8
 obtain⟨lay,Jg⟩:∃ lay,lay=if f.layout=[] then gT (df f) else f.layout:=⟨_,rfl⟩
 obtain⟨aaE,Cu⟩:=I0 hB hV Jg
 have hD:Df f lay:=⟨hB,hV,aaE,Cu⟩
 have hul:=hV.ln
 have xA:=sK f
 have hu:=c2 rfl (DH (df f) [] (by omega))
 obtain⟨r1,r2⟩:=kR (n:=at') (k:=((df f).length:Int)) (by omega)
 have ha:=c2 rfl (qP at' (df f).length [] kV (by omega))
 generalize mu at' (df f).length=k at r1 r2 ha
 obtain⟨k,rfl⟩:∃ k' : Nat,k=k':=⟨k.toNat,by omega⟩
 have hk:k<(df f).length:=by omega
 obtain⟨u,U8,hp⟩:=S5 nm [] LU
 replace hp:=c2 rfl hp
 have q1:=gN hk
 have rC:(strs (df f)).set k [.str u]=strs ((df f).set k u):=by simp[strs,List.map_set]
 have oI:∃ f' abt k' u',Df f' abt/\k' < (df f').length/\fX u'/\df f'=df f/\abt=lay/\k'=k/\u'=u:=⟨f,lay,k,u,hD,hk,U8,rfl,rfl,rfl,rfl⟩
 generalize hold:df f=old at h8 hul xA hu ha hk q1 rC Jg
 have hfb:b9 1 16 [] (strs old)=true:=by
  have h1:fR 1 (strs old)=true:=by cases old<;>rfl
  have e1:Nat.ble (old.length*16) 70368744177664=true:=by rw[ajg];omega
  have e2:Nat.ble old.length 70368744177664=true:=by rw[ajg];omega
  unfold b9
  rw[h1]
  simp only[aiR,Nat.zero_add,aE,e1,e2]
  rfl
 by_cases hl0:f.layout=[]
 ·rw[if_pos hl0] at Jg
  subst Jg
  have HH:(f.layout.length:Int)=0:=by rw[hl0];rfl
  cases o <;>
  simp(disch:=omega)only[aW,aa,simprocAttr,e1,e2,e7,e8,zX,Jb,h8,aE,HH,hu,ha,hfb,hp,q1,rC,List.isEmpty_nil,cG,an,bN]
  ·refine⟨f,_,k,u,hD,by rw[hold];exact hk,U8,_,_,false,g+1,rfl,?_,?_,?_,?_,?_,?_,?_,?_⟩
   all_goals simp(disch:=omega)only[aM,aa,simprocAttr,e1,e2,e7,e8,hold]
  ·refine⟨f,_,k,u,hD,by rw[hold];exact hk,U8,_,_,true,g+1,rfl,?_,?_,?_,?_,?_,?_,?_,?_⟩
   all_goals simp(disch:=omega)only[aM,aa,simprocAttr,e1,e2,e7,e8,hold]
 ·rw[if_neg hl0] at Jg
  subst Jg
  have HH:0<f.layout.length:=akW.2 hl0
  cases o <;>
  simp(disch:=omega)only[aW,aa,simprocAttr,e1,e2,e7,e8,zX,Jb,h8,aE,hu,ha,hfb,hp,q1,rC,List.isEmpty_nil,cG,an,bN]
  ·refine⟨f,_,k,u,hD,by rw[hold];exact hk,U8,_,_,false,g+1,rfl,?_,?_,?_,?_,?_,?_,?_,?_⟩
   all_goals simp(disch:=omega)only[aM,aa,simprocAttr,e1,e2,e7,e8,hold]
  ·refine⟨f,_,k,u,hD,by rw[hold];exact hk,U8,_,_,true,g+1,rfl,?_,?_,?_,?_,?_,?_,?_,?_⟩
   all_goals simp(disch:=omega)only[aM,aa,simprocAttr,e1,e2,e7,e8,hold]
def Qb(x:So)(at' nm:Int)(i:Nat)(e:bC)(s:AS):Prop:=(e=.normal\/e=.exit 1)/\Zn x at' nm i s
structure Chk (old lay:List aV) (k:Nat) (u:aV):Prop where
 a:lay.getD k []=[32]
 b:lay.getD (k+1) []≠[]
 c:u≠old.getD k []
 d:k≠0
 e:cS (old.set k u) k=[32]
def NmB(x:So)(at' nm:Int)(i:Nat)(old lay now:List aV)(s:AS):Prop:=∃ T g o,s=⟨T,[],0,g⟩/\T 1=.int .i64 at'/\T 2=.int .i64 nm/\T 7=.lbox 0 [.str x.name,.slice (strs x.k9) false,.slice (x.defs.map jI) false,.slice (strs x.head) false,.str x.fin]/\T 8=.int .i64 i /\
 T 9=.slice (strs old) o/\T 10=.slice (strs lay) false/\T 12=.slice (strs now) false
theorem S3{x:So}{at' nm:Int}{i k:Nat}{old lay:List aV}{u:aV}{s:AS}(hl:lay.length=old.length+1)(WK:old.length<=200)(hk:k<old.length)(hs:NmA x at' nm i old lay k u s) :
  W A2 ((pM.post 5).pre 0) s (andThen (fun s=>Chk old lay k u/\NmB x at' nm i old lay (old.set k u) s) (Qb x at' nm i)):=by
 obtain⟨T,g,o,g',rfl,e1,e2,e7,e8,e9,uk,Qf,Fz⟩:=hs
 unfold pM Sz
 simp only[aZ.sub,aZ.pre,aZ.post]
 have q1:=gN (l:=lay) (i:=k) (by omega)
 have q2:=gN (l:=lay) (i:=k+1) (by omega)
 have n2:asNat (.int .i64 ((k:Int)+1))=some (k+1):=by rw[fl (by omega)];rfl
 have q3:(strs (old.set k u))[k]?=some [.str u]:=bk (List.getElem?_set_self hk)
 have q4:=gN hk
 have og:(old.set k u).length=old.length:=List.length_set
 have nbS:∀ L:List aV,gd (strs L)=true:=fun L=>by simp[gd,strs]
 have HI:=nbS (old.set k u)
 have U8:=PA (old.set k u) [] (by omega)
 have hug:(strs (dh (old.set k u)))[k]?=some [.str (cS (old.set k u) k)]:=bk (tu (by omega))
 generalize ha:lay.getD k []=a at q1
 generalize hb:lay.getD (k+1) []=b at q2
 generalize hc:old.getD k []=c at q4
 generalize hd:cS (old.set k u) k=d at hug
 have fin:∀ (T' : aC) (g1:Nat),T' 1=.int .i64 at'->T' 2=.int .i64 nm->T' 7=.lbox 0 [.str x.name,.slice (strs x.k9) false,.slice (x.defs.map jI) false,.slice (strs x.head) false,.str x.fin]->T' 8=.int .i64 i->Qb x at' nm i (.exit 1) ⟨T',[],0,g1⟩ :=
  fun T' g1 r1 r2 r7 r8=>⟨.inr rfl,T',g1,rfl,r1,r2,r7,r8⟩
 cases b1:(a==[32]) with
 | false =>
  simp(disch:=omega)only[aW,aa,simprocAttr,uk,Qf,Fz,e9,q1,q2,n2,b1,ajz,ajp]
  refine fin _ _ ?_ ?_ ?_ ?_
  all_goals simp(disch:=omega)only[aM,aa,simprocAttr,e1,e2,e7,e8]
 | true =>
 cases b2:(b==[]) with
 | true =>
  simp(disch:=omega)only[aW,aa,simprocAttr,uk,Qf,Fz,e9,q1,q2,n2,b1,b2,ajz,ajp]
  refine fin _ _ ?_ ?_ ?_ ?_
  all_goals simp(disch:=omega)only[aM,aa,simprocAttr,e1,e2,e7,e8]
 | false =>
 cases b3:(u==c) with
 | true =>
  cases o <;>
  simp(disch:=omega)only[aW,aa,simprocAttr,uk,Qf,Fz,e9,q1,q2,n2,q3,q4,HI,b1,b2,b3,ajz,ajp]
  all_goals refine fin _ _ ?_ ?_ ?_ ?_
  all_goals simp(disch:=omega)only[aM,aa,simprocAttr,e1,e2,e7,e8]
 | false =>
 by_cases b4:(k:Int)=0
 ·cases o <;>
  simp(disch:=omega)only[aW,aa,simprocAttr,uk,Qf,Fz,e9,q1,q2,n2,q3,q4,HI,b1,b2,b3,ajz,ajp]
  all_goals refine fin _ _ ?_ ?_ ?_ ?_
  all_goals simp(disch:=omega)only[aM,aa,simprocAttr,e1,e2,e7,e8]
 cases b5:(d==[32]) with
 | false =>
  cases o <;>
  simp(disch:=omega)only[aW,aa,simprocAttr,uk,Qf,Fz,e9,q1,q2,n2,q3,q4,HI,b1,b2,b3,b4,b5,U8,hug,ajz,ajp]
  all_goals refine fin _ _ ?_ ?_ ?_ ?_
  all_goals simp(disch:=omega)only[aM,aa,simprocAttr,e1,e2,e7,e8]
 | true =>
  have hck:Chk old lay k u:=⟨by rw[ha];simpa using b1,by rw[hb];simpa using b2,by rw[hc];simpa using b3,by omega,by rw[hd];simpa using b5⟩
  cases o <;>
  simp(disch:=omega)only[aW,aa,simprocAttr,uk,Qf,Fz,e9,q1,q2,n2,q3,q4,HI,b1,b2,b3,b4,b5,U8,hug,ajz,ajp]
  ·refine⟨hck,_,_,false,rfl,?_,?_,?_,?_,?_,?_,?_⟩
   all_goals simp(disch:=omega)only[aM,aa,simprocAttr,e1,e2,e7,e8,e9,uk]
  ·refine⟨hck,_,_,true,rfl,?_,?_,?_,?_,?_,?_,?_⟩
   all_goals simp(disch:=omega)only[aM,aa,simprocAttr,e1,e2,e7,e8,e9,uk]
theorem yT:∀ {ts xs:List aV},xs.length=ts.length+1->nK (kN ts xs)++xs.getLastD []=glue ts xs
 | [],[x],_=>by simp[kN,nK,glue]
 | t :: ts,x :: xs,h=>by
  have ih:=yT (ts:=ts) (xs:=xs) (by simpa using h)
  have e6:(x :: xs).getLastD []=xs.getLastD []:=by
   cases xs with
   | nil=>simp at h
   | cons a b=>rfl
  rw[kN,nK,glue,e6,<- ih]
  simp
theorem DE{B:Nat} : ∀ {ts xs:List aV},(∀ t∈ts,t.length<=B)->(∀ x∈xs,x.length<=B)->∀ t∈kN ts xs,t.before.length<=B/\t.text.length<=B
 | [],[],_,_,t,ht=>by cases ht
 | [],_ :: _,_,_,t,ht=>by cases ht
 | _ :: _,[],_,_,t,ht=>by cases ht
 | a :: ts,x :: xs,h1,h2,t,ht=>by
  rw[kN] at ht
  rcases aja.1 ht with rfl|ht
  ·exact⟨h2 x (by simp),h1 a (by simp)⟩
  ·exact DE (fun u hu=>h1 u (by simp[hu])) (fun u hu=>h2 u (by simp[hu])) t ht
theorem Lo{old lay:List aV}{k:Nat}{u:aV}(hf:lA old lay)(hk:k<old.length)(hu:fX u)(hc:Chk old lay k u):lA (old.set k u) lay where
 len:=by rw[List.length_set];exact hf.len
 w:=hf.w
 s:=fun t ht=>by
  rcases alf ht with h|rfl
  ·exact hf.s t h
  ·exact hu
 g:=fun i hi=>by
  rw[List.length_set] at hi
  by_cases h1:i+1=k
  ·left;rw[h1,hc.a];simp
  ·by_cases h2:i=k
   ·left;rw[h2];exact hc.b
   ·have:=hf.g i hi
    have e1:(old.set k u).getD i []=old.getD i []:=by simp only[List.getD,aj' (aj6 h2)]
    have e2:(old.set k u).getD (i+1) []=old.getD (i+1) []:=by simp only[List.getD,aj' (aj6 h1)]
    rw[e1,e2]
    exact this
theorem X5{x:So}{at' nm:Int}{i k:Nat}{old lay:List aV}{u:aV}{s:AS}(hf:lA old lay)(Cu:∀ y∈lay,y.length<=20)(WK:old.length<=200)(hk:k<old.length)(hu:fX u)(hc:Chk old lay k u)(hs:NmB x at' nm i old lay (old.set k u) s) :
  W A2 (pM.post 6) s (Qb x at' nm i):=by
 obtain⟨T,g,o,rfl,e1,e2,e7,e8,e9,uk,Fz⟩:=hs
 have hf2:=Lo hf hk hu hc
 have hlen:=hf.len
 have hkp:kept lay old (old.set k u)=lay:=Ob hlen hk hc.c (by rw[hc.e,hc.a]) hc.b
 have og:(old.set k u).length=old.length:=List.length_set
 generalize ag8:old.set k u=now at hf2 hkp og Fz
 have sQ:=hf2.s
 unfold pM Sz
 simp only[aZ.sub,aZ.post]
 have Kj:∀ t∈now,t.length<=20:=fun t ht=>ajt (sQ t ht).len (by omega)
 have jl:∀ j,(gE now lay j).length<=j*(2*20):=sU Kj Cu
 simp(disch:=omega)only[aW,aa,simprocAttr]
 refine bY old.length 2 (fun j s=>∃ T g,s=⟨T,[],0,g⟩/\T 1=.int .i64 at'/\T 2=.int .i64 nm/\T 7=.lbox 0 [.str x.name,.slice (strs x.k9) false,.slice (x.defs.map jI) false,.slice (strs x.head) false,.str x.fin]/\T 8=.int .i64 i /\
   T 9=.slice (strs old) o/\T 10=.slice (strs lay) false/\T 12=.slice (strs now) false/\T 13=.str (gE now lay j)/\T 14=.int .i64 j)
  (fun s=>∃ T g,s=⟨T,[],0,g⟩/\T 1=.int .i64 at'/\T 2=.int .i64 nm/\T 7=.lbox 0 [.str x.name,.slice (strs x.k9) false,.slice (x.defs.map jI) false,.slice (strs x.head) false,.str x.fin]/\T 8=.int .i64 i /\
   T 9=.slice (strs old) o/\T 10=.slice (strs lay) false/\T 12=.slice (strs now) false/\T 13=.str (gE now lay old.length)) (fun _=>False) ?_ ?_ (fun _ h=>h.elim) 0 _ (ajy _) ?_
 ·rintro j s hj ⟨T,g,rfl,e1,e2,e7,e8,e9,uk,Fz,Zq,e14⟩
  by_cases hc:j<old.length
  ·have q1:=gN (l:=lay) (i:=j) (by omega)
   have q2:=gN (l:=now) (i:=j) (by omega)
   have hj1:=jl j
   have hj2:j*(2*20)<=200*(2*20):=aiZ _ (by omega)
   have hj3:=sL Cu j
   have hj4:=sL Kj j
   have hss:gE now lay j++lay.getD j []++now.getD j []=gE now lay (j+1):=by rw[qv];simp
   have hl1:(gE now lay j++lay.getD j []).length<=9000:=by rw[List.length_append];omega
   generalize gE now lay (j+1)=a1 at hss ⊢
   generalize gE now lay j=a0 at Zq hj1 hss hl1
   generalize lay.getD j []=b0 at q1 hj3 hss hl1
   generalize now.getD j []=c0 at q2 hj4 hss
   cases o <;>
   simp(disch:=omega)only[aW,aa,simprocAttr,e9,uk,Fz,Zq,e14,aE,q1,q2,hss]
   all_goals
    refine⟨hc,_,_,rfl,?_,?_,?_,?_,?_,?_,?_,?_,?_⟩
    all_goals simp(disch:=omega)only[aM,aa,simprocAttr,e1,e2,e7,e8,e9,uk,Fz]
  ·have Ct:j=old.length:=by omega
   subst Ct
   cases o <;>
   simp(disch:=omega)only[aW,aa,simprocAttr,e9,e14,aE]
   all_goals
    refine⟨_,_,rfl,?_,?_,?_,?_,?_,?_,?_,?_⟩
    all_goals simp(disch:=omega)only[aM,aa,simprocAttr,e1,e2,e7,e8,e9,uk,Fz,Zq]
 ·rintro s ⟨T,g,rfl,e1,e2,e7,e8,e9,uk,Fz,Zq⟩
  obtain⟨ok,QO⟩:=XR lay old now [] (by omega) (by omega) (by omega)
  rw[hkp] at QO
  replace QO:=c2 rfl QO
  have HH:lay.length=now.length+1:=by omega
  have hj:=Sw now lay [] (by omega) (fun t ht=>ajt (Kj t ht) (by omega)) (fun y hy=>ajt (Cu y hy) (by omega)) (by omega)
  rw[Gl HH] at hj
  have hgl:(glue now lay).length<=8192:=by
   have:=Hz (B:=20) Kj Cu
   have h2:(2*now.length+1)*20<=409*20:=aiZ _ (by omega)
   omega
  have ZC:=TY (glue now lay) [] (by omega)
  rw[JY hf2 hgl] at ZC
  simp only at ZC
  have yr:(lay.getLastD []).length<=20:=by
   rcases List.eq_nil_or_concat lay with h|⟨L,y,h⟩
   ·rw[h];simp
   ·have hm:y∈lay:=by rw[h];simp
    have e:lay.getLastD []=y:=by rw[h];simp[List.getLastD_eq_getLast?]
    rw[e];exact Cu y hm
  have htx:=Uk (kN now lay) (lay.getLastD []) [] (by rw[qI HH];omega) (by rw[qI HH];omega) (fun t ht=>by have:=DE Kj Cu t ht;omega) (by omega)
  rw[yT HH] at htx
  have hg:=sM HH
  rw[og] at hg
  have ql:=gN (l:=lay) (i:=old.length) (by omega)
  have hj1:=jl old.length
  have hj2:old.length*(2*20)<=200*(2*20):=aiZ _ (by omega)
  have hj3:=sL Cu old.length
  generalize gE now lay old.length=a0 at Zq hg hj1
  generalize lay.getD old.length []=b0 at ql hg hj3
  have yl:((a0++b0) != (a0++b0))=false:=by simp
  rw[hg] at hj ZC htx
  replace hj:=c2 (f:=12) rfl hj
  replace ZC:=c2 (f:=16) rfl ZC
  replace htx:=c2 (f:=17) rfl htx
  have fin:∀ (T' : aC) (g1:Nat),T' 1=.int .i64 at'->T' 2=.int .i64 nm->T' 7=.lbox 0 [.str x.name,.slice (strs x.k9) false,.slice (x.defs.map jI) false,.slice (strs x.head) false,.str x.fin]->T' 8=.int .i64 i->Qb x at' nm i .normal ⟨T',[],0,g1⟩ :=
   fun T' g1 r1 r2 r7 r8=>⟨.inl rfl,T',g1,rfl,r1,r2,r7,r8⟩
  cases o<;>cases ok <;>
  simp(disch:=omega)only[aW,aa,simprocAttr,e9,uk,Fz,Zq,QO,hj,ZC,htx,yl,aE,ql]
  all_goals refine fin _ _ ?_ ?_ ?_ ?_
  all_goals simp(disch:=omega)only[aM,aa,simprocAttr,e1,e2,e7,e8]
 ·refine⟨_,_,rfl,?_,?_,?_,?_,?_,?_,?_,?_,?_⟩
  all_goals simp(disch:=omega)only[aM,aa,simprocAttr,e1,e2,e7,e8,e9,uk,Fz,ajl]
  rfl
theorem S2{x:So}{at' nm:Int}{i:Nat}{s:AS}(hx:Ic 4 x/\∀ f∈x.defs,DR f)(kV:zb at')(LU:zb nm)(hi:i<x.defs.length)(hs:Zn x at' nm i s):W A2 pM s (Qb x at' nm i):=by
 refine ib 5 _ (OA hx kV LU hi hs) ?_
 rintro s ⟨f,lay,k,u,hD,hk,hu,hs⟩
 refine ib 0 _ (S3 hD.Ln.len hD.len hk hs) ?_
 rintro s ⟨hc,hs⟩
 have e:(pM.post 5).post 0=pM.post 6:=rfl
 rw[e]
 exact X5 hD.Ln hD.lb hD.len hk hu hc hs
theorem S0(l:List Int)(at' nm:Int)(hl:∀ n∈l,zb n)(kV:zb at')(LU:zb nm):aA A2 4 [.slice (ints l) false,.int .i64 at',.int .i64 nm] []=some (.bool true,none):=by
 obtain⟨x,hx,ex⟩:=Pc l hl []
 rw[Qh] at ex
 replace ex:=c2 rfl ex
 have Ki:aA A2 6 [] []=some (.bool true,none):=c2 rfl (mO (A:=A) (f:=6) rfl rfl)
 have hxd:=hx.1.dl
 refine bb (fn:=Sz) rfl rfl rfl ?_
 refine ib 1 (fun s=>∃ T g,s=⟨T,[],0,g⟩/\T 1=.int .i64 at'/\T 2=.int .i64 nm/\T 7=.lbox 0 [.str x.name,.slice (strs x.k9) false,.slice (x.defs.map jI) false,.slice (strs x.head) false,.str x.fin]) ?_ ?_
 ·unfold Sz
  simp only[aZ.pre]
  simp(disch:=omega)only[aW,aa,simprocAttr,ex,aiR,cG,an,bN]
  refine⟨_,_,rfl,?_,?_,?_⟩
  all_goals simp(disch:=omega)only[aM,aa,simprocAttr]
 ·rintro s ⟨T,g,rfl,e1,e2,e7⟩
  unfold Sz
  simp only[aZ.post]
  simp(disch:=omega)only[aW,aa,simprocAttr]
  refine bY x.defs.length 0 (fun i s=>Zn x at' nm i s) (fun s=>∃ T g,s=⟨T,[],0,g⟩) (fun _=>False) ?_ ?_ (fun _ h=>h.elim) 0 _ (ajy _) ?_
  ·rintro i s hi ⟨T,g,rfl,e1,e2,e7,e8⟩
   by_cases hc:i<x.defs.length
   ·refine Bc (Zn x at' nm i) ?_ ?_
    ·simp(disch:=omega)only[aW,aa,simprocAttr,e7,e8,zX,cG,an,bN]
     refine⟨_,_,rfl,?_,?_,?_,?_⟩
     all_goals simp(disch:=omega)only[aM,aa,simprocAttr,e1,e2,e7,e8]
    ·intro s' qt
     refine Bc (Zn x at' nm i) ?_ ?_
     ·rw[ze]
      refine p9 (c:=pM) (S2 hx kV LU hc qt) ?_
      rintro e s ⟨he|he,hN⟩<;>subst he<;>exact hN
     ·rintro s' ⟨T,g,rfl,e1,e2,e7,e8⟩
      simp(disch:=omega)only[aW,aa,simprocAttr,e8]
      refine⟨hc,_,_,rfl,?_,?_,?_,?_⟩
      all_goals simp(disch:=omega)only[aM,aa,simprocAttr,e1,e2,e7]
   ·simp(disch:=omega)only[aW,aa,simprocAttr,e7,e8,zX,cG,an,bN]
    exact⟨_,_,rfl⟩
  ·rintro s ⟨T,g,rfl⟩
   simp(disch:=omega)only[aW,aa,simprocAttr,Ki]
  ·refine⟨_,_,rfl,?_,?_,?_,?_⟩
   all_goals simp(disch:=omega)only[aM,aa,simprocAttr,e1,e2,e7,ajl]
end Go.Proofs.YtocbgffdpfiidaaGreatDoor
