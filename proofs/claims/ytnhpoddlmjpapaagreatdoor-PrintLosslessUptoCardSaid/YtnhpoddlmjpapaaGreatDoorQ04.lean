/-
  A part of the proof of PrintLossless: AbsOps10, AbsOps11, AbsOps12, AbsCall, AbsMap1, AbsMap2, AbsMap3, AbsMap4, AbsMap5.
-/
import Derived.Deep.Upon
import Derived.Lib.FrozenHead
import Derived.Test.YtnhpoddlmjpapaaGreatDoorQ03
set_option linter.unusedSimpArgs false
set_option linter.unusedVariables false
set_option linter.defProp false
noncomputable section
namespace Go.Abs
variable {k r:AV}{E':Array MapEntry}{C C':Array Value}{em ka va:Bool}{bt:Gh}{E F es f:List (List AV)}{cs kc vs zero:List AV}{ks:List CK}{news:List Value}{b bytes ck ck' l off sCap sLen sz vz:Nat}{fr:Nat × Nat}{S:Nat->Nat->Prop}{g:Nat->Value}{q:Nat->bL}{o:Oper}{x xv:Operand}{s':Option AS}{ch:Option fR}{e et kt tx ty u:TypeId}{V X kv v z zv:Value}{y yv:aE}{p:bL}{cf:gD}
section
section
variable {P:Program}{G:Nat->List AV}{base nt:Nat}{L:List Nat}{gh:Gh}{w w' : World}{a:Act}{s:AS}{H:ae}
theorem qR(hW:bf G base s.H gh w)(hF:FR L nt gh w a s)(hc:ar nt x=some y)(hf:aM (y.eval G s.T)=true)(p:bL)(hp:p≠.outer) :
  ∃ bt,bf G base s.H bt w/\FR L nt bt w a (s.bC y)/\Ext s.H.length gh w bt w/\Step (fun r=>∃ t,r=.sl t) s.H.length gh w bt w/\CR bt s.H.length w p (a.eval x) (y.eval G s.T):=by
 have gI:=fun b hb=>hW.cA (gh:=gh) b hb
 have stay:s.bC y=s->VR gh s.H.length w (a.eval x) (y.eval G s.T)->∃ bt,bf G base s.H bt w/\FR L nt bt w a (s.bC y)/\Ext s.H.length gh w bt w/\Step (fun r=>∃ t,r=.sl t) s.H.length gh w bt w/\CR bt s.H.length w p (a.eval x) (y.eval G s.T):=by
  intro h1 h2;rw[h1];exact⟨gh,hW,hF,Ext.refl _ _ _ gI,Step.refl _ _ _ _ gI,.inl h2⟩
 cases y with
 | tmp t =>
  obtain⟨rfl,ht⟩:=kM hc;have hd:=cX hW hF hc rfl hf;simp only[aE.eval] at hf hd stay ⊢;cases hT:s.T t with
  | slice e own =>
   cases own with
   | false =>
    rw[hT] at hd stay;exact stay (by simp[AS.bC,hT]) hd
   | true =>
    obtain⟨bt,h1,h2,h3,h4,h5⟩:=yX hW hF ht hT p hp;refine⟨bt,h1,?_,h3,h4.mono (fun r h=>⟨t,h⟩),h5⟩
    simpa [AS.bC,hT] using h2
  | _ =>
   rw[hT] at hd stay;exact stay (by simp[AS.bC,hT]) hd
 | xI v =>
  refine stay rfl ?_;cases x with
  | tmp k =>
   simp only[ar] at hc
   grind
  | const u =>
   simp only[ar,auP] at hc;obtain⟨z,hz,h⟩:=hc;injection h with h
   subst h;exact kP hz
  | global g=>simp[ar] at hc
  | func f=>simp[ar] at hc
 | aW g =>
  refine stay rfl ?_;have:=cX hW hF hc rfl hf
  exact this
 | fn f =>
  refine stay rfl ?_;have:=cX hW hF hc rfl hf
  exact this
theorem VI{b:Nat} : ({ S:=fun b' o=>gh.S b' o\/(b'=b/\(fun _=>False) o),κ:=fun b'=>if b'=b then gh.κ b else gh.κ b',ρ:=gh.ρ } : Gh)=gh:=by
 obtain⟨S,κ,ρ⟩:=gh
 congr 1
 ·funext b' o
  simp
 ·funext b'
  grind
def nE(hW:bf G base H gh w)(hb:w.heap[b]?=some (.cells C ty fr))(j9:C'.size=C.size)(dm:∀ o,gh.S b o->C'[o]?=C[o]?)(n:Nat) :
  Step (fun r=>r=gh.κ b) n gh w gh (w.setRow b C'):=by
 have h:=rH hW hb j9 (fun _=>False) dm (gh.κ b) n
 rw[VI] at h;exact h
def DB(hW:bf G base H gh w)(hb:w.heap[b]?=some (.cells C ty fr))(j9:C'.size=C.size)(dm:∀ o,gh.S b o->C'[o]?=C[o]?)(h0:gh.κ b≠.none)(h1:gh.κ b≠.outer)(n:Nat) :
  Ext n gh w gh (w.setRow b C') :=
 ⟨(nE hW hb j9 dm n).mono (fun r h=>by rw[h];exact⟨h0,h1⟩),fun _ h=>h⟩
def gy(C:Array Value)(off:Nat)(D:Array Value):Array Value:=(C.toList.take off++D.toList++C.toList.drop (off+D.toList.length)).toArray
theorem k9{D:Array Value}(h:off+D.size<=C.size)(j:Nat):(gy C off D)[j]?=if off<=j/\j<off+D.size then D[j-off]? else C[j]?:=by
 have anE:min off C.size=off:=ah;unfold gy
 grind
def dY{D:Array Value}(h:off+D.size<=C.size):(gy C off D).size=C.size:=by
 unfold gy;simp;omega
def A5{t:TypeId}(hs:fD P t=some sz)(hb:w.heap[b]?=some (.cells C ty (0,0)))(hv:v.cells.size=sz)(gS:off+sz<=C.size)(iw:∀ u∈v.cells.toList,u.oneCell'=true) :
  (Instr.storeAt t (.pointer (some ⟨b,off,none⟩)) v).run P w=.ok () (w.setRow b (gy C off v.cells)):=by
 have h:=run_storeCells_at P b off ty v.cells.toList 0 C w hb dw iw;simp only[au7] at h;simp[Instr.storeAt,Instr.sureAddr,storeVar,fC hs,hv,h,gy]
def zD(hW:bf G base H gh w){n:Nat}(hB:iL gh n w b p q cs){t:TypeId}(hs:fD P t=some sz)(Fx:vs.length=sz)(mN:off+sz<=cs.length)
  (hv:v.cells.size=sz) (dv:∀ (j:Nat) (u:Value) (x:AV),v.cells[j]?=some u->vs[j]?=some x->u.oneCell'=true/\CR gh n w (q (off+j)) u x) (hq:∀ j,q j≠p) (hp:p≠.none/\p≠.outer) (m:Nat) :
  ∃ w',(Instr.storeAt t (.pointer (some ⟨b,off,none⟩)) v).run P w=.ok () w'/\Step (fun r=>r=p) m gh w gh w'/\Ext m gh w gh w'/\w'.heap.size=w.heap.size/\iL gh n w' b p q (putAt cs off vs):=by
 obtain⟨hκ,hS,C,ty,hb,hC,iG⟩:=hB;have mH:∀ o,gh.S b o->(gy C off v.cells)[o]?=C[o]?:=fun o ho=>(hS o ho).elim
 have OG:(gy C off v.cells).size=C.size:=dY ah;have st:=nE hW hb OG mH m;have stn:=nE hW hb OG mH n;have hE:=DB hW hb OG mH (by rw[hκ];exact hp.1) (by rw[hκ];exact hp.2) m
 rw[hκ] at st stn;have gS:off+v.cells.size<=C.size:=ah;refine⟨_,A5 hs hb hv ah ?_,st,hE,ag,hκ,hS,_,ty,setRow_heap w b C _ ty _ hb,by rw[dY gS,rG ah];exact hC,fun j u x Gm Bi=>?_⟩
 ·intro u hu
  obtain⟨j,hj⟩:=avl hu;have Bh:v.cells[j]?=some u:=cT hj;have aZ:j<vs.length:=by rw[Fx,<- hv];exact (auZ.1 Bh).1
  exact (dv j u _ Bh (auS aZ)).1
 ·rw[k9 gS] at Gm
  rw[vC ah] at Bi;have e1:v.cells.size=vs.length:=ah;rw[e1] at Gm;split at Gm
  ·rename_i hc
   rw[if_pos hc] at Bi;obtain⟨k1,k2⟩:=dv _ u x Gm Bi;rw[show off+(j-off)=j by omega] at k2
   exact⟨k1,k2.mono stn (Nat.le_refl _) (hq j)⟩
  ·rename_i hc
   rw[if_neg hc] at Bi;obtain⟨k1,k2⟩:=iG j u x Gm Bi;exact⟨k1,k2.mono stn (Nat.le_refl _) (hq j)⟩
def xZ{n:Nat}{x:AV}(h:CR gh n w (q off) v x)(hc:x.cells=some vs) :
  v.cells.size=vs.length/\∀ (j:Nat) (u:Value) (y:AV),v.cells[j]?=some u->vs[j]?=some y->u.oneCell'=true/\CR gh n w (q (off+j)) u y:=by
 rcases h with h|⟨e,rfl,Mv,hO⟩
 ·have hr:=vd h hc
  exact⟨hr.1,fun j u y hu hy=>⟨(hr.2 j u y hu hy).2,.inl (hr.2 j u y hu hy).1⟩⟩
 ·have e1:vs=[.slice e true]:=by simpa [AV.cells] using hc.symm
  subst e1;have iw:=Mv.gm;have:v.cells=#[v]:=by obtain⟨b,cap,_,_,_,_,_,rfl,_⟩:=hO;rfl
  rw[this];refine⟨rfl,fun j u y hu hy=>?_⟩
  cases j with
  | zero=>simp at hu hy;subst hu hy;exact⟨iw,.inr ⟨e,rfl,Mv,hO⟩⟩
  | succ j=>simp at hu
def jO{x:AV}(h:x.cells=some vs):aM x=true:=by cases x<;>first|rfl|cases h
def iZ(s:AS)(y:aE):(s.bC y).H=s.H/\(s.bC y).gen=s.gen/\(s.bC y).lo=s.lo:=by
 cases y with
 | tmp t=>simp only[AS.bC];split<;>exact⟨rfl,rfl,rfl⟩
 | _=>exact⟨rfl,rfl,rfl⟩
theorem O9(s:AS)(y:aE)(b:Nat)(h:∀ e,s.T b≠.slice e true):(s.bC y).T b=s.T b:=by
 cases y<;>simp only[AS.bC]
 rename_i t;split
 ·rename_i e hT
  by_cases hb:b=t
  ·grind
  ·simp[AS.cy,kZ,hb]
 ·rfl
theorem rN(s:AS)(t:Nat)(h:∀ e,s.T t≠.slice e true):s.bC (.tmp t)=s:=by
 simp only[AS.bC]
def vH(s:AS)(t:Nat){e:List (List AV)}(h:s.T t=.slice e true):s.bC (.tmp t)=s.cy t (.slice e false):=by
 simp only[AS.bC,h]
theorem DM(s:AS)(y:aE)(b:Nat)(X:AV)(h:∀ e,s.T b≠.slice e true)(hX:∀ e,X≠.slice e true):(s.cy b X).bC y=(s.bC y).cy b X:=by
 cases y<;>try rfl
 rename_i t
 by_cases hb:t=b
 ·subst hb
  rw[rN s t h,rN _ t (by simpa [AS.cy,kZ] using hX)]
 ·have e1:(s.cy b X).T t=s.T t:=by simp[AS.cy,kZ,hb]
  by_cases ho:∃ e,s.T t=.slice e true
  ·obtain⟨e,ho⟩:=ho
   rw[vH s t ho,vH (s.cy b X) t (by rw[e1,ho])]
   simp only[AS.cy]
   congr 1
   funext k
   grind [kZ]
  ·grind [rN]
def Ag(s:AS)(y:aE)(c:fR):(s.iF c).bC y=(s.bC y).iF c:=by
 cases y<;>simp only[AS.bC]
 rename_i t
 show (match s.T t with|.slice e true=>(s.iF c).cy t (.slice e false)|_=>s.iF c)=_
 cases hT:s.T t<;>try rfl
 rename_i e own;cases own<;>rfl
def Out.skip{s1:AS}{d:Option Nat}(hW:bf G base s1.H bt w')(hF:FR L nt bt w' a s1)(hE:Ext s.H.length gh w bt w')(hd:∀ k,d=some k->k<nt):Out G base nt L gh w a s d .undef s1 undef bt w' :=
 Out.of (gen':=s1.gen) hW hF hE (Nat.le_refl _) hd (.inl rfl) (fun k hk=>.inl VR.undef)
theorem Q6{f:AV->Bool}(h1:cs.all f=true)(h2:vs.all f=true):(putAt cs off vs).all f=true:=by
 refine auX.2 fun x hx=>?_
 unfold putAt at hx
 grind
def S4(hW:bf G base s.H gh w)(hF:FR L nt gh w a s){t:TypeId}{xa:Operand}{ya:aE}{s':AS}(ho:o.op=.store t xa xv)(Oz:ar nt xa=some ya)(hcv:ar nt xv=some yv)(hs:fD P t=some sz)
  (he:au s sz (ya.addr G s.T) (yv.eval G s.T)=some s') (hd:∀ k,o.dst=some k->k<nt) :
  ∃ v' bt w',wJ P a o w v' w'/\Out G base nt L gh w a s o.dst .undef (s'.bC yv) v' bt w':=by
 have ha:=arg_val hW hF Oz;unfold au at he;split at he
 ·cases he
 rename_i vs Fx;obtain⟨hlen,he⟩:=al he;have hlen:vs.length=sz:=by simpa [iE] using hlen
 have J':=jO Fx;generalize hY:ya.addr G s.T=Y at ha he;cases Y<;>simp only at he<;>try (cases he;done)
 case ref loc off =>
  obtain⟨aZ,tE⟩:=VR.kD (ha:VR gh s.H.length w (a.eval xa) (.ref loc off));split at he
  ·rename_i WH cs hH
   obtain⟨h0,he⟩:=al he;injection he with he
   subst he;simp only[auT,avm] at h0;obtain⟨og,tD,Bc,HH,V7,oy⟩:=qR hW hF hcv J' (.hs loc off) ag;have hρ:=V7.ρ loc aZ;obtain⟨j9,dv⟩:=xZ (q:=fun j=>.hs loc j) oy Fx
   obtain⟨w',fe,Ai,AJ,po,hB⟩:=zD (P:=P) tD (tD.boxes loc _ cs hH) hs hlen h0.1 ah dv ag ag s.H.length;have HK:=tD.NI Ai hH (by intro l hl;simp[hl]) (fun b o ho=>by rw[po];exact tD.pN b o ho) (fun b hb=>by rw[po];exact tD.qN b hb) hB (Q6 (tD.refs loc _ cs hH) h0.2) (fun _ _ h=>h) (rG ah)
   have hS:=iZ s yv;have J0:FR L nt og w' a ((s.bC yv).iF ⟨s.H.set loc (.box WH (putAt cs off vs)),loc⟩):=Bc.grown (by rw[hS.1];exact Ai) (fun i=>⟨ag,ag,ag⟩) (by rw[hS.1];simp)
   refine⟨undef,og,w',.inr ⟨?_,rfl⟩,?_⟩
   ·simp[execOp,ho,tE,<- hρ,fe]
   ·rw[Ag]
    exact Out.skip (s1:=(s.bC yv).iF ⟨s.H.set loc (.box WH (putAt cs off vs)),loc⟩) HK J0 (HH.trans AJ (Nat.le_refl _)) hd
  ·rename_i cs hH
   obtain⟨h0,he⟩:=al he;injection he with he
   subst he;simp only[auT,avm] at h0;obtain⟨og,tD,Bc,HH,V7,oy⟩:=qR hW hF hcv J' (.hs loc off) ag;have hρ:=V7.ρ loc aZ;obtain⟨j9,dv⟩:=xZ (q:=fun j=>.hs loc j) oy Fx
   obtain⟨w',fe,Ai,AJ,po,hB⟩:=zD (P:=P) tD (tD.more loc _ hH:iL og s.H.length w (og.ρ loc) (.hb loc) (fun j=>.hs loc j) cs) hs hlen h0.1 ah dv ag ag s.H.length
   have HK:bf G base (s.H.set loc (.bV (putAt cs off vs))) og w':=tD.BT Ai aZ (by intro l hl;simp[hl]) (fun b o ho=>by rw[po];exact tD.pN b o ho) (fun b hb=>by rw[po];exact tD.qN b hb) (fun _ _ h=>by cases h) hB (fun _ _ _ h=>.inl h)
   have hS:=iZ s yv;have J0:FR L nt og w' a ((s.bC yv).iF ⟨s.H.set loc (.bV (putAt cs off vs)),loc⟩):=Bc.grown (by rw[hS.1];exact Ai) (fun i=>⟨ag,ag,ag⟩) (by rw[hS.1];simp)
   refine⟨undef,og,w',.inr ⟨?_,rfl⟩,?_⟩
   ·simp[execOp,ho,tE,<- hρ,fe]
   ·rw[Ag]
    exact Out.skip (s1:=(s.bC yv).iF ⟨s.H.set loc (.bV (putAt cs off vs)),loc⟩) HK J0 (HH.trans AJ (Nat.le_refl _)) hd
  ·cases he
 case lref b g off =>
  obtain⟨hb,RF,hr⟩:=(ha:_/\_/\_);split at he
  ·rename_i g' cs hT
   obtain⟨h0,he⟩:=al he;injection he with he
   subst he;simp only[auT,avm,iE,au1] at h0;obtain⟨⟨rfl,h0⟩,_⟩:=h0;obtain⟨k,hk,_⟩:=y9 hF hb hT;have tE:=hr (by rw[hT];rfl) k hk
   obtain⟨og,tD,Bc,HH,V7,oy⟩:=qR hW hF hcv J' (.sc b off) ag;have hS:=iZ s yv;have CI:(s.bC yv).T b=.lbox g cs:=by rw[O9 _ _ _ (by rw[hT];simp),hT]
   obtain⟨k',tF,hB1⟩:=y9 Bc hb CI;have MB:k'=k:=by rw[hk] at tF;injection tF with h;injection h with h;injection h with h;exact h.symm
   subst MB;rw[hS.1] at hB1;obtain⟨j9,dv⟩:=xZ (q:=fun j=>.sc b j) oy Fx
   obtain⟨w',fe,Ai,AJ,po,hB⟩:=zD (P:=P) tD hB1 hs hlen h0 ah dv ag ag s.H.length;have HK:=tD.step Ai ag (fun b o ho=>by rw[po];exact tD.pN b o ho) (fun b hb=>by rw[po];exact tD.qN b hb) (fun _ _ _ h=>.inl h)
   have J0:FR L nt og w' a ((s.bC yv).cy b (.lbox g (putAt cs off vs))):=by
    refine Bc.cy (H':=(s.bC yv).H) (lo':=(s.bC yv).lo) (by rw[hS.1];exact Ai) (Nat.le_refl _) (fun i hi=>⟨cT hi,ag,ag⟩) (.inl ⟨hb,by rw[CI];rfl⟩) (fun _=>⟨?_,k',hk,?_⟩)
    ·have h:=Bc.slot b hb
     rw[CI] at h;exact h.1
    ·rw[hS.1];exact hB
   refine⟨undef,og,w',.inr ⟨?_,rfl⟩,?_⟩
   ·simp[execOp,ho,tE,fe]
   ·rw[DM _ _ _ _ (by rw[hT];simp) ag]
    exact Out.skip (s1:=(s.bC yv).cy b (.lbox g (putAt cs off vs))) (by show bf G base (s.bC yv).H og w';rw[hS.1];exact HK) J0 (HH.trans AJ (Nat.le_refl _)) hd
  ·cases he
 case eref b g i z off =>
  obtain⟨hb,RF,hr⟩:=(ha:_/\_/\_);split at he
  ·rename_i g' e hT
   obtain⟨h0,lO⟩:=al he;have Ka:g=g':=by simpa [iE] using h0
   clear he;subst Ka;simp only[auQ] at lO;obtain⟨r,MK,iY⟩:=lO;obtain⟨h1,he3⟩:=al iY;injection he3 with he3
   subst he3;simp only[auT,avm,iE,au1] at h1;obtain⟨⟨hrz,mN⟩,ij⟩:=h1;obtain⟨og,tD,Bc,HH,V7,oy⟩:=qR hW hF hcv J' .none ag;have hS:=iZ s yv;have CI:(s.bC yv).T b=.lsl g e:=by rw[O9 _ _ _ (by rw[hT];simp),hT]
   obtain⟨ad,cap,iQ,bU⟩:=pR Bc hb CI
   rcases bU with ⟨rfl,_⟩|⟨k,C,ty,lp,adJ,rfl,hκ,hS1,IW,hC,hl,zT,iG⟩
   ·simp at MK
   have tE:=hr (by rw[hT];rfl) k _ _ iQ
   have WD:lp=z:=by rw[<- hrz,zT i r MK]
   subst WD;have adA:=(auU.1 MK).1;obtain⟨j9,dv⟩:=xZ (q:=fun _=>.none) (off:=0) oy Fx
   have aiN:∀ (j:Nat) (x:AV),(vs.map AV.drop)[j]?=some x->∃ u,(a.eval xv).cells[j]?=some u/\PR og.S w u x:=by
    intro j x hx;simp only[List.getElem?_map,auP] at hx;obtain⟨y,hy,rfl⟩:=hx;have hj:j<(a.eval xv).cells.size:=by rw[j9];exact (auU.1 hy).1
    have hu:=au' hj;refine⟨_,hu,(dv j _ y hu hy).2.dropped.l8 (auX.1 ij _ (List.mem_map.2 ⟨y,au0 hy,rfl⟩))⟩
   have gS:i*lp+off+(a.eval xv).cells.size<=C.size:=by
    have h2:(i+1)*lp<=e.length*lp:=au6 _ adA;have h3:e.length*lp<=cap*lp:=au6 _ hl;rw[avG] at h2;omega
   have mH:∀ o,og.S k o->(gy C (i*lp+off) (a.eval xv).cells)[o]?=C[o]?:=fun o ho=>(hS1 o ho).elim
   have Ai:=nE tD IW (dY gS) mH s.H.length;have AJ:=DB tD IW (dY gS) mH (by rw[hκ];simp) (by rw[hκ];simp) s.H.length
   rw[hκ] at Ai;have fe:=A5 (P:=P) (w:=w) (off:=i*lp+off) hs IW (v:=a.eval xv) ah ah (fun u hu=>by
    obtain⟨j,hj⟩:=avl hu;have Bh:(a.eval xv).cells[j]?=some u:=cT hj;have aZ:j<vs.length:=by rw[<- j9];exact (auZ.1 Bh).1
    exact (dv j u _ Bh (auS aZ)).1)
   have HK:=tD.step Ai ag (fun b o ho=>by simpa using tD.pN b o ho) (fun b hb=>by simpa using tD.qN b hb) (fun _ _ _ h=>.inl h)
   have hds:off+(vs.map AV.drop).length<=r.length:=dw;have J0:FR L nt og (w.setRow k (gy C (i*lp+off) (a.eval xv).cells)) a ((s.bC yv).cy b (.lsl g (e.set i (putAt r off (vs.map AV.drop))))):=by
    refine Bc.cy (H':=(s.bC yv).H) (lo':=(s.bC yv).lo) (by rw[hS.1];exact Ai) (Nat.le_refl _) (fun i hi=>⟨cT hi,ag,ag⟩) (.inl ⟨hb,by rw[CI];rfl⟩) (fun _=>⟨?_,?_⟩)
    ·have h:=Bc.slot b hb
     rw[CI] at h;exact h.1
    ·refine⟨some ⟨k,0,none⟩,cap,cT iQ,.inr ⟨k,_,ty,lp,(by intro h0;have:=awu List.length h0;simp at this;exact adJ this),rfl,hκ,hS1,setRow_heap w k C _ ty _ IW,by rw[dY gS,hC],cT hl,?_,?_⟩⟩
     ·intro i' r' I0
      rw[avO] at I0;split at I0
      ·rename_i hii
       injection I0 with I0
       subst I0;rw[rG hds];exact hrz
      ·exact zT i' r' I0
     ·intro i' j r' x I0 hj
      rw[k9 gS];rw[avO] at I0;split at I0
      ·rename_i hii
       subst hii;injection I0 with I0
       subst I0;rw[vC hds] at hj;have Fu:(vs.map AV.drop).length=(a.eval xv).cells.size:=by simp[j9]
       rw[Fu] at hj
       by_cases hc:off<=j/\j<off+(a.eval xv).cells.size
       ·rw[if_pos hc] at hj
        rw[if_pos ah];obtain⟨u,hu,hp⟩:=aiN _ x hj;refine⟨u,?_,hp.mono Ai.S Ai.cell Ai.mp⟩;rw[show i*lp+j-(i*lp+off)=j-off by omega];exact hu
       ·rw[if_neg hc] at hj
        rw[if_neg ah];obtain⟨u,hu,hp⟩:=iG i j r x MK hj;exact⟨u,hu,hp.mono Ai.S Ai.cell Ai.mp⟩
      ·rename_i hii
       have tU:j<lp:=by rw[<- zT i' r' I0];exact (auU.1 hj).1
       have dp:¬ (i*lp+off<=i' * lp+j/\i' * lp+j<i*lp+off+(a.eval xv).cells.size):=by
        rintro ⟨c1,c2⟩
        have:i=i':=by
         rcases aw4 i i' with h'|h'|h'
         ·have:(i+1)*lp<=i' * lp:=au6 _ h'
          rw[avG] at this;omega
         ·exact h'
         ·have:(i' + 1)*lp<=i*lp:=au6 _ h'
          rw[avG] at this;omega
        exact hii this
       rw[if_neg dp];obtain⟨u,hu,hp⟩:=iG i' j r' x I0 hj;exact⟨u,hu,hp.mono Ai.S Ai.cell Ai.mp⟩
   refine⟨undef,og,w.setRow k (gy C (i*lp+off) (a.eval xv).cells),.inr ⟨?_,rfl⟩,?_⟩
   ·simp[execOp,ho,tE,fe]
   ·rw[DM _ _ _ _ (by rw[hT];simp) ag]
    exact Out.skip (s1:=(s.bC yv).cy b (.lsl g (e.set i (putAt r off (vs.map AV.drop))))) (by show bf G base (s.bC yv).H og _;rw[hS.1];exact HK) J0 (HH.trans AJ (Nat.le_refl _)) hd
  ·cases he
end
end
section
section
variable {P:Program}{G:Nat->List AV}{base nt:Nat}{L:List Nat}{gh:Gh}{w w' : World}{a:Act}{s:AS}{H:ae}
def My(h:gF sz f=true){r:List AV}(hr:f[0]?=some r):r.length=sz:=by
 unfold gF at h;cases f with
 | nil=>simp at hr
 | cons q f=>simp at hr;subst hr;simpa [iE] using h
def DY{lp:Nat}(h:gF sz f=true)(bU:∀ (i:Nat) (r:List AV),f[i]?=some r->r.length=lp)(dp:f≠[]):lp=sz:=by
 cases f with
 | nil=>exact absurd rfl dp
 | cons q f=>rw[<- bU 0 q rfl];exact My h rfl
theorem Ah(h:PR S w V (.slice f false))(hk:(∃ e',P.underlying tx=some (.slice e'))\/P.underlying tx=some .string)(hh:gF sz f=true) :
  ∃ news:List Value,Src P sz tx V f.length news w/\jr S w sz news.toArray f /\
   ((V=.slice none 0 0/\f=[])\/∃ b o cap,V=.slice (some ⟨b,o,none⟩) f.length cap/\f.length<=cap/\∀ j,j<f.length*sz->S b (o+j)/\w.cell? ⟨b,o+j,none⟩=news[j]?):=by
 cases h with
 | dq=>exact⟨[],⟨hk,fun _=>rfl,run_firstCells_none w sz 0 0 0,run_firstCells_none w.drew sz 0 0 0,ag,fun _ h=>by cases h⟩,⟨ag,fun i r h=>by simp at h,fun i j r x h=>by simp at h⟩,.inl ⟨rfl,rfl⟩⟩
 | slice b o n cap lp _ fn hn kT bU dm dv =>
  subst hn;have j9:f≠[]->lp=sz:=fun dp=>DY hh bU dp
  let news:List Value:=(List.range (f.length*sz)).map fun k=>(w.cell? ⟨b,o+k,none⟩).getD undef
  have hlen:news.length=f.length*sz:=by simp[news]
  have key:∀ k,k<f.length*sz->∃ u,news[k]?=some u/\w.cell? ⟨b,o+k,none⟩=some u/\u.oneCell'=true/\S b (o+k)/\∀ r x,f[k / sz]?=some r->r[k % sz]?=some x->PR S w u x:=by
   intro k hk;obtain⟨h1,h2,h3⟩:=uW hk;have dp:f≠[]:=by rintro rfl;simp at h1
   have hr:=auS h1;have hlr:f[k / sz].length=sz:=by rw[bU _ _ hr,j9 dp]
   have hx:=auS (show k % sz<f[k / sz].length by omega)
   grind
  have abb:∀ j u,news[j]?=some u->w.cell? ((⟨b,o,none⟩:Addr).add j)=some u:=by
   grind [addr_add]
  refine⟨news,⟨hk,fun _=>rfl,run_firstCells_some w sz _ ⟨b,o,none⟩ f.length cap news hlen abb,run_firstCells_some w.drew sz _ ⟨b,o,none⟩ f.length cap news hlen (cT abb),hlen,fun u hu=>?_⟩,⟨by simp[hlen],fun i r hr=>?_,fun i j r x hi hj=>?_⟩,.inr ⟨b,o,cap,rfl,kT,fun j hj=>?_⟩⟩
  ·grind
  ·grind
  ·have dp:f≠[]:=by rintro rfl;simp at hi
   grind [xw]
  ·grind
theorem Z2{q:ByteArray}{l:List UInt8}(hq:q.data.toList=l)(hk:(∃ e',P.underlying tx=some (.slice e'))\/P.underlying tx=some .string) :
  ∃ news:List Value,Src P 1 tx (.string q) l.length news w/\jr S w 1 news.toArray (l.map fun (b:UInt8)=>[AV.int .u8 b.toNat]):=by
 subst hq;have hl:q.data.toList.length=q.size:=ag;refine⟨byteCells q,?_,by simp[byteCells],fun i r hr=>?_,fun i j r x hi hj=>?_⟩
 ·rw[hl]
  exact⟨hk,fun _=>rfl,firstCells_string q w,firstCells_string q w.drew,by rw[byteCells_length,awK],fun u hu=>by
   obtain⟨_,_,rfl⟩:=List.mem_map.1 hu;rfl⟩
 ·grind
 ·simp only[List.getElem?_map,auP] at hi
  obtain⟨y,hy,rfl⟩:=hi;cases j with
  | succ j=>simp at hj
  | zero =>
   simp only[avb,auR] at hj;subst hj;refine⟨.int .u8 y.toNat,?_,.int _ _⟩;simp only[byteCells,avu,List.getElem?_map,awK,au7,hy,au2]
theorem jr.append{A B:List Value}(h1:jr S w sz A.toArray E)(h2:jr S w sz B.toArray F):jr S w sz (A++B).toArray (E++F):=by
 have hA:A.length=E.length*sz:=cT h1.1;have hB:B.length=F.length*sz:=cT h2.1;refine⟨by simp[hA,hB,avG],fun i r hi=>?_,fun i j r x hi hj=>?_⟩
 ·rw[avJ] at hi
  split at hi
  ·exact h1.2.1 i r hi
  ·exact h2.2.1 _ r hi
 ·rw[avJ] at hi
  split at hi
  ·obtain⟨v,hv,hp⟩:=h1.2.2 i j r x hi hj
   grind
  ·rename_i Qp
   obtain⟨v,hv,hp⟩:=h2.2.2 _ j r x hi hj;refine⟨v,?_,hp⟩;simp only[avu] at hv ⊢;have e1:i*sz=E.length*sz+(i-E.length)*sz:=by rw[<- avG];congr 1;omega
   grind
def jr.ao7{S':Nat->Nat->Prop}{A:Array Value}(h:jr S w sz A E)(hS:∀ b o,S b o->S' b o)(hc:∀ b o,S b o->w'.cell? ⟨b,o,none⟩=w.cell? ⟨b,o,none⟩)(hm:∀ b E ck,S b 0->w.heap[b]?=some (.map E ck)->w'.heap[b]?=some (.map E ck))
  (hb:w'.heap[b]?=some (.cells C' ty fr)) (hA:∀ j,j<A.size->C'[j]?=A[j]?) (hq:∀ j,j<E.length*sz->S' b j) (cap:Nat) (kT:E.length<=cap):PR S' w' (.slice (some ⟨b,0,none⟩) E.length cap) (.slice E false):=by
 have key:∀ (i j:Nat) (r:List AV) (x:AV),E[i]?=some r->r[j]?=some x->∃ v,A[i*sz+j]?=some v/\PR S w v x/\i*sz+j<A.size/\A.getD (i*sz+j) undef=v:=by
  intro i j r x hi hj;obtain⟨v,hv,fg⟩:=h.2.2 i j r x hi hj;have aZ:=(auZ.1 hv).1
  simp_all
 refine .slice b 0 E.length cap sz E (fun i j=>A.getD (i*sz+j) undef) rfl kT h.2.1 ?_ ?_
 ·intro i j r x hi hj
  obtain⟨v,hv,fg,aZ,hg⟩:=key i j r x hi hj;rw[avt,hg];refine⟨hq _ (by rw[<- h.1];exact aZ),?_,fg.gm⟩
  rw[cell_of_row w' b _ C' ty fr hb,hA _ aZ,hv]
 ·intro i j r x hi hj
  obtain⟨v,hv,fg,aZ,hg⟩:=key i j r x hi hj;rw[hg];exact fg.mono hS hc hm
structure Ar (P:Program) (t e:TypeId) (sz bytes:Nat):Prop where
 ht:P.underlying t=some (.slice e)
 hi:∃ i z,P.info? e=some i/\i.zero=some z/\i.size=sz/\i.bytes=bytes/\z.cells.size=sz
 pos:0<sz
theorem grow{t:TypeId}(hT:Ar P t e sz bytes){ao:Option Addr}{n:Nat}{olds:List Value}{x:Value}(hold:(Builtin.firstCells sz sLen (.slice ao sLen sCap)).run P w.drew=.ok olds.toArray w.drew)
  (hol:olds.length=sLen*sz) (hs:Src P sz tx x n news w) (hg:sCap<sLen+n) (h63:sLen+n<=70368744177664) (hby:(sLen+n)*bytes<=70368744177664) :
  ∃ xY C' ,(Builtin.append_ #[t,tx] ty #[.slice ao sLen sCap,x]).run P w=.ok (.slice (some ⟨w.heap.size,0,none⟩) (sLen+n) xY) (w.drew.alloc (.cells C' e))/\sLen+n<=xY/\C'.size=xY*sz/\∀ j,j<(olds++news).toArray.size->C'[j]?=(olds++news).toArray[j]?:=by
 obtain⟨i,z,hi,hz,rfl,rfl,hzs⟩:=hT.hi;have h:=run_append_grow_src (P:=P) w t tx ty e i z hT.ht hi hz ao sLen sCap olds hold x n news hs hg ah (growslice_fits hg ah);have kT:=grownCap_ge w (sLen+n) sCap e;refine⟨_,_,h,kT,?_,fun j hj=>?_⟩
 ·rw[Array.size_append,size_zeroCells,hzs]
  simp only[awe,List.length_append,hol,hs.newsLen];rw[<- avG,<- avG]
  congr 1;omega
 ·grind
def room{t e2:TypeId}(hT:Ar P t e sz bytes){n:Nat}{x:Value}(hs:Src P sz tx x n news w)(hb:w.heap[b]?=some (.cells C e2 fr))(J' : fr.2<=sLen*sz)
  (pn:sLen+n<=sCap) (gS:sLen*sz+news.length<=C.size) :
  (Builtin.append_ #[t,tx] ty #[.slice (some ⟨b,0,none⟩) sLen sCap,x]).run P w=.ok (.slice (some ⟨b,0,none⟩) (sLen+n) sCap) (w.setRow b (gy C (sLen*sz) news.toArray)):=by
 obtain⟨i,z,hi,hz,rfl,rfl,hzs⟩:=hT.hi;have gZ:=run_storeCells_atF P b (sLen*i.size) e2 fr news 0 C w hb (cT J') (cT gS) hs.one;simp only[au7] at gZ
 rcases hs.kind with ⟨e',hk⟩|hk<;>simp[Builtin.append_,run_underlying hT.ht,run_underlying hk,sizeOf,typeInfo,hi,hs.len,pn,hs.cells,Addr.add_lit,gZ,gy]
def CR.given(hW:bf G base s.H gh w)(hF:FR L nt gh w a s){e:List (List AV)}{own:Bool}(h:CR gh s.H.length w .ret v (.slice e own))(p:bL)(hp:p≠.outer) :
  ∃ bt,bf G base s.H bt w/\FR L nt bt w a s/\Ext s.H.length gh w bt w/\CR bt s.H.length w p v (.slice e own):=by
 have gI:=fun b hb=>hW.cA (gh:=gh) b hb
 rcases h with hv|⟨e',heq,Mv,b,cap,C,ty,lo,hi,sz,iQ,hk,he,hb,hC,hr,hl,hh,hS⟩
 ·exact⟨gh,hW,hF,Ext.refl _ _ _ gI,.inl hv⟩
 ·injection heq with h1 h2
  subst h1 h2;have aZ:b<w.heap.size:=(auZ.1 hb).1;have st:=mF hW aZ p s.H.length;rw[hk] at st;have hn:gh.κ b≠.none:=by rw[hk];simp
  exact⟨gh.tN b p,Mu hW aZ p hn (by rw[hk];simp),hF.grown (H':=s.H) (lo':=s.lo) st (fun i=>⟨ag,ag,ag⟩) (Nat.le_refl _),yp hW aZ hp hn (by rw[hk];simp) _,.inr ⟨e,rfl,Mv,b,cap,C,ty,lo,hi,sz,iQ,by simp[Gh.tN],he,hb,hC,hr,hl,hh,hS⟩⟩
def L4{n:Nat}{x:Value}(h:Src P sz tx x n news w):(Builtin.firstCells sz n x).run P w.drew=.ok news.toArray w.drew:=h.cellsD
theorem LS(hW:bf G base s.H gh w)(hF:FR L nt gh w a s){t:TypeId}(hT:Ar P t e sz bytes)
  (h:CR gh s.H.length w .ret V (.slice E true)) (hs:Src P sz tx X F.length news w) (dF:jr gh.S w sz news.toArray F) (gS:cE sz bytes E F=true) {isB:Bool} (qE:mz isB (E++F)=true) (TJ:isB=true->e=jg) (dp:F≠[]) (p:bL) (hp:p≠.outer) :
  ∃ v' bt w',(Builtin.append_ #[t,tx] ty #[V,X]).run P w=.ok v' w'/\bf G base s.H bt w'/\FR L nt bt w' a s/\Ext s.H.length gh w bt w'/\CR bt s.H.length w' p v' (.slice (E++F) true):=by
 simp only[cE,auT,avm] at gS;obtain⟨⟨⟨CL,j7⟩,hE⟩,_⟩:=gS;have hFl:0<F.length:=awo.2 dp;have Mv:PR gh.S w V (.slice E false):=by
  rcases h with h|⟨e',heq,Mv,_⟩
  ·exact (VR.dropped h).iT
  ·grind
 obtain⟨olds,T1,hrV,ML⟩:=Ah (P:=P) (tx:=t) (sz:=sz) Mv (.inl ⟨_,hT.ht⟩) hE;have hol:olds.length=E.length*sz:=T1.newsLen;have fq:=hrV.append dF;have new:∀ ao cap,V=.slice ao E.length cap->cap<E.length+F.length->∃ v' bt w',(Builtin.append_ #[t,tx] ty #[V,X]).run P w=.ok v' w'/\bf G base s.H bt w'/\FR L nt bt w' a s/\Ext s.H.length gh w bt w'/\CR bt s.H.length w' p v' (.slice (E++F) true):=by
  intro ao cap hV aZ;subst hV;obtain⟨xY,C',fe,kT,Qj,uG⟩:=grow (P:=P) (ty:=ty) hT (L4 T1) hol hs aZ j7 CL;have oz:fS w (w.drew.alloc (.cells C' e)) (.cells C' e):=.drew w _;have st:=jf hW oz hp (fun o=>o<(E++F).length*sz) s.H.length
  have nL:=hW.alloc oz hp (fun o=>o<(E++F).length*sz) (fun k m hk hc=>by
   rw[cell_of_row _ _ k _ _ _ oz.new,uG k (by rw[fq.1];exact hk)] at hc
   have:=pM fq qE TJ hk hc
   subst this;exact⟨C',(0,0),oz.new⟩)
  have fg:=fq.slice (gh:=gh) rfl oz (p:=p) hW.pN uG (q:=fun o=>o<(E++F).length*sz) (fun j hj=>hj) xY (by rw[List.length_append];exact kT)
  refine⟨_,_,_,fe,nL,hF.grown (H':=s.H) (lo':=s.lo) st (fun i=>⟨id,id,fun _=>id⟩) (Nat.le_refl _),oO hW oz hp _ _,.inr ⟨E++F,rfl,?_,?_⟩⟩
  ·grind
  ·refine⟨w.heap.size,xY,C',e,0,0,sz,by rw[List.length_append],by simp[Gh.alloc],by simp[dp],oz.new,Qj,fq.2.1,by rw[List.length_append];exact kT,Nat.zero_le _,?_⟩
   rintro o ho (hs|⟨_,hs⟩)
   ·have:=hW.pN _ _ hs;omega
   ·omega
 rcases h with h|⟨e',heq,_,b,cap,C,oe,lo,hi,lp,iQ,hk,he,hb,hC,hr,hl,hh,hS⟩
 ·cases h with
  | plain _ _ h=>cases h
  | full ao k _ h =>
   grind
 ·injection heq with h1
  subst h1
  by_cases aZ:cap<E.length+F.length
  ·exact new _ cap iQ aZ
  ·subst iQ
   have j9:lp=sz:=DY hE hr he;subst j9;have pn:E.length+F.length<=cap:=ah;have gS:E.length*lp+news.length<=C.size:=by rw[hs.newsLen,hC,<- avG];exact au6 _ pn
   have fe:=room (P:=P) (ty:=ty) hT hs hb hh pn gS;have lV:E.length*lp+news.toArray.size<=C.size:=cT gS;have hold:∀ o,gh.S b o->(gy C (E.length*lp) news.toArray)[o]?=C[o]?:=by
    grind [k9]
   have st:=rH hW hb (dY lV) (fun o=>o<(E++F).length*lp) hold p s.H.length
   have hn:gh.κ b≠.none:=by rw[hk];simp
   have hE':=BS hW hb (dY lV) (fun o=>o<(E++F).length*lp) hold hp hn (by rw[hk];simp) s.H.length
   have X2:∀ j,j<(olds++news).toArray.size->(gy C (E.length*lp) news.toArray)[j]?=(olds++news).toArray[j]?:=by
    intro j hj;have ash:news.length=F.length*lp:=hs.newsLen;simp only[awe,List.length_append] at hj;rw[k9 lV];simp only[avu,awe];rw[avJ];split
    ·rw[if_neg ah,hol]
    ·rename_i mH
     have Bh:j<E.length*lp:=ah;rw[if_pos ah]
     rcases ML with ⟨_,Lr⟩|⟨b2,o2,ahl,hV2,_,w6⟩
     ·exact absurd Lr he
     ·injection hV2 with h1 h2 h3
      injection h1 with h1
      injection h1 with h1 h4
      subst h1 h4;have:=(w6 j Bh).2
      rw[avt,cell_of_row w b j C oe _ hb] at this;exact this
   have Qx:∀ k m,k<(E++F).length*lp->(gy C (E.length*lp) news.toArray)[k]?=some (.int .u8 m)->oe=jg:=by
    intro k m hk hc;rw[X2 k (by rw[fq.1];exact hk)] at hc
    refine pM fq qE (fun hB=>?_) hk hc
    subst hB;cases E with
    | nil=>exact absurd rfl he
    | cons r0 E0 =>
     have X4:∃ m0,r0=[.int .u8 m0]:=by
      have:nS (r0 :: E0++F)=true:=qE
      simp only[nS,avU,List.all_cons,auT] at this;have h1:=this.1;split at h1
      ·exact⟨_,rfl⟩
      ·cases h1
     obtain⟨m0,rfl⟩:=X4
     rcases ML with ⟨_,Lr⟩|⟨b2,o2,ahl,hV2,_,w6⟩
     ·cases Lr
     ·injection hV2 with h1 h2 h3
      injection h1 with h1
      injection h1 with h1 h4
      subst h1 h4;have h5:=hr 0 _ rfl;simp only[av0] at h5;obtain⟨v,hv,hp⟩:=hrV.2.2 0 0 _ _ rfl rfl;cases hp;simp only[avu,aw2,avt] at hv;have h6:=w6 0 dw;rw[avt,hv] at h6;obtain⟨C2,fr2,h7⟩:=hW.bytes _ _ _ h6.1 h6.2;rw[hb] at h7;injection h7 with h7
      injection h7
   have nL:=O4 hW hb (dY lV) (fun o=>o<(E++F).length*lp) hold Qx p hn (by rw[hk];simp)
   have DO:=st;rw[hk] at st;have uF:news.length=F.length*lp:=hs.newsLen;refine⟨_,_,_,fe,nL,hF.grown (H':=s.H) (lo':=s.lo) st (fun i=>⟨ag,ag,ag⟩) (Nat.le_refl _),hE',.inr ⟨E++F,rfl,?_,?_⟩⟩
   ·rw[<- List.length_append]
    refine fq.ao7 st.S st.cell st.mp (setRow_heap w b C _ oe _ hb) (fun j hj=>?_) (fun j hj=>.inr ⟨rfl,hj⟩) cap (by rw[List.length_append];exact pn)
    simp only[awe,List.length_append] at hj;rw[k9 lV];simp only[avu,awe];rw[avJ];split
    ·rw[if_neg ah,hol]
    ·rename_i mH
     have Bh:j<E.length*lp:=ah;rw[if_pos ah]
     rcases ML with ⟨_,Lr⟩|⟨b2,o2,ahl,hV2,_,w6⟩
     ·exact absurd Lr he
     ·injection hV2 with h1 h2 h3
      injection h1 with h1
      injection h1 with h1 h4
      subst h1 h4;have:=(w6 j Bh).2
      rw[avt,cell_of_row w b j C oe _ hb] at this;exact this
   ·refine⟨b,cap,_,oe,lo,hi,lp,by rw[List.length_append],ag,by simp[he],setRow_heap w b C _ oe _ hb,by rw[dY lV,hC],fq.2.1,by rw[List.length_append];exact pn,?_,?_⟩
    ·rw[List.length_append,avG];exact avx hh (Nat.le_add_right _ _)
    ·rintro o ho (wj|⟨_,wj⟩)
     ·exact hS o (by rw[List.length_append,avG] at ho;omega) wj
     ·omega
end
end
section
section
variable {P:Program}{G:Nat->List AV}{base nt:Nat}{L:List Nat}{gh:Gh}{w w' : World}{a:Act}{s:AS}{H:ae}
theorem Pu(hW:bf G base s.H gh w)(hF:FR L nt gh w a s){t:TypeId}(hT:Ar P t e sz bytes){t0:Nat}
  (h:tX gh w (.bx t0) (gN a t0) E) (hs:Src P sz tx X F.length news w) (dF:jr gh.S w sz news.toArray F) (gS:cE sz bytes E F=true) (d:Option Nat) :
  ∃ v' bt w',(Builtin.append_ #[t,tx] ty #[gN a t0,X]).run P w=.ok v' w'/\bf G base s.H bt w'/\FR L nt bt w' a (s.cy t0 .any)/\Ext s.H.length gh w bt w'/\tX bt w' (Pz d) v' (E++F):=by
 simp only[cE,auT,avm] at gS;obtain⟨⟨⟨CL,j7⟩,hE⟩,hFo⟩:=gS;have gI:=fun b hb=>hW.cA (gh:=gh) b hb
 have hdo:=xW d;obtain⟨i,z,hi,_,rfl,_⟩:=hT.hi;have iw:(gN a t0).oneCell'=true:=by obtain⟨ad,cap,hv,_⟩:=h;rw[hv];rfl
 have ah5:∀ {bt:Gh} {w' : World} {n gen:Nat} {T:aD},SR bt n nt w' T gen (gN a) t0 (gN a t0) .any:=fun {_ _ _ _ _}=>(.inl (.plain _ _ (.any _ iw)):CR _ _ _ _ _ _)
 have stay:FR L nt gh w a (s.cy t0 .any):=hF.cy (touch:=fun _=>False) (H':=s.H) (lo':=s.lo) (Step.refl _ _ _ _ gI) (Nat.le_refl _) (fun i _=>⟨id,id,fun _=>id⟩) (.inr rfl) (fun _=>ah5)
 have new:∀ ao cap olds,gN a t0=.slice ao E.length cap->cap<E.length+F.length->Src P i.size t (.slice ao E.length cap) E.length olds w->jr gh.S w i.size olds.toArray E ->
   ∃ v' bt w',(Builtin.append_ #[t,tx] ty #[gN a t0,X]).run P w=.ok v' w'/\bf G base s.H bt w'/\FR L nt bt w' a (s.cy t0 .any)/\Ext s.H.length gh w bt w'/\tX bt w' (Pz d) v' (E++F):=by
  intro ao cap olds hV aZ T1 hrV;obtain⟨xY,C',fe,kT,Qj,uG⟩:=grow (P:=P) (ty:=ty) hT T1.cellsD T1.newsLen hs aZ j7 CL;have fq:=hrV.append dF;have oz:fS w (w.drew.alloc (.cells C' e)) (.cells C' e):=.drew w _;have st:=jf hW oz hdo (fun _=>False) s.H.length
  have nL:=hW.alloc oz hdo (fun _=>False) (fun _ _ h=>h.elim)
  rw[hV];have JZ:FR L nt (gh.alloc w.heap.size (Pz d) fun _=>False) (w.drew.alloc (.cells C' e)) a (s.cy t0 .any) :=
   stay.grown (H':=s.H) (lo':=s.lo) st (fun i=>⟨id,id,fun _=>id⟩) (Nat.le_refl _)
  refine⟨_,_,_,fe,nL,JZ,oO hW oz hdo _ _,some ⟨w.heap.size,0,none⟩,xY,by rw[List.length_append],.inr ⟨w.heap.size,C',e,i.size,?_,rfl,by simp[Gh.alloc],?_,oz.new,Qj,by rw[List.length_append];exact kT,fq.2.1,?_⟩⟩
  ·intro h0
   simp_all
  ·rintro o (ho|⟨_,ho⟩)
   ·have:=hW.pN _ o ho;omega
   ·exact ho
  ·intro k j r x hk hj
   obtain⟨v,hv,hp⟩:=fq.2.2 k j r x hk hj;refine⟨v,?_,hp.mono st.S st.cell st.mp⟩
   grind
 obtain⟨ao,cap,hV,⟨rfl,ah',Kg⟩|⟨b,C,oe,lp,dp,ha,hk,hS,hb,hC,hl,hr,iG⟩⟩:=h
 ·subst ah'
  have T1:Src P i.size t (.slice ao 0 0) 0 [] w:=by
   refine⟨.inl ⟨_,hT.ht⟩,fun _=>rfl,?_,?_,ag,fun _ h=>by cases h⟩
   ·cases ao with
    | none=>exact run_firstCells_none w _ 0 0 0
    | some ad=>exact run_firstCells_some w _ 0 ad 0 0 [] ag (fun j v h=>by simp at h)
   ·cases ao with
    | none=>exact run_firstCells_none w.drew _ 0 0 0
    | some ad=>exact run_firstCells_some w.drew _ 0 ad 0 0 [] ag (fun j v h=>by simp at h)
  cases F with
  | nil =>
   have hn:news=[]:=by have:=hs.newsLen;simp at this;exact this
   subst hn;refine⟨_,gh,w,?_,hW,stay,Ext.refl _ _ _ gI,ao,0,rfl,.inl ⟨rfl,rfl,Kg⟩⟩;rw[hV];exact run_append_nothing w t tx ty e i hT.ht hi ao 0 0 (Nat.le_refl _) X hs
  | cons f F=>exact new ao 0 [] hV ag T1 ⟨ag,fun i r h=>by simp at h,fun i j r x h=>by simp at h⟩
 ·subst ha
  have j9:lp=i.size:=DY hE hr dp;subst j9;have hEC:E.length*i.size<=C.size:=by rw[hC];exact au6 _ hl
  have yB:(C.toList.take (E.length*i.size)).length=E.length*i.size:=dw;have hrV:jr gh.S w i.size (C.toList.take (E.length*i.size)).toArray E:=by
   refine⟨dw,hr,fun k j r x hk hj=>?_⟩
   grind [xw]
  have TS:∀ u∈C.toList.take (E.length*i.size),u.oneCell'=true:=by
   intro u hu;obtain⟨k,hk⟩:=avl hu;have aZ:k<E.length*i.size:=by rw[<- yB];exact (auU.1 hk).1
   obtain⟨h1,h2,h3⟩:=uW aZ;have X4:=auS h1;have D8:=auS (show k % i.size<E[k / i.size].length by rw[hr _ _ X4];exact h2)
   obtain⟨u',HW,hp⟩:=hrV.2.2 _ _ _ _ X4 D8;rw[h3] at HW;simp only[avu] at HW;rw[hk] at HW;injection HW with HW
   subst HW;exact hp.gm
  have dm:∀ j u,(C.toList.take (E.length*i.size))[j]?=some u->w.cell? ((⟨b,0,none⟩:Addr).add j)=some u:=by
   intro j u hj;rw[addr_add,avt,cell_of_row w b j C oe _ hb];rw[avn] at hj;split at hj
   ·simpa using hj
   ·cases hj
  have T1:Src P i.size t (.slice (some ⟨b,0,none⟩) E.length cap) E.length (C.toList.take (E.length*i.size)) w:=.ofSlice w hT.ht ⟨b,0,none⟩ E.length cap _ yB dm TS
  by_cases aZ:cap<E.length+F.length
  ·exact new _ cap _ hV aZ T1 hrV
  ·have pn:E.length+F.length<=cap:=ah
   have gS:E.length*i.size+news.length<=C.size:=by rw[hs.newsLen,hC,<- avG];exact au6 _ pn
   have fe:=room (P:=P) (ty:=ty) hT hs hb (Nat.zero_le _) pn gS;have lV:E.length*i.size+news.toArray.size<=C.size:=cT gS;have mH:∀ o,gh.S b o->(gy C (E.length*i.size) news.toArray)[o]?=C[o]?:=fun o ho=>(hS o ho).elim
   have st:=rH hW hb (dY lV) (fun _=>False) mH (Pz d) s.H.length
   have hn:gh.κ b≠.none:=by rw[hk];simp
   have hE':=BS hW hb (dY lV) (fun _=>False) mH hdo hn (by rw[hk];simp) s.H.length
   have nL:=O4 hW hb (dY lV) (fun _=>False) mH (fun _ _ h=>h.elim) (Pz d) hn (by rw[hk];simp)
   rw[hk] at st;have JZ:=hF.cy (t:=t0) (X:=.any) (H':=s.H) (lo':=s.lo) st (Nat.le_refl _) (fun i hi=>⟨cT hi,ag,ag⟩) (.inr rfl) (fun _=>ah5)
   rw[hV];have fq:=hrV.append dF;refine⟨_,_,_,fe,nL,JZ,hE',some ⟨b,0,none⟩,cap,by rw[List.length_append],.inr ⟨b,_,oe,i.size,by simp[dp],rfl,ag,?_,setRow_heap w b C _ oe _ hb,by rw[dY lV,hC],by rw[List.length_append];exact pn,fq.2.1,?_⟩⟩
   ·rintro o (ho|⟨_,ho⟩)
    ·exact hS o ho
    ·exact ho
   ·intro k j r x tF hj
    obtain⟨v,hv,hp⟩:=fq.2.2 k j r x tF hj;refine⟨v,?_,hp.mono st.S st.cell st.mp⟩;rw[k9 lV];simp only[avu,awe] at hv ⊢;rw[avJ,yB] at hv;have uF:news.length=F.length*i.size:=hs.newsLen;split at hv
    ·rename_i h1
     rw[if_neg ah];rw[avn,if_pos h1] at hv
     simpa using hv
    ·rename_i h1
     have h2:=(auU.1 hv).1;rw[if_pos ah];exact hv
def vJ(hW:bf G base s.H gh w)(hF:FR L nt gh w a s)(hc:ar nt x=some y)(he:bu sz (y.eval G s.T)=some f)(hh:gF sz f=true)
  (hk:(∃ e',P.underlying tx=some (.slice e'))\/P.underlying tx=some .string):∃ news,Src P sz tx (a.eval x) f.length news w/\jr gh.S w sz news.toArray f:=by
 generalize hY:y.eval G s.T=Y at he;cases Y<;>simp only[bu] at he<;>try (cases he;done)
 ·rename_i l
  obtain⟨h0,h1⟩:=al he;have h0:sz=1:=by simpa [iE] using h0
  subst h0;injection h1 with h1
  subst h1;obtain⟨q,hq,hl⟩:=(cX hW hF hc hY rfl).kE;rw[hq,List.length_map];exact Z2 hl hk
 ·rename_i el own
  injection he with he
  subst he;obtain⟨news,h1,h2,_⟩:=Ah (P:=P) (tx:=tx) (sz:=sz) (cX hW hF hc hY rfl).iT hk hh;exact⟨news,h1,h2⟩
 ·injection he with he
  subst he;rw[(cX hW hF hc hY rfl).mI];obtain⟨news,h1,h2,_⟩:=Ah (P:=P) (tx:=tx) (sz:=sz) (PR.dq (S:=gh.S) (w:=w)) hk hh;exact⟨news,h1,h2⟩
def ib{c:Call}{y:Operand}{t:TypeId}(ho:o.op=.call c)(jE:c.callee=.builtin .append)(gp:c.args.toList=[x,y])(mY:c.argTypes.toList=[t,u])
  (fe:(Builtin.append_ #[t,u] o.type #[a.eval x,a.eval y]).run P w=.ok v w'):(execOp a.eval o).run P w=.ok (.value v) w':=by
 have e1:c.args=#[x,y]:=by apply awQ;simpa using gp
 have e2:c.argTypes=#[t,u]:=by apply awQ;simpa using mY
 unfold execOp;simp only[ho,resolve,jE,e1,e2,invoke,builtin,Sem.run_bind,Sem.run_pure,Result.andThen_ok,awR,au9,avC,fe]
def Lc{e:List (List AV)}(h:PR S w V (.slice e false)):∃ ao cap,V=.slice ao e.length cap/\e.length<=cap:=by
 cases h with
 | dq=>exact⟨none,0,rfl,Nat.le_refl _⟩
 | slice b o n cap sz _ _ hn kT=>subst hn;exact⟨_,cap,rfl,kT⟩
theorem P5(hW:bf G base s.H gh w)(hF:FR L nt gh w a s){c:Call}{y:Operand}{t:TypeId}{yx yy:aE}{isB wr:Bool}{z:AV}
  (ho:o.op=.call c) (jE:c.callee=.builtin .append) (gp:c.args.toList=[x,y]) (mY:c.argTypes.toList=[t,u]) (hT:Ar P t e sz bytes) (TJ:isB=true->e=jg) (hu:(∃ e',P.underlying u=some (.slice e'))\/P.underlying u=some .string)
  (ji:ar nt x=some yx) (D4:ar nt y=some yy) (he:br G s isB wr sz bytes yx yy=some (z,s')) (hd:∀ k,o.dst=some k->k<nt) (hL:wr=true->∀ k,o.dst=some k->k∈L) :
  ∃ v' bt w',wJ P a o w v' w'/\Out G base nt L gh w a s o.dst z (s'.getD s) v' bt w':=by
 have gI:=fun b hb=>hW.cA (gh:=gh) b hb
 have core:∀ (s1:AS) (og:Gh) (el:List (List AV)) (own:Bool),s1.H=s.H->bf G base s1.H og w->FR L nt og w a s1->Ext s.H.length gh w og w->(∀ b o,gh.S b o->og.S b o) ->
   CR og s1.H.length w .ret (a.eval x) (.slice el own)->aF isB sz bytes (.slice el own) (yy.eval G s.T)=some z ->
   ∃ v' bt w',wJ P a o w v' w'/\Out G base nt L gh w a s o.dst z s1 v' bt w':=by
  intro s1 og el own hH tD Bc HH OD oy vN;simp only[aF,auQ] at vN;obtain⟨f,hf,vN⟩:=vN;cases f with
  | nil =>
   simp only[auR] at vN;subst vN;obtain⟨news,hs,hr⟩:=vJ (P:=P) hW hF D4 hf rfl hu;have hn:news=[]:=by have:=hs.newsLen;simp at this;exact this
   subst hn;obtain⟨gh2,HK,J0,AJ,Tr⟩:=oy.given tD Bc (V1 o.dst) (qv _);obtain⟨ao,cap,hV,hle⟩:=Lc (w:=w) (oy.dropped).iT;obtain⟨i,z,hi,_,rfl,_⟩:=hT.hi;refine⟨a.eval x,gh2,w,.inl (ib ho jE gp mY ?_),Out.of (s1:=s1) (gen':=s1.gen) HK J0 (HH.trans AJ (by rw[hH];exact Nat.le_refl _)) (Nat.le_refl _) hd (.inl rfl) (fun k hk=>?_)⟩
   ·rw[hV]
    exact run_append_nothing w t u o.type e i hT.ht hi ao _ cap hle _ hs
   ·rw[hk] at Tr
    exact Tr
  | cons f0 fr =>
   obtain⟨h0,vN⟩:=al vN;injection vN with vN
   subst vN;simp only[auT] at h0;obtain⟨⟨rfl,gS⟩,qE⟩:=h0;have hh:gF sz (f0 :: fr)=true:=by simp only[cE,auT] at gS;exact gS.2
   obtain⟨news,hs,hr⟩:=vJ (P:=P) hW hF D4 hf hh hu;have CV:jr og.S w sz news.toArray (f0 :: fr):=⟨hr.1,hr.2.1,fun i j r x hi hj=>by
    obtain⟨v,hv,hp⟩:=hr.2.2 i j r x hi hj;exact⟨v,hv,hp.mono OD (fun _ _ _=>rfl) (fun _ _ _ _ h=>h)⟩⟩
   obtain⟨v',gh2,w2,fe,HK,J0,AJ,Tr⟩:=LS (P:=P) (ty:=o.type) tD Bc hT oy hs CV gS qE TJ ag (V1 o.dst) (qv _);refine⟨v',gh2,w2,.inl (ib ho jE gp mY fe),Out.of (s1:=s1) (gen':=s1.gen) HK J0 (HH.trans AJ (by rw[hH];exact Nat.le_refl _)) (Nat.le_refl _) hd (.inl rfl) (fun k hk=>?_)⟩
   rw[hk] at Tr;exact Tr
 have ab6:∀ (t0:Nat) (el f:List (List AV)),x=.tmp t0->t0<nt->tX gh w (.bx t0) (gN a t0) el->bu sz (yy.eval G s.T)=some f->cE sz bytes el f=true->wr=true ->
   ∃ v' bt w',wJ P a o w v' w'/\Out G base nt L gh w a s o.dst (.lsl s.gen (el++f)) { s.cy t0 .any with gen:=s.gen+1 } v' bt w':=by
  intro t0 el f hx ht bU hf gS I3;have hh:gF sz f=true:=by simp only[cE,auT] at gS;exact gS.2
  obtain⟨news,hs,hr⟩:=vJ (P:=P) hW hF D4 hf hh hu;obtain⟨v',gh2,w2,fe,HK,J0,AJ,CW⟩:=Pu (P:=P) (ty:=o.type) hW hF hT bU hs hr gS o.dst;have hxe:a.eval x=gN a t0:=by rw[hx];rfl
  refine⟨v',gh2,w2,.inl (ib ho jE gp mY (by rw[hxe];exact fe)),Out.of (s1:=s.cy t0 .any) (gen':=s.gen+1) HK J0 AJ (Nat.le_succ _) hd (.inr ⟨⟨s.gen,Nat.le_refl _,rfl⟩,hL I3⟩) (fun k hk=>⟨awU _,?_⟩)⟩
  rw[hk] at CW;exact CW
 cases yx with
 | tmp t0 =>
  obtain⟨rfl,ht⟩:=kM ji;simp only[br] at he;split at he
  ·rename_i g el oF
   simp only[auQ] at he;obtain⟨f,hf,he⟩:=he;obtain⟨h0,he⟩:=al he
   grind [pR]
  ·rename_i el own oF
   cases I3:wr with
   | true =>
    rw[I3] at he;simp only[cond_true,auQ] at he;obtain⟨f,hf,he⟩:=he;obtain⟨h0,he⟩:=al he;simp only[auR,auV] at he;obtain⟨rfl,rfl⟩:=he;simp only[auT,aw'] at h0;obtain⟨⟨rfl,rfl⟩,gS⟩:=h0;have oy:=Hn hF ht oF;have bU:tX gh w (.bx t0) (gN a t0) []:=by
     rcases oy with h|⟨e',heq,_,b,cap,C,ty,lo,hi,lp,iQ,hk,dp,_⟩
     ·change VR gh s.H.length w (gN a t0) _ at h
      generalize gN a t0=V at h;cases h with
      | plain _ _ h=>cases h
      | full ao k _ h hz =>
       cases h with
       | dq=>exact⟨none,0,rfl,.inl ⟨rfl,rfl,fun ad h=>by cases h⟩⟩
       | slice b o _ _ lp _ _ hn =>
        simp at hn;subst hn;exact⟨_,0,rfl,.inl ⟨rfl,rfl,fun ad h=>⟨by injection h with h;subst h;rfl,trivial⟩⟩⟩
     ·injection heq with h1;subst h1;exact absurd rfl dp
    exact ab6 t0 [] f rfl ht bU hf gS I3
   | false =>
    rw[I3] at he;simp only[cond_false,auP,auV] at he;obtain⟨z',vN,rfl,rfl⟩:=he;obtain⟨og,tD,Bc,HH,V7,oy⟩:=yX hW hF ht oF .ret ag;exact core (s.cy t0 (.slice el false)) og el own rfl tD Bc HH V7.S oy vN
  ·rename_i oF
   cases I3:wr with
   | true =>
    rw[I3] at he;simp only[cond_true,auQ] at he;obtain⟨f,hf,he⟩:=he;obtain⟨h0,he⟩:=al he;simp only[auR,auV] at he;obtain⟨rfl,rfl⟩:=he;have hv:=(cX hW hF ji (show (aE.tmp t0).eval G s.T=.aq from oF) rfl).mI
    exact ab6 t0 [] f rfl ht ⟨none,0,hv,.inl ⟨rfl,rfl,fun ad h=>by cases h⟩⟩ hf h0 I3
   | false =>
    rw[I3] at he;simp only[cond_false,auP,auV] at he;obtain⟨z',vN,rfl,rfl⟩:=he;have hv:=(cX hW hF ji (show (aE.tmp t0).eval G s.T=.aq from oF) rfl).mI
    exact core s gh [] true rfl hW hF (Ext.refl _ _ _ gI) (fun _ _ h=>h) (.inl (by rw[hv];exact .full none 0 [] .dq trivial)) vN
  ·cases he
 | xI v =>
  simp only[br] at he;cases I3:wr with
  | true=>rw[I3] at he;cases he
  | false =>
   rw[I3] at he;simp only[cond_false,auP,auV] at he;obtain⟨z',vN,rfl,rfl⟩:=he;simp only[aE.eval] at vN;cases v<;>simp only[aF] at vN<;>try (cases vN;done)
   rename_i el own;have hv:VR gh s.H.length w (a.eval x) (.slice el own):=by
    cases x with
    | tmp k =>
     simp only[ar] at ji;rcases av7 (Nat.blt k nt) with hb|hb<;>rw[hb] at ji<;>simp at ji
    | const u =>
     simp only[ar,auP] at ji;obtain⟨zz,hz,h⟩:=ji;injection h with h
     subst h;exact kP hz
    | global g=>simp[ar] at ji
    | func f=>simp[ar] at ji
   exact core s gh el own rfl hW hF (Ext.refl _ _ _ gI) (fun _ _ h=>h) (.inl hv) vN
 | aW g =>
  simp only[br] at he;cases I3:wr with
  | true=>rw[I3] at he;cases he
  | false =>
   rw[I3] at he;simp[aE.eval,aF] at he
 | fn f =>
  simp only[br] at he;cases I3:wr with
  | true=>rw[I3] at he;cases he
  | false =>
   rw[I3] at he;simp[aE.eval,aF] at he
end
end
section
def clean(gh:Gh):Prop:=∀ b,gh.κ b=.none\/gh.κ b=.outer\/(∃ l,gh.κ b=.hb l)\/(∃ l j,gh.κ b=.hs l j)\/∃ j,gh.κ b=.par j
def iV(p:bL):Prop:=(∃ l,p=.hb l)\/(∃ l j,p=.hs l j)\/∃ j,p=.par j
def qe(H:ae):Option fR->ae
 | none=>H
 | some c=>c.heap
structure oY (G:Nat->List AV) (base:Nat) (H:ae) (gh:Gh) (w:World) (r:AV) (c:Option fR) (v:Value) (bt:Gh) (w' : World):Prop where
 len:H.length<=(qe H c).length
 W:bf G base (qe H c) bt w'
 st:Step iV H.length gh w bt w'
 out:∀ b,bt.κ b=.outer->gh.κ b=.outer
 val:CR bt (qe H c).length w' .ret v r
def jF(H:ae)(c:Option fR):Prop:=H.length<=(qe H c).length/\∀ c',c=some c'->c'.lo<=H.length/\∀ l,l<c'.lo->c'.heap[l]?=H[l]?
def je(P:Program)(G:Nat->List AV)(cf:gD):Prop :=
 ∀ f args H r c,cf f args H=some (r,c)->(∃ fn,P.funcs[f]?=some fn/\fn.body.isSome=true/\fn.name≠ "runtime.NumGoroutine")/\jF H c /\
  ∀ (base:Nat) (gh:Gh) (w:World) (vs:Array Value),bf G base H gh w->clean gh->vs.size=args.length->(∀ (j:Nat) (v:Value) (x:AV),vs[j]?=some v->args[j]?=some x->CR gh H.length w (.par j) v x) ->
   Calls P f vs w fun e w'=>∃ v bt,e=.returned v/\oY G base H gh w r c v bt w'
section
variable {P:Program}{G:Nat->List AV}{base nt:Nat}{L:List Nat}{gh:Gh}{w w' : World}{a:Act}{s:AS}{H:ae}
def gK:bL->Bool
 | .bx _|.sl _|.sc ..|.ret=>true
 | _=>false
def Gh.xd(gh:Gh):Gh:={ gh with κ:=fun b=>bif gK (gh.κ b) then .outer else gh.κ b }
def MA(gh:Gh):clean gh.xd:=by
 intro b;simp only[Gh.xd];cases h:gh.κ b<;>simp[gK]
theorem Gl(hW:bf G base H gh w)(n:Nat):Step (fun p=>gK p=true) n gh w gh.xd w:=by
 refine⟨fun _ _ h=>h,fun _ _ _=>rfl,Nat.le_refl _,rfl,rfl,rfl,fun b hb hn=>⟨.inl rfl,?_,fun _ h=>h⟩,fun b hb=>?_,fun _ _=>rfl,fun _ _ _ h=>h,fun _ _ _ _ h=>h⟩
 ·simp only[Gh.xd]
  grind
 ·simp only[Gh.xd,hW.fresh b hb]
  simp[gK]
def adx(hW:bf G base H gh w):bf G base H gh.xd w:=by
 refine hW.step (Gl hW H.length) (fun l=>⟨by simp[gK],by simp[gK]⟩) hW.pN (fun b hb=>hW.qN b fun h=>hb ?_) (fun _ _ _ h=>.inl h)
 simp[Gh.xd,h,gK]
def Gh.back(gh bt:Gh):Gh:={ bt with κ:=fun b=>bif gK (gh.κ b) then gh.κ b else bt.κ b }
theorem Sm(hW:bf G base H gh w){c:Option fR}(h:oY G base H gh.xd w r c v bt w') :
  bf G base (qe H c) (gh.back bt) w'/\Step iV H.length gh w (gh.back bt) w'/\Ext H.length gh w (gh.back bt) w'/\CR (gh.back bt) (qe H c).length w' .ret v r:=by
 have Qv:∀ b,gK (gh.κ b)=true->bt.κ b=.outer:=by
  intro b hb;have aZ:b<w.heap.size:=(hW.qN b (by intro h0;rw[h0] at hb;cases hb)).2
  have:=(h.st.od b aZ (by simp[Gh.xd,hb,iV])).2.1
  rw[this];simp[Gh.xd,hb]
 have akJ:Step (fun p=>p=.outer) (qe H c).length bt w' (gh.back bt) w':=by
  refine⟨fun _ _ h=>h,fun _ _ _=>rfl,Nat.le_refl _,rfl,rfl,rfl,fun b hb hn=>⟨.inl rfl,?_,fun _ h=>h⟩,fun b hb=>?_,fun _ _=>rfl,fun _ _ _ h=>h,fun _ _ _ _ h=>h⟩
  ·simp only[Gh.back]
   grind
  ·simp only[Gh.back]
   have iJ:w.heap.size<=b:=avx h.st.size hb;rw[hW.fresh b iJ];simp only[gK,cond_false];exact h.st.fresh b iJ
 have hlen:=h.len;have gZ:Step iV H.length gh w (gh.back bt) w':=by
  refine⟨h.st.S,h.st.cell,h.st.size,h.st.os,h.st.tape,h.st.output,fun b hb hn=>?_,fun b hb=>?_,h.st.ρ,h.st.len,h.st.mp⟩
  ·cases hs:gK (gh.κ b) with
   | true =>
    have:=h.st.od b hb (by simp[Gh.xd,hs,iV])
    exact⟨this.1,by simp[Gh.back,hs],this.2.2⟩
   | false =>
    have e1:gh.xd.κ b=gh.κ b:=by simp[Gh.xd,hs]
    have:=h.st.od b hb (by rw[e1];exact hn)
    exact⟨this.1,by simp only[Gh.back,hs,cond_false];rw[this.2.1,e1],this.2.2⟩
  ·simp only[Gh.back]
   rw[hW.fresh b hb];simp only[gK,cond_false];exact h.st.fresh b hb
 refine⟨h.W.step akJ (fun l=>⟨ag,ag⟩) h.W.pN (fun b hb=>?_) (fun _ _ _ h=>.inl h),gZ,⟨gZ.mono (fun p hp=>?_),fun b hb=>?_⟩,h.val.mono akJ (Nat.le_refl _) ag⟩
 ·simp only[Gh.back] at hb
  cases hs:gK (gh.κ b) with
  | true =>
   have:=hW.qN b (by intro h0;rw[h0] at hs;cases hs)
   have:=h.st.size
   omega
  | false =>
   rw[hs] at hb;exact h.W.qN b hb
 ·rcases hp with ⟨l,rfl⟩|⟨l,j,rfl⟩|⟨j,rfl⟩<;>simp[rP]
 ·simp only[Gh.back] at hb
  cases hs:gK (gh.κ b) with
  | true =>
   grind
  | false =>
   rw[hs] at hb;have:=h.out b hb
   simpa [Gh.xd,hs] using this
def CR.ac5(hW:bf G base s.H gh w)(hF:FR L nt gh w a s){x:AV}(h:CR gh s.H.length w .ret v x)(p:bL)(hp:p≠.outer) :
  ∃ bt,bf G base s.H bt w/\FR L nt bt w a s/\Ext s.H.length gh w bt w/\CR bt s.H.length w p v x:=by
 rcases h with h|⟨e,rfl,h⟩
 ·exact⟨gh,hW,hF,Ext.refl _ _ _ (fun b hb=>hW.cA b hb),.inl h⟩
 ·exact CR.given hW hF (.inr ⟨e,rfl,h⟩) p hp
def ml{n:Nat}{x:AV}(h:VR gh n w v x.drop):VR gh n w v x.dk:=by
 cases x<;>first|exact h|skip
 rename_i cs;exact VR.Cp (h:VR gh n w v (.agg cs))
def PC(tO:je P G cf)(hW:bf G base s.H gh w)(hF:FR L nt gh w a s){f:FuncId}{vs:Array Value}{args:List AV}
  (he:cf f args s.H=some (r,ch)) (Fx:vs.size=args.length) (dv:∀ (j:Nat) (v:Value) (x:AV),vs[j]?=some v->args[j]?=some x->CR gh s.H.length w (.par j) v x)
  (fe:(∃ fn,P.funcs[f]?=some fn/\fn.body.isSome=true/\fn.name≠ "runtime.NumGoroutine")->(execOp a.eval o).run P w=.ok (.enter f vs) w) (hd:∀ k,o.dst=some k->k<nt) (K:Act->World->Prop) (Q:Exit->Act->World->Prop)
  (hK:∀ v' bt w',Out G base nt L gh w a s o.dst r ((ch.map s.iF).getD s) v' bt w'->K (a.put o.dst v') w'):o.wp P a w K Q:=by
 obtain⟨IU,_,kB⟩:=tO f _ _ _ _ he;have gZ:=Gl hW s.H.length;have hC:=kB base gh.xd w vs (adx hW) (MA gh) Fx (fun j v x hv hx=>(dv j v x hv hx).mono gZ (Nat.le_refl _) (by simp[gK]))
 unfold Oper.wp;rw[fe IU,Oper.upon_enter];refine hC.mono ?_
 rintro e w2 ⟨v,bt,rfl,hR⟩
 obtain⟨HK,T5,AJ,RM⟩:=Sm hW hR;have aa8:=hR.len;have key:∀ s1:AS,s1.H=qe s.H ch->FR L nt (gh.back bt) w2 a s1->∃ gh3,Out G base nt L gh w a s o.dst r s1 v gh3 w2:=by
  intro s1 qa Bc;obtain⟨gh3,hW3,hF3,hE3,hv3⟩:=CR.ac5 (by rw[qa];exact HK) Bc (by rw[qa];exact RM) (V1 o.dst) (qv _)
  refine⟨gh3,Out.of (s1:=s1) (gen':=s1.gen) hW3 hF3 (AJ.trans hE3 (by rw[qa];exact aa8)) (Nat.le_refl _) hd (.inl (me hv3.aM)) (fun k hk=>?_)⟩
  rw[hk] at hv3;exact pU hv3.aM hv3
 cases ch with
 | none =>
  obtain⟨gh3,hO⟩:=key s rfl (hF.grown (H':=s.H) (lo':=s.lo) T5 (fun i=>⟨by simp[iV],by simp[iV],by simp[iV]⟩) (Nat.le_refl _))
  exact hK v gh3 w2 hO
 | some c' =>
  obtain⟨gh3,hO⟩:=key (s.iF c') rfl (hF.grown T5 (fun i=>⟨by simp[iV],by simp[iV],by simp[iV]⟩) aa8)
  exact hK v gh3 w2 hO
theorem Xl(tO:je P G cf)(hW:bf G base s.H gh w)(hF:FR L nt gh w a s){c:Call}{fx:Operand}{yf:aE}{ys:List aE}{f:FuncId}{fs:List AV}
  (ho:o.op=.call c) (jE:c.callee=.value fx) (ji:ar nt fx=some yf) (D4:kN nt c.args.toList=some ys) (adv:yf.eval G s.T=.func (.func f) fs cs) (J' : (ys.map fun y=>y.addr G s.T).all aM=true)
  (he:cf f (fs++ys.map (fun y=>(y.addr G s.T).dk)++cs) s.H=some (r,ch)) (hd:∀ k,o.dst=some k->k<nt) (K:Act->World->Prop) (Q:Exit->Act->World->Prop)
  (hK:∀ v' bt w',Out G base nt L gh w a s o.dst r ((ch.map s.iF).getD s) v' bt w'->K (a.put o.dst v') w'):o.wp P a w K Q:=by
 have hfv:=cX hW hF ji adv rfl;obtain⟨us,ts,hfe,w9,mo,h1,h2⟩:=hfv.uH;have gp:=Ho hW hF D4 J';have hlen:=(mV D4).1
 let vs:Array Value:=us++c.args.map a.eval++ts
 have Fx:vs.size=(fs++ys.map (fun y=>(y.addr G s.T).dk)++cs).length:=by
  grind
 have dv:∀ (j:Nat) (v:Value) (x:AV),vs[j]?=some v->(fs++ys.map (fun y=>(y.addr G s.T).dk)++cs)[j]?=some x->VR gh s.H.length w v x:=by
  intro j v x hv hx;have RD:(c.args.map a.eval).size=ys.length:=cT hlen;simp only[vs,Array.getElem?_append,Array.size_append] at hv;simp only[avJ,List.length_append,List.length_map] at hx;rw[w9,RD] at hv;split at hv
  ·rename_i c1
   rw[if_pos c1] at hx;split at hv
   ·grind
   ·rename_i c2
    rw[if_neg c2] at hx;simp only[List.getElem?_map,auP] at hx;obtain⟨y,hy,rfl⟩:=hx;refine ml (gp (j-fs.length) v _ ?_ ?_)
    ·grind
    ·grind
  ·grind
 refine PC tO hW hF he Fx (fun j v x hv hx=>.inl (dv j v x hv hx)) ?_ hd K Q hK
 rintro ⟨fn,IU,J2,rf⟩
 unfold execOp;cases hb:fn.body with
 | none=>rw[hb] at J2;cases J2
 | some code =>
  simp[ho,resolve,jE,hfe,Deferred.ofValue,invoke,callFunc,IU,rf,hb,vs]
end
end
section
section
variable {P:Program}{G:Nat->List AV}{base nt:Nat}{L:List Nat}{gh:Gh}{w w' : World}{a:Act}{s:AS}{H:ae}
def I6(P:Program)(w:World)(d:Nat):Prop :=
 ∀ (t:TypeId) (ks:List CK),ox P d t=some ks->∀ (D o:Nat) (cs:Array Value) (em:Bool),d<=D->o+ks.length<=cs.size->∃ v,(part t cs o).run P w=.ok v w/\(Instr.checkKey em D t v).run P w=.ok () w
def x6{t:TypeId}{D:Nat}(h:P.underlying t=some .bool\/(∃ k,P.underlying t=some (.int k))\/P.underlying t=some .string):(Instr.checkKey em (D+1) t v).run P w=.ok () w:=by
 rcases h with h|⟨k,h⟩|h<;>simp[Instr.checkKey,run_underlying h]
def x5{d:Nat}(hd:I6 P w d){D:Nat}(hD:d<=D){cs:Array Value} : ∀ (fs:List Go.Field) (q:Nat) (ks:List CK),qo (ox P d) fs q=some ks->q+ks.length<=cs.size ->
  Sem.run P (forIn fs PUnit.unit fun (f:Go.Field) (_:PUnit) =>
   if f.name≠ "_" then do
    let v <- part f.type cs f.offset
    Instr.checkKey em D f.type v
    pure (ForInStep.yield PUnit.unit)
   else pure (ForInStep.yield PUnit.unit)) w=.ok PUnit.unit w:=by
 intro fs
 induction fs with
 | nil=>intro q ks h1 h2;rfl
 | cons f fs ih =>
  intro q ks h1 h2;unfold qo at h1;obtain⟨h3,h1⟩:=al h1;simp only[auQ,auP] at h1;obtain⟨kf,hkf,kr,hkr,rfl⟩:=h1;simp only[auT,iE,au1,bne_iff_ne] at h3;obtain⟨hof,sJ⟩:=h3;rw[List.length_append] at h2;obtain⟨v,p1,p2⟩:=hd f.type kf hkf D q cs em hD ah;have hr:=ih (q+kf.length) kr hkr ah;rw[List.forIn_cons,if_pos sJ,hof];simp only[Sem.run_bind,p1,p2,Result.andThen_ok,Sem.run_pure];exact hr
def F2:∀ d,I6 P w d
 | 0=>fun t ks h=>by cases h
 | d+1=>by
  intro t ks h D o cs em hD iG;have h0:=h;unfold ox at h;cases hu:P.underlying t with
  | none=>rw[hu] at h;cases h
  | some dd =>
   rw[hu] at h;obtain⟨D,rfl⟩:∃ m,D=m+1:=⟨D-1,ah⟩;have sc:ks.length=1->nP P t=some false->(dd=.bool\/(∃ k,dd=.int k)\/dd=.string)->∃ v,(part t cs o).run P w=.ok v w/\(Instr.checkKey em (D+1) t v).run P w=.ok () w:=by
    intro h1 h2 h3;have hg:=h2;have hv:cs[o]?=some cs[o]:=au' ah;refine⟨cs[o],by simp[part,jk hg,hv],x6 ?_⟩
    rcases h3 with h3|⟨k,h3⟩|h3<;>subst h3
    ·exact .inl hu
    ·exact .inr (.inl ⟨k,hu⟩)
    ·exact .inr (.inr hu)
   cases dd<;>try (cases h;done)
   case bool=>injection h with h;subst h;exact sc rfl (nQ hu rfl) (.inl rfl)
   case int kk=>injection h with h;subst h;exact sc rfl (nQ hu rfl) (.inr (.inl ⟨kk,rfl⟩))
   case string=>injection h with h;subst h;exact sc rfl (nQ hu rfl) (.inr (.inr rfl))
   case struct fs =>
    obtain⟨_,gG,sz,j9,hlen⟩:=tg h0 hu;have hg:nP P t=some true:=by unfold nP;rw[hu];rfl
    refine⟨.agg (cs.extract o (o+sz)),by simp[part,jk hg,fC j9],?_⟩
    have:=x5 (F2 d) (show d<=D by omega) (cs:=cs.extract o (o+sz)) (em:=em) fs.toList 0 ks gG dw
    unfold Instr.checkKey;simp only[Sem.run_bind,run_underlying hu,Result.andThen_ok];rw[<- Array.forIn_toList,this];rfl
def vK{n:Nat}(h:VR gh n w v k)(hc:k.cells=some kc):(∃ C,v=.agg C/\k=.agg kc/\Row gh n w C kc)\/(kc=[k]/\v.oneCell'=true):=by
 have hr:=vd h hc;cases k
 case agg xs =>
  obtain⟨C,rfl,hs,iw,h⟩:=h.mf;injection hc with hc
  subst hc;exact .inl ⟨C,rfl,rfl,hs,h⟩
 case any=>cases hc
 case tuple=>cases hc
 case lbox=>cases hc
 case lref=>cases hc
 case lsl=>cases hc
 case lsr=>cases hc
 case eref=>cases hc
 case iter=>cases hc
 all_goals
  injection hc with hc
  subst hc;exact .inr ⟨rfl,h.gm (by intro cs h;cases h) (by intro cs h;cases h)⟩
def zB{n:Nat}(h:VR gh n w v k)(ha:true=k.isAgg):∃ C,v=.agg C:=by
 cases k<;>first|(cases ha;done)|skip
 obtain⟨C,rfl,_⟩:=h.mf;exact⟨C,rfl⟩
structure Hg (P:Program) (kt:TypeId) (ks:List CK) (ka:Bool):Prop where
 flat:ox P 8 kt=some ks
 agg:nP P kt=some ka
theorem Hg.cases(h:Hg P kt ks ka):(ka=false/\((P.underlying kt=some .bool/\ks=[.b])\/(∃ k,P.underlying kt=some (.int k)/\ks=[.i])\/(P.underlying kt=some .string/\ks=[.s]))) \/
  (ka=true/\∃ fs,P.underlying kt=some (.struct fs)):=by
 have hf:=h.flat;have ha:=h.agg;unfold ox at hf;unfold nP at ha;cases hu:P.underlying kt with
 | none=>rw[hu] at hf;cases hf
 | some dd =>
  rw[hu] at hf ha;cases dd<;>try (cases hf;done)
  case bool=>injection hf with hf;subst hf;simp at ha;exact .inl ⟨ha,.inl ⟨rfl,rfl⟩⟩
  case int k=>injection hf with hf;subst hf;simp at ha;exact .inl ⟨ha,.inr (.inl ⟨k,rfl,rfl⟩)⟩
  case string=>injection hf with hf;subst hf;simp at ha;exact .inl ⟨ha,.inr (.inr ⟨rfl,rfl⟩)⟩
  case struct fs=>simp at ha;exact .inr ⟨ha,fs,rfl⟩
def Af(hK:Hg P kt ks ka){n:Nat}(hk:VR gh n w kv k)(vj:k.cells=some kc)(hl:kc.length=ks.length)(zj:ka=k.isAgg)(em:Bool) :
  (Instr.checkKey em 10000 kt kv).run P w=.ok () w:=by
 rcases hK.cases with ⟨rfl,h⟩|⟨rfl,fs,hu⟩
 ·refine x6 ?_
  rcases h with ⟨h,_⟩|⟨k,h,_⟩|⟨h,_⟩
  ·exact .inl h
  ·exact .inr (.inl ⟨k,h⟩)
  ·exact .inr (.inr h)
 ·obtain⟨C,rfl⟩:=zB hk zj
  obtain⟨D6,gG,sz,j9,hlen⟩:=tg hK.flat hu;have hC:C.size=kc.length:=by
   rcases vK hk vj with ⟨C',e,_,hr⟩|⟨_,h1⟩
   ·injection e with e;subst e;exact hr.1
   ·simp[Value.oneCell'] at h1
  have:=x5 (F2 (w:=w) (P:=P) 7) (show 7<=9999 by omega) (cs:=C) (em:=em) fs.toList 0 ks gG ah
  unfold Instr.checkKey;simp only[Sem.run_bind,run_underlying hu,Result.andThen_ok];rw[<- Array.forIn_toList,this];rfl
def NW(S:Nat->Nat->Prop)(w:World)(kz:Nat)(ka:Bool)(v:Value)(r:List AV):Prop:=∃ f:Nat->Value,v=tS ka kz f/\∀ (j:Nat) (x:AV),r[j]?=some x->j<kz->PR S w (f j) x
def su:∀ {k:List CK} {X Y:List AV} {b:Bool},cD k X Y=some b->k.length<=X.length/\k.length<=Y.length
 | [],X,Y,b,h=>⟨Nat.zero_le _,Nat.zero_le _⟩
 | c :: k,X,Y,b,h=>by
  cases c<;>cases X<;>try (cases h;done)
  all_goals (rename_i x X';cases x<;>try (cases h;done))
  all_goals (cases Y<;>try (cases h;done))
  all_goals (rename_i y Y';cases y<;>try (cases h;done))
  ·simp only[cD,auP] at h
   obtain⟨b',hb,_⟩:=h;have:=su hb
   simp;omega
  ·simp only[cD] at h
   obtain⟨_,h⟩:=al h;simp only[auP] at h;obtain⟨b',hb,_⟩:=h;have:=su hb
   simp;omega
  ·simp only[cD,auP] at h
   obtain⟨b',hb,_⟩:=h;have:=su hb
   simp;omega
def QM(hK:Hg P kt ks ka){n:Nat}(hk:VR gh n w kv k)(vj:k.cells=some kc)(hl:kc.length=ks.length)(zj:ka=k.isAgg)
  {v:Value} {r:List AV} (hv:NW gh.S w ks.length ka v r) {b:Bool} (he:cD ks kc r=some b) :
  (ka=true->(Op.equal kt kv v).run P w=.ok b w)/\(ka=false->∀ d,P.underlying kt=some d->Instr.sameNow d kv v=some b):=by
 obtain⟨f,rfl,hf⟩:=hv;have zT:=(su he).2
 rcases hK.cases with ⟨rfl,h⟩|⟨rfl,fs,hu⟩
 ·refine⟨(fun h=>by cases h),fun _ d hd=>?_⟩
  have adD:kc=[k]:=by
   cases k<;>first|(cases zj;done)|(injection vj with vj;exact vj.symm)|(cases vj;done)
  subst adD;have hv0:∀ x,r[0]?=some x->PR gh.S w (f 0) x:=fun x hx=>hf 0 x hx (by rcases h with ⟨_,h⟩|⟨_,_,h⟩|⟨_,h⟩<;>rw[h]<;>exact Nat.one_pos)
  show Instr.sameNow d kv (f 0)=some b
  cases r with
  | nil=>rcases h with ⟨_,h⟩|⟨_,_,h⟩|⟨_,h⟩<;>subst h<;>simp at zT
  | cons x r =>
   have hx:=hv0 x rfl
   rcases h with ⟨h,rfl⟩|⟨q,h,rfl⟩|⟨h,rfl⟩
   ·rw[h] at hd;injection hd with hd;subst hd
    cases k<;>try (cases he;done)
    cases x<;>try (cases he;done)
    obtain rfl:=hk.lW;generalize f 0=u at hx;cases hx;simp[cD] at he;simp[Instr.sameNow,he]
   ·rw[h] at hd;injection hd with hd;subst hd
    cases k<;>try (cases he;done)
    cases x<;>try (cases he;done)
    obtain rfl:=hk.kC;generalize f 0=u at hx;cases hx;simp only[cD] at he;obtain⟨h0,he⟩:=al he;simp at he h0;simp[Instr.sameNow,he,h0]
   ·rw[h] at hd;injection hd with hd;subst hd
    cases k<;>try (cases he;done)
    cases x<;>try (cases he;done)
    obtain⟨p,rfl,rfl⟩:=hk.kE;generalize f 0=u at hx;cases hx with
    | str q _ hq =>
     subst hq;simp[cD] at he;simp only[Instr.sameNow,auR];rw[<- he]
     first|rfl|(show (p.data==q.data)=_;simp)
 ·obtain⟨C,rfl⟩:=zB hk zj
  refine⟨fun _=>?_,fun h=>by cases h⟩
  have hC:Row gh n w C kc:=by
   rcases vK hk vj with ⟨C',e,_,hr⟩|⟨_,h1⟩
   ·injection e with e;subst e;exact hr
   ·simp[Value.oneCell'] at h1
  have hD:Row gh n w (((List.range ks.length).map f).toArray) (r.take ks.length):=by
   refine⟨dw,fun j u x hu hx=>?_⟩
   simp only[avu,List.getElem?_map,auP] at hu;obtain⟨i,hi,rfl⟩:=hu;obtain⟨aZ,hij⟩:=auU.1 hi;simp at aZ hij;subst hij;rw[avn,if_pos aZ] at hx;exact .plain _ _ (hf _ x hx aZ)
  have yw:cD ks kc (r.take ks.length)=some b:=by
   rw[<- he,<- ql ks kc r ks.length (Nat.le_refl _),<- ql ks kc (r.take ks.length) ks.length (Nat.le_refl _),List.take_take,Nat.min_self]
  exact xF (zN 7) hK.flat hu (D:=9999) ah (n:=n) hC hD yw
def yl{d:TypeDesc} : ∀ (l:List MapEntry) (es:List (List AV)) (i0:Nat) (o:Option Nat),l.length=es.length ->
  (∀ (i:Nat) (e:MapEntry) (r:List AV) (b:Bool),l[i]?=some e->es[i]?=some r->cD ks kc r=some b->Instr.sameNow d kv e.key=some b)->dX ks kc es=some o ->
  Instr.findNow d kv l i0=some (o.map fun i=>(i0+i,(l.getD i default).val))
 | [],[],i0,o,_,_,h=>by simp only[dX,auR] at h;subst h;rfl
 | [],_ :: _,_,_,hl,_,_=>by simp at hl
 | _ :: _,[],_,_,hl,_,_=>by simp at hl
 | e :: l,r :: es,i0,o,hl,hq,h=>by
  simp only[dX,auQ] at h;obtain⟨b,hb,h⟩:=h;have h0:=hq 0 e r b rfl rfl hb;cases b with
  | true =>
   simp only[cond_true,auR] at h;subst h;simp[Instr.findNow,h0]
  | false =>
   simp only[cond_false,auP] at h;obtain⟨o',OE,rfl⟩:=h;have ih:=yl l es (i0+1) o' (cT hl) (fun i e r b h1 h2 h3=>hq (i+1) e r b (cT h1) (cT h2) h3) OE
   simp only[Instr.findNow,h0,ih,awP];cases o' with
   | none=>rfl
   | some i=>simp[axk,axp 1 i]
def tA : ∀ (l:List MapEntry) (es:List (List AV)) (i0:Nat) (o:Option Nat),l.length=es.length ->
  (∀ (i:Nat) (e:MapEntry) (r:List AV) (b:Bool),l[i]?=some e->es[i]?=some r->cD ks kc r=some b->(Op.equal kt kv e.key).run P w=.ok b w)->dX ks kc es=some o ->
  (Instr.findAsking kt kv l i0).run P w=.ok (o.map fun i=>(i0+i,(l.getD i default).val)) w
 | [],[],i0,o,_,_,h=>by simp only[dX,auR] at h;subst h;rfl
 | [],_ :: _,_,_,hl,_,_=>by simp at hl
 | _ :: _,[],_,_,hl,_,_=>by simp at hl
 | e :: l,r :: es,i0,o,hl,hq,h=>by
  simp only[dX,auQ] at h;obtain⟨b,hb,h⟩:=h;have h0:=hq 0 e r b rfl rfl hb;cases b with
  | true =>
   simp only[cond_true,auR] at h;subst h;simp[Instr.findAsking,h0]
  | false =>
   simp only[cond_false,auP] at h;obtain⟨o',OE,rfl⟩:=h;have ih:=tA l es (i0+1) o' (cT hl) (fun i e r b h1 h2 h3=>hq (i+1) e r b (cT h1) (cT h2) h3) OE
   simp only[Instr.findAsking,Sem.run_bind,h0,Result.andThen_ok,av4,axF,ih];cases o' with
   | none=>rfl
   | some i=>simp[axk,axp 1 i]
def DG(hK:Hg P kt ks ka){n:Nat}(hk:VR gh n w kv k)(vj:k.cells=some kc)(hl:kc.length=ks.length)(zj:ka=k.isAgg)
  {l:List MapEntry} {es:List (List AV)} (hlen:l.length=es.length) (bU:∀ (i:Nat) (e:MapEntry) (r:List AV),l[i]?=some e->es[i]?=some r->NW gh.S w ks.length ka e.key r) {o:Option Nat} (hf:dX ks kc es=some o) :
  (Instr.findKey kt kv l).run P w=.ok (o.map fun i=>(i,(l.getD i default).val)) w:=by
 have hq:=fun (i:Nat) (e:MapEntry) (r:List AV) (b:Bool) (h1:l[i]?=some e) (h2:es[i]?=some r) (h3:cD ks kc r=some b)=>QM hK hk vj hl zj (bU i e r h1 h2) h3
 rcases hK.cases with ⟨rfl,h⟩|⟨rfl,fs,hu⟩
 ·obtain⟨d,hd⟩:∃ d,P.underlying kt=some d:=by rcases h with ⟨h,_⟩|⟨_,h,_⟩|⟨h,_⟩<;>exact⟨_,h⟩
  have hn:=yl l es 0 o hlen (fun i e r b h1 h2 h3=>(hq i e r b h1 h2 h3).2 rfl d hd) hf
  simp only[avt] at hn;simp[Instr.findKey,run_underlying hd,hn]
 ·cases l with
  | nil =>
   cases es with
   | cons _ _=>simp at hlen
   | nil =>
    simp only[dX,auR] at hf;subst hf;simp[Instr.findKey,run_underlying hu,Instr.findNow]
  | cons e l =>
   have hn:=tA (P:=P) (w:=w) (e :: l) es 0 o hlen (fun i e r b h1 h2 h3=>(hq i e r b h1 h2 h3).1 rfl) hf
   simp only[avt] at hn;simp[Instr.findKey,run_underlying hu,Instr.findNow,Instr.sameNow,hn]
end
end
section
section
variable {P:Program}{G:Nat->List AV}{base nt:Nat}{L:List Nat}{gh:Gh}{w w' : World}{a:Act}{s:AS}{H:ae}
def xt(w:World)(b:Nat)(E:Array MapEntry)(ck:Nat):World:={ w with heap:=w.heap.setIfInBounds b (Obj.map E ck) }
def K8{E:Array MapEntry}(hb:w.heap[b]?=some (.map E ck)):(xt w b E' ck').heap[b]?=some (.map E' ck'):=by
 have aZ:b<w.heap.size:=(auZ.1 hb).1;simp[xt,aZ]
theorem oK{b':Nat}(h:b'≠b):(xt w b E' ck').heap[b']?=w.heap[b']?:=by
 simp[xt,awf h]
def DH{E:Array MapEntry}(hb:w.heap[b]?=some (.map E ck)):(setObj b (.map E' ck')).run P w=.ok () (xt w b E' ck'):=by
 simp[setObj,Sem.run,hb,xt]
theorem Kw(hW:bf G base H gh w){E:Array MapEntry}(hb:w.heap[b]?=some (.map E ck))(hS:∀ o,¬ gh.S b o)(n:Nat):Step (fun r=>r=gh.κ b) n gh w gh (xt w b E' ck'):=by
 have dp:∀ b' o,gh.S b' o->b'≠b:=fun b' o h=>by rintro rfl;exact hS o h
 refine⟨fun _ _ h=>h,fun b' o h=>cell_of_heap (oK (dp b' o h)),by simp[xt],rfl,rfl,rfl,fun b' iJ hn=>?_,fun b' iJ=>?_,fun _ _=>rfl,fun b' ty m hm=>?_,fun b' E1 c1 hs hm=>?_⟩
 ·have Fv:b'≠b:=by rintro rfl;exact hn rfl
  exact⟨.inl (oK Fv),rfl,fun _ h=>h⟩
 ·have:w.heap.size<=b':=by simpa [xt] using iJ
  exact hW.cA b' this
 ·obtain⟨C,fr,h1,h2⟩:=hm
  have Fv:b'≠b:=by rintro rfl;rw[hb] at h1;cases h1
  exact⟨C,fr,by rw[oK Fv];exact h1,h2⟩
 ·grind [oK]
structure LA (P:Program) (t kt et:TypeId) (ks:List CK) (ka va:Bool) (vz:Nat) (z:Value) (zero:List AV):Prop where
 ht:P.underlying t=some (.map kt et)
 key:Hg P kt ks ka
 vz1:va=false->vz=1
 hz:∃ i,P.info? et=some i/\i.zero=some z
 cells:fy z.cells.toList=some zero
 agg:R3 z=va
 len:zero.length=vz
def Hg.kz(h:Hg P kt ks ka)(hf:ka=false):ks.length=1:=by
 rcases h.cases with ⟨_,⟨_,h⟩|⟨_,_,h⟩|⟨_,h⟩⟩|⟨rfl,_⟩
 ·rw[h];rfl
 ·rw[h];rfl
 ·rw[h];rfl
 ·cases hf
def yT{t:TypeId}{m:List CK × Bool × Bool × List AV}(h:QW P t=some m):∃ kt et z,LA P t kt et m.1 m.2.1 m.2.2.1 m.2.2.2.length z m.2.2.2:=by
 unfold QW at h;split at h
 ·rename_i kt et hu
  simp only[auQ] at h;obtain⟨ks,gG,ka,zj,i,hi,z,hz,zero,hzc,h⟩:=h;obtain⟨h0,h⟩:=al h;injection h with h
  subst h;refine⟨kt,et,z,hu,⟨gG,zj⟩,fun hv=>?_,⟨i,hi,hz⟩,hzc,rfl,rfl⟩
  simp_all
 ·cases h
def S3(hW:bf G base s.H gh w)(hF:FR L nt gh w a s){t:TypeId}(ho:o.op=.makeMap t none)(hd:∀ k,o.dst=some k->k<nt)(kz:Nat)(ka va:Bool) :
  ∃ v' bt w',wJ P a o w v' w'/\Out G base nt L gh w a s o.dst (.mref s.H.length) (s.iF ⟨s.H++[.map kz ka va []],s.H.length⟩) v' bt w':=by
 have hp:=fS.alloc w (.map #[] 0);have hρ:(gh.bK w.heap.size s.H.length).ρ s.H.length=w.heap.size:=by simp[Gh.bK]
 have hv:VR (gh.bK w.heap.size s.H.length) (s.H++[bM.map kz ka va []]).length (w.alloc (.map #[] 0)) (.map (some w.heap.size)) (.mref s.H.length):=by
  have:=VR.mref (gh:=gh.bK w.heap.size s.H.length) (w:=w.alloc (.map #[] 0)) (n:=(s.H++[bM.map kz ka va []]).length) s.H.length ag
  rw[hρ] at this;exact this
 have hM:wH (gh.bK w.heap.size s.H.length) (s.H.length+1) (w.alloc (.map #[] 0)) w.heap.size s.H.length (.map kz ka va []):=by
  refine⟨⟨by simp[Gh.bK,Gh.alloc],?_,#[],0,fun _ _=>undef,hp.new,⟨rfl,rfl,fun i e h=>by simp at h,fun i e h=>by simp at h,fun i j e e' h=>by simp at h,fun i e r h=>by simp at h⟩,fun i j r x h=>by simp at h,fun i j r x h=>by simp at h⟩,rfl⟩
  rintro o (ho|⟨_,ho⟩)
  ·have:=hW.pN _ o ho;omega
  ·exact ho
 refine⟨_,_,_,.inl ?_,hW.Dw hp (fun _ _ h=>by cases h) hM,hF.put (gQ hW hp) (fun i=>⟨id,id,fun _=>id⟩) ag o.dst hd (.dU hv),kY hW hp⟩
 simp[execOp,ho,Instr.makeMap,newObj,Sem.run]
theorem US{n:Nat}{m:Nat}(hm:cs.length=m)(h1:va=false->m=1)(h:∀ (j:Nat) (x:AV),cs[j]?=some x->VR gh n w (g j) x.drop/\(g j).oneCell'=true) :
  VR gh n w (tS va m g) (cond va (.agg (cs.map AV.drop)) ((cs.headD .undef).drop)):=by
 cases va with
 | true =>
  refine .agg _ _ (xD hm) (fun j v hv=>?_) (fun j v x hv hx=>?_)
  ·simp only[avu,List.getElem?_map,auP] at hv
   obtain⟨i,hi,rfl⟩:=hv;obtain⟨aZ,hij⟩:=auU.1 hi;simp at aZ hij
   simp_all
  ·grind
 | false =>
  have:=h1 rfl
  cases cs with
  | nil=>simp at hm;omega
  | cons x cs=>exact (h 0 x rfl).1
def Pm{n:Nat}{t:TypeId}(hT:LA P t kt et ks ka va vz z zero):VR gh n w z (cond va (.agg (zero.map AV.drop)) ((zero.headD .undef).drop)):=by
 obtain⟨hl,hv⟩:=lP (gh:=gh) (n:=n) (w:=w) hT.cells;have Lv:=hT.agg;cases z
 case agg C =>
  simp[R3] at Lv;subst Lv;refine .agg C _ (by simpa [Value.cells] using hl) (fun j v oG=>?_) (fun j v x oG hx=>?_)
  ·have aZ:=(auZ.1 oG).1
   have hz:zero[j]?=some zero[j]:=auS (by
    have:C.toList.length=zero.length:=by simpa [Value.cells] using hl
    simp at this;omega)
   exact (hv j v _ (by simpa [Value.cells] using oG) hz).2
  ·simp only[List.getElem?_map,auP] at hx
   obtain⟨y,hy,rfl⟩:=hx;exact (hv j v y (by simpa [Value.cells] using oG) hy).1.dropped
 all_goals
  simp[R3] at Lv;subst Lv;have h1:zero.length=1:=by rw[hT.len];exact hT.vz1 rfl
  obtain⟨x,rfl⟩:=awd.1 h1;exact (hv 0 _ x rfl rfl).1.dropped
def Df{n:Nat}{ok:Bool}(h:VR gh n w v (cond va (.agg (cs.map AV.drop)) ((cs.headD .undef).drop)))(found:Bool) :
  VR gh n w (if ok then .tuple #[v,.bool found] else v) (AU ok va cs found):=by
 unfold AU;simp only;cases ok with
 | false=>exact h
 | true =>
  refine .tuple _ _ rfl (fun j u x hu hx=>?_)
  match j with
  | 0=>injection hu with hu;injection hx with hx;subst hu hx;exact h
  | 1=>injection hu with hu;injection hx with hx;subst hu hx;exact .plain _ _ (.bool _)
  | j+2=>simp at hx
structure Rows (gh:Gh) (n:Nat) (w:World) (E:Array MapEntry) (kz:Nat) (ka va:Bool) (es:List (List AV)):Prop where
 size:E.size=es.length
 key:∀ (i:Nat) (e:MapEntry) (r:List AV),E[i]?=some e->es[i]?=some r->NW gh.S w kz ka e.key r
 val:∀ (i:Nat) (e:MapEntry) (r:List AV),E[i]?=some e->es[i]?=some r->kz<=r.length/\(va=false->r.length=kz+1)/\∃ g,e.val=tS va (r.length-kz) g/\∀ (j:Nat) (x:AV),(r.drop kz)[j]?=some x->VR gh n w (g j) x.drop/\(g j).oneCell'=true
def DF{n kz:Nat}(h:PR gh.S w v (.iW kz ka va es)):∃ b E ck,v=.map (some b)/\w.heap[b]?=some (.map E ck)/\Rows gh n w E kz ka va es:=by
 cases h with
 | iW b _ _ _ _ E ck f hS hb hE dv =>
  refine⟨b,E,ck,rfl,hb,hE.size,fun i e r h1 h2=>⟨f i,(hE.row i e r h1 h2).2.2.2.1,fun j x hj _=>dv i j r x h2 hj⟩,fun i e r h1 h2=>?_⟩
  obtain⟨k1,_,k2,_,k3⟩:=hE.row i e r h1 h2;refine⟨k1,k2,fun j=>f i (kz+j),k3,fun j x hj=>?_⟩
  rw[avY] at hj;have:=dv i (kz+j) r x h2 hj
  exact⟨VR.dropped (.plain _ _ this),this.gm⟩
def DE{n kz:Nat}(h:FI gh n w b p q kz ka va es):∃ E ck,w.heap[b]?=some (.map E ck)/\Rows gh n w E kz ka va es:=by
 obtain⟨_,_,E,ck,f,hb,hE,h1,h2⟩:=h;refine⟨E,ck,hb,hE.size,fun i e r k1 k2=>⟨f i,(hE.row i e r k1 k2).2.2.2.1,fun j x hj hl=>h1 i j r x k2 hj hl⟩,fun i e r k1 k2=>?_⟩
 obtain⟨l1,_,l2,_,l3⟩:=hE.row i e r k1 k2;refine⟨l1,l2,fun j=>f i (kz+j),l3,fun j x hj=>?_⟩
 rw[avY] at hj;obtain⟨m1,_,m2⟩:=h2 i (kz+j) r x k2 hj ah;exact⟨m2.dropped,m1⟩
def BD:∀ {ks:List CK} {kc:List AV} {es:List (List AV)} {i:Nat},dX ks kc es=some (some i)->i<es.length
 | ks,kc,[],i,h=>by simp[dX] at h
 | ks,kc,r :: es,i,h=>by
  simp only[dX,auQ] at h;obtain⟨b,_,h⟩:=h;cases b with
  | true=>simp at h;subst h;simp
  | false =>
   simp only[cond_false,auP] at h;obtain⟨o,ho,h⟩:=h;cases o with
   | none=>simp at h
   | some j=>simp at h;subst h;have:=BD ho;simp;omega
theorem KZ{n:Nat}{t:TypeId}(hT:LA P t kt et ks ka va vz z zero)(hk:VR gh n w kv k)(vj:k.cells=some kc)(hl:kc.length=ks.length)(zj:ka=k.isAgg)
  {b:Nat} {E:Array MapEntry} {ck:Nat} {es:List (List AV)} (hb:w.heap[b]?=some (.map E ck)) (hR:Rows gh n w E ks.length ka va es) {o:Option Nat} (hf:dX ks kc es=some o) (ok:Bool) :
  ∃ v,(Instr.lookup t (.map (some b)) kv ok).run P w=.ok v w/\VR gh n w v (pI ok va zero ks.length es o):=by
 have xK:=Af hT.key hk vj hl zj E.isEmpty;have RE:=DG hT.key hk vj hl zj (l:=E.toList) (cT hR.size) (fun i e r h1 h2=>hR.key i e r (cT h1) h2) hf
 obtain⟨i0,RG,T8⟩:=hT.hz;have hzr:(zeroValue et).run P w=.ok z w:=by simp[zeroValue,typeInfo,RG,T8]
 cases o with
 | none =>
  refine⟨if ok then .tuple #[z,.bool false] else z,?_,Df (Pm hT) false⟩
  simp[Instr.lookup,run_underlying hT.ht,getObj,Sem.run,hb];simp[xK,RE,hzr]
 | some i =>
  have hi:=BD hf;have hiE:i<E.size:=by rw[hR.size];exact hi
  have hE:E[i]?=some E[i]:=au' hiE;have he:es[i]?=some es[i]:=auS hi;obtain⟨k1,k2,g,k3,k4⟩:=hR.val i _ _ hE he;have HO:es.getD i []=es[i]:=by simp[List.getD,he]
  have hed:E.toList.getD i default=E[i]:=by
   grind
  have hv:=US (gh:=gh) (n:=n) (w:=w) (va:=va) (m:=es[i].length-ks.length) (g:=g) (cs:=es[i].drop ks.length) ag (fun hva=>by have:=k2 hva;omega) k4
  rw[<- k3] at hv;refine⟨if ok then .tuple #[E[i].val,.bool true] else E[i].val,?_,by simp only[pI];rw[HO];exact Df hv true⟩
  simp only[au2,hed] at RE;simp[Instr.lookup,run_underlying hT.ht,getObj,Sem.run,hb];simp[xK,RE]
def Iy{n:Nat}{t:TypeId}(hT:LA P t kt et ks ka va vz z zero)(hk:VR gh n w kv k)(vj:k.cells=some kc)(hl:kc.length=ks.length)(zj:ka=k.isAgg)(ok:Bool) :
  ∃ v,(Instr.lookup t (.map none) kv ok).run P w=.ok v w/\VR gh n w v (AU ok va zero false):=by
 have xK:=Af hT.key hk vj hl zj true;have RE:=DG hT.key hk vj hl zj (l:=[]) (es:=[]) rfl (fun i e r h1 h2=>by simp at h1) (o:=none) rfl
 obtain⟨i0,RG,T8⟩:=hT.hz;have hzr:(zeroValue et).run P w=.ok z w:=by simp[zeroValue,typeInfo,RG,T8]
 refine⟨if ok then .tuple #[z,.bool false] else z,?_,Df (Pm hT) false⟩
 simp[Instr.lookup,run_underlying hT.ht];simp[xK,RE,hzr]
end
end
section
section
variable {P:Program}{G:Nat->List AV}{base nt:Nat}{L:List Nat}{gh:Gh}{w w' : World}{a:Act}{s:AS}{H:ae}
theorem find_spec{a:List UInt8} : ∀ (es:List (List AV)),(∀ r,r∈es->∃ b,tf r=some b)->∃ o,dX [.s] [.str a] es=some o /\
  ((o=none/\∀ r,r∈es->tf r≠some a)\/∃ i r,o=some i/\es[i]?=some r/\tf r=some a)
 | [],_=>⟨none,rfl,.inl ⟨rfl,fun r h=>by cases h⟩⟩
 | r :: es,h=>by
  obtain⟨b,hb⟩:=h r (List.mem_cons_self ..);obtain⟨q,rfl⟩:∃ q,r=.str b :: q:=by
   unfold tf at hb
   grind
  obtain⟨o,ho,hs⟩:=find_spec (a:=a) es (fun r hr=>h r (av3 _ hr))
  by_cases hab:a=b
  ·subst hab
   exact⟨some 0,by simp[dX,cD],.inr ⟨0,_,rfl,rfl,rfl⟩⟩
  ·have dp:(a==b)=false:=cT hab
   refine⟨o.map (· + 1),by simp[dX,cD,dp,ho],?_⟩
   grind
theorem apart_spec:∀ {es:List (List AV)},ue es=true->(∀ r,r∈es->∃ b,tf r=some b)/\∀ r r',r∈es->r'∈es->tf r=tf r'->r=r'
 | [],_=>⟨fun r h=>(by cases h),fun r r' h=>(by cases h)⟩
 | q :: es,h=>by
  simp only[ue,auT] at h;obtain⟨h1,h2⟩:=h;obtain⟨i1,i2⟩:=apart_spec h2
  grind
theorem Qd{a:List UInt8}{uq:List (List AV)}(hp:uq.Perm es)(ha:ue es=true){o:Option Nat}(hf:dX [.s] [.str a] es=some o)(ok va:Bool)(zero:List AV)(kz:Nat) :
  ∃ o',dX [.s] [.str a] uq=some o'/\pI ok va zero kz uq o'=pI ok va zero kz es o:=by
 obtain⟨h1,h2⟩:=apart_spec ha;obtain⟨o1,e1,s1⟩:=find_spec (a:=a) es h1;rw[hf] at e1;injection e1 with e1
 subst e1;obtain⟨o',e2,s2⟩:=find_spec (a:=a) uq (fun r hr=>h1 r (hp.mem_iff.1 hr))
 refine⟨o',e2,?_⟩
 rcases s1 with ⟨rfl,s1⟩|⟨i,r,rfl,k1,k2⟩
 ·rcases s2 with ⟨rfl,_⟩|⟨i',r',rfl,k1',k2'⟩
  ·rfl
  ·grind
 ·rcases s2 with ⟨rfl,s2⟩|⟨i',r',rfl,k1',k2'⟩
  ·grind
  ·have:r'=r:=h2 r' r (hp.mem_iff.1 (au0 k1')) (au0 k1) (k2'.trans k2.symm)
   subst this;simp only[pI,List.getD,k1,k1']
theorem Xp(hW:bf G base s.H gh w)(hF:FR L nt gh w a s){t:TypeId}(hT:LA P t kt et ks ka va vz zv zero){i:Operand}{yi:aE}{ok:Bool}{z:AV}
  (ho:o.op=.lookup t x i ok) (hc:ar nt x=some y) (hi:ar nt i=some yi) (he:wU s ok ks.length ka va ks zero (y.addr G s.T) (yi.eval G s.T)=some (z,s')) :
  s'=none/\∃ v,(execOp a.eval o).run P w=.ok (.value v) w/\oN gh s.H.length nt w s.T s.gen (gN a) v z:=by
 simp only[wU,auQ] at he;obtain⟨kc,vj,he⟩:=he;obtain⟨h0,he⟩:=al he;simp only[auT,iE,au1,avB] at h0;obtain⟨hl,zj⟩:=h0;have J' : aM (yi.eval G s.T)=true:=by rw[<- kS];exact jO vj
 have hk:=cX hW hF hi rfl J';have fin:∀ {M:Value} {zz:AV},a.eval x=M->(∃ v,(Instr.lookup t M (a.eval i) ok).run P w=.ok v w/\VR gh s.H.length w v zz)->∃ v,(execOp a.eval o).run P w=.ok (.value v) w/\oN gh s.H.length nt w s.T s.gen (gN a) v zz:=by
  rintro M zz rfl ⟨v,h1,h2⟩
  exact⟨v,by simp[execOp,ho,h1],.dU h2⟩
 have hm:=arg_val hW hF hc;split at he
 ·rename_i hM
  simp only[auR,auV] at he;obtain⟨rfl,rfl⟩:=he;rw[hM] at hm;refine⟨rfl,fin (M:=.map none) ?_ (Iy hT hk vj hl zj ok)⟩;generalize a.eval x=V at hm;cases (hm:VR gh s.H.length w V .kq) with
  | plain _ _ h=>cases h;rfl
 ·rename_i p8 p7 p9 es hM
  obtain⟨h1,iY⟩:=al he;clear he;simp only[auP,auV] at iY;obtain⟨r,hf,rfl,rfl⟩:=iY;simp only[auT,iE,au1,avB] at h1;obtain⟨⟨⟨⟨rfl,rfl⟩,rfl⟩,vN⟩,Fw⟩:=h1;obtain⟨str,rfl,rfl⟩:∃ str,ks=[.s]/\kc=[.str str]:=by
   unfold Ux at Fw
   grind
  refine⟨rfl,?_⟩;rw[hM] at hm;have hp:PR gh.S w (a.eval x) (.mn [CK.s].length ka va es):=by
   generalize a.eval x=V at hm;cases (hm:VR gh s.H.length w V (.mn [CK.s].length ka va es)) with
   | plain _ _ h=>exact h
  generalize hV:a.eval x=V at hp;cases hp with
  | mn b _ _ _ _ uq E ck f hS hb hI hpm dv =>
   have hE:=hI.size;have bU:=hI.row;obtain⟨o',hf',Wx⟩:=Qd hpm vN hf ok va zero [CK.s].length;rw[<- Wx];have hR:Rows gh s.H.length w E [CK.s].length ka va uq:=by
    refine⟨hE,fun i e r h1 h2=>⟨f i,(bU i e r h1 h2).2.2.2.1,fun j x hj _=>dv i j r x h2 hj⟩,fun i e r h1 h2=>?_⟩
    obtain⟨k1,_,k2,_,k3⟩:=bU i e r h1 h2;refine⟨k1,k2,_,k3,fun j x hj=>?_⟩
    rw[avY] at hj;have:=dv i _ r x h2 hj
    exact⟨VR.dropped (.plain _ _ this),this.gm⟩
   exact fin hV (KZ hT hk vj hl zj hb hR hf' ok)
 ·simp only[auQ,auP,auV] at he
  obtain⟨es,dF,r,hf,rfl,rfl⟩:=he;refine⟨rfl,?_⟩;have key:∃ b E ck,a.eval x=.map (some b)/\w.heap[b]?=some (.map E ck)/\Rows gh s.H.length w E ks.length ka va es:=by
   generalize hY:y.addr G s.T=Y at hm dF;have hp:∀ p8 p7 p9 uq,Y=.iW p8 p7 p9 uq->PR gh.S w (a.eval x) (.iW p8 p7 p9 uq):=by
    rintro _ _ _ _ rfl
    generalize a.eval x=V at hm;cases (hm:VR gh s.H.length w V (.iW _ _ _ _)) with
    | plain _ _ h=>exact h
   unfold yU at dF;split at dF
   ·obtain⟨h1,dF⟩:=al dF
    injection dF with dF
    subst dF;simp only[auT,iE,au1,avB] at h1;obtain⟨⟨rfl,rfl⟩,rfl⟩:=h1;exact DF (hp _ _ _ _ rfl)
   ·obtain⟨aZ,tE⟩:=VR.pC (hm:VR gh s.H.length w (a.eval x) (.mref _))
    split at dF
    ·rename_i hH
     obtain⟨h1,dF⟩:=al dF;injection dF with dF
     subst dF;simp only[auT,iE,au1,avB] at h1;obtain⟨⟨rfl,rfl⟩,rfl⟩:=h1;obtain⟨E,ck,hb,hR⟩:=DE (hW.more _ _ hH).1;exact⟨_,E,ck,tE,hb,hR⟩
    ·rename_i hH
     obtain⟨h1,dF⟩:=al dF;injection dF with dF
     subst dF;simp only[auT,iE,au1,avB] at h1;obtain⟨⟨rfl,rfl⟩,rfl⟩:=h1;obtain⟨b,E,ck,hv,hb,hR⟩:=DF (n:=s.H.length) (hW.more _ _ hH:PR gh.S w _ _);exact⟨b,E,ck,tE.trans hv,hb,hR⟩
    ·cases dF
   ·cases dF
  obtain⟨b,E,ck,tE,hb,hR⟩:=key;exact fin tE (KZ hT hk vj hl zj hb hR hf ok)
def find_eq:∀ {ks:List CK} {kc:List AV} {es:List (List AV)} {i:Nat} {r:List AV},dX ks kc es=some (some i)->es[i]?=some r->cD ks kc r=some true
 | ks,kc,[],i,r,h,_=>by simp[dX] at h
 | ks,kc,q :: es,i,r,h,hr=>by
  simp only[dX,auQ] at h;obtain⟨b,hb,h⟩:=h;cases b with
  | true=>simp at h;subst h;simp at hr;subst hr;exact hb
  | false =>
   simp only[cond_false,auP] at h;obtain⟨o,ho,h⟩:=h;cases o with
   | none=>simp at h
   | some j=>simp at h;subst h;exact find_eq ho (cT hr)
theorem FU{n m:Nat}{c:CK}{u:Value}{x y:AV}(hu:VR gh n w u x)(hv:PR gh.S w v y)(h:cD [c] [x] [y]=some true):Instr.sameBits m v u=true:=by
 cases c<;>cases x<;>try (cases h;done)
 all_goals (cases y<;>try (cases h;done))
 ·obtain rfl:=hu.lW
  cases hv;simp[cD] at h;cases m<;>simp[Instr.sameBits,h]
 ·obtain rfl:=hu.kC
  cases hv;simp only[cD] at h;obtain⟨h0,h⟩:=al h;simp at h h0;cases m<;>simp[Instr.sameBits,h,h0]
 ·obtain⟨p,rfl,rfl⟩:=hu.kE
  cases hv with
  | str q _ hq =>
   simp[cD] at h;have:q=p:=by
    cases p;cases q
    congr 1
    exact awQ (by rw[hq];simp at h ⊢;rw[h])
   subst this;have hb:(q==q)=true:=show (q.data==q.data)=true by simp
   cases m<;>simp[Instr.sameBits,hb]
theorem Gd:∀ {ks:List CK} {X Y:List AV},cD ks X Y=some true->∀ (j:Nat) (c:CK),ks[j]?=some c->∃ x y,X[j]?=some x/\Y[j]?=some y/\cD [c] [x] [y]=some true
 | [],X,Y,h,j,c,hj=>by simp at hj
 | c0 :: ks,X,Y,h,j,c,hj=>by
  have one:∀ (x y:AV) (X' Y' : List AV) (e:Bool),X=x :: X'->Y=y :: Y'->cD [c0] [x] [y]=some e->(cD ks X' Y').map (e&&·)=some true->∃ x y,X[j]?=some x/\Y[j]?=some y/\cD [c] [x] [y]=some true:=by
   rintro x y X' Y' e rfl rfl h1 h2
   simp only[auP,auT] at h2;obtain⟨b,hb,rfl,rfl⟩:=h2;cases j with
   | zero=>simp at hj;subst hj;exact⟨x,y,rfl,rfl,h1⟩
   | succ j =>
    obtain⟨x',y',k1,k2,k3⟩:=Gd hb j c (cT hj)
    grind
  cases c0<;>cases X<;>try (cases h;done)
  all_goals (rename_i x X';cases x<;>try (cases h;done))
  all_goals (cases Y<;>try (cases h;done))
  all_goals (rename_i y Y';cases y<;>try (cases h;done))
  ·exact one _ _ _ _ _ rfl rfl (by simp[cD]) h
  ·simp only[cD] at h
   obtain⟨h0,h⟩:=al h;exact one _ _ _ _ _ rfl rfl (by simp only[cD,h0,cond_true];simp) h
  ·exact one _ _ _ _ _ rfl rfl (by simp[cD]) h
theorem Sp(hK:Hg P kt ks ka){n:Nat}(hk:VR gh n w kv k)(vj:k.cells=some kc)(hl:kc.length=ks.length)(zj:ka=k.isAgg)
  {v:Value} {r:List AV} (hv:NW gh.S w ks.length ka v r) (he:cD ks kc r=some true):Instr.sameBits 10000 v kv=true:=by
 obtain⟨f,rfl,hf⟩:=hv;have Qo:=Gd he;cases ka with
 | false =>
  have h1:=hK.kz rfl;obtain⟨c,rfl⟩:=awd.1 h1;have adD:kc=[k]:=by
   cases k<;>first|(cases zj;done)|(injection vj with vj;exact vj.symm)|(cases vj;done)
  subst adD;obtain⟨x,y,k1,k2,k3⟩:=Qo 0 c rfl;simp at k1;subst k1;exact FU hk (hf 0 y k2 ag) k3
 | true =>
  obtain⟨C,rfl⟩:=zB hk zj;have hC:Row gh n w C kc:=by
   rcases vK hk vj with ⟨C',e,_,hr⟩|⟨_,h1⟩
   ·grind
   ·simp[Value.oneCell'] at h1
  show Instr.sameBits (9999+1) (.agg ((List.range ks.length).map f).toArray) (.agg C)=true
  simp only[Instr.sameBits,auT,avB,auX];refine⟨by simp[hC.1,hl],fun p hp=>?_⟩
  obtain⟨j,hj⟩:=avl hp;rw[awY] at hj;obtain⟨h1,h2⟩:=hj;simp only[List.getElem?_map,auP] at h1;obtain⟨i,hi,RE⟩:=h1;obtain⟨aZ,hij⟩:=auU.1 hi;simp at aZ hij;subst hij;have hc:ks[j]?=some ks[j]:=auS aZ;obtain⟨x,y,k1,k2,k3⟩:=Qo j _ hc;have hu:=hC.2 j p.2 x (cT h2) k1
  grind [FU]
def Hb{n:Nat}{x:AV}(h:VR gh n w v x)(hc:x.cells=some cs):v=tS x.isAgg cs.length (fun j=>v.cells.getD j undef)/\∀ (j:Nat) (y:AV),cs[j]?=some y->VR gh n w (v.cells.getD j undef) y/\(v.cells.getD j undef).oneCell'=true:=by
 have hr:=vd h hc;refine⟨?_,fun j y hj=>?_⟩
 ·rcases vK h hc with ⟨C,rfl,rfl,bU⟩|⟨rfl,iw⟩
  ·simp only[tS,AV.isAgg,cond_true,Value.cells]
   congr 1
   refine Array.ext (by simp[bU.1]) (fun i h1 h2=>by simp[h1])
  ·have Lv:x.isAgg=false:=by
    cases x<;>first|rfl|skip
    obtain⟨C,rfl,_⟩:=h.mf;simp[Value.oneCell'] at iw
   have hv:v.cells=#[v]:=by cases v<;>first|rfl|(simp[Value.oneCell'] at iw)
   simp[tS,Lv,hv]
 ·have aZ:j<v.cells.size:=by rw[hr.1];exact (auU.1 hj).1
  have hv:v.cells[j]?=some v.cells[j]:=au' aZ;obtain⟨h1,h2⟩:=hr.2 j _ y hv hj
  simp_all
end
end
section
section
variable {P:Program}{G:Nat->List AV}{base nt:Nat}{L:List Nat}{gh:Gh}{w w' : World}{a:Act}{s:AS}{H:ae}
theorem vq{agg:Bool}{n:Nat}{f:Nat->Value}(h:∀ j,j<n->f j=g j)(hn:agg=false->0<n):tS agg n f=tS agg n g:=by
 cases agg with
 | true =>
  simp only[tS,cond_true]
  simp_all
 | false=>exact h 0 (hn rfl)
def oJ(E:Array MapEntry)(ck:Nat)(o:Option Nat)(kv vv:Value):Array MapEntry × Nat :=
 match o with
 | none=>(E.push { key:=kv,val:=vv,born:=ck },ck+1)
 | some i=>(E.modify i fun e=>{ e with key:=kv,val:=vv },ck)
def VM{n:Nat}{t:TypeId}(hT:LA P t kt et ks ka va vz zv zero){vv:Value}(hk:VR gh n w kv k)(vj:k.cells=some kc)(hl:kc.length=ks.length)(zj:ka=k.isAgg)
  {b:Nat} {E:Array MapEntry} {ck:Nat} {es:List (List AV)} (hb:w.heap[b]?=some (.map E ck)) (hR:Rows gh n w E ks.length ka va es) {o:Option Nat} (hf:dX ks kc es=some o) :
  (Instr.mapUpdate t (.map (some b)) kv vv).run P w=.ok () (xt w b (oJ E ck o kv vv).1 (oJ E ck o kv vv).2):=by
 have xK:=Af hT.key hk vj hl zj false;have RE:=DG hT.key hk vj hl zj (l:=E.toList) (cT hR.size) (fun i e r h1 h2=>hR.key i e r (cT h1) h2) hf
 cases o with
 | none =>
  have hs:=DH (P:=P) (w:=w) (E':=E.push { key:=kv,val:=vv,born:=ck }) (ck':=ck+1) hb;simp[Instr.mapUpdate,run_underlying hT.ht,getObj,Sem.run,hb];simp[xK,RE,oJ];exact hs
 | some i =>
  have hi:=BD hf;have hiE:i<E.size:=by rw[hR.size];exact hi
  have hE:E[i]?=some E[i]:=au' hiE;have he:es[i]?=some es[i]:=auS hi;have ah8:=Sp hT.key hk vj hl zj (hR.key i _ _ hE he) (find_eq hf he);have hs:=DH (P:=P) (w:=w) (E':=E.modify i fun e=>{ e with key:=kv,val:=vv }) (ck':=ck) hb
  simp[Instr.mapUpdate,run_underlying hT.ht,getObj,Sem.run,hb];simp only[au2] at RE;simp[xK,RE,oJ,hiE,Instr.keyThatStays,ah8];exact hs
theorem afX{n kz:Nat}{E:Array MapEntry}{f:Nat->Nat->Value}(hW:bf G base H gh w)(hκ:gh.κ b=.hb l)(hS:∀ o,¬ gh.S b o)(hb:w.heap[b]?=some (.map E ck))(hE:I7 E ck kz ka va es f)
  (h1:∀ (i j:Nat) (r:List AV) (x:AV),es[i]?=some r->r[j]?=some x->j<kz->PR gh.S w (f i j) x)
  (h2:∀ (i j:Nat) (r:List AV) (x:AV),es[i]?=some r->r[j]?=some x->kz<=j->(f i j).oneCell'=true/\(va=true->VR gh n w (f i j) x)/\CR gh n w (.hs l i) (f i j) x)
  {kc vc:List AV} {fk fv:Nat->Value} (hkz:kc.length=kz) (zi:ka=false->kz=1) (X8:va=false->vc.length=1) (MB:∀ (j:Nat) (x:AV),kc[j]?=some x->PR gh.S w (fk j) x)
  {o:Option Nat} (ho:∀ i,o=some i->i<es.length) (hvv:∀ (j:Nat) (x:AV),vc[j]?=some x->(fv j).oneCell'=true/\(va=true->VR gh n w (fv j) x)/\CR gh n w (.hs l (o.getD es.length)) (fv j) x) :
  FI gh n (xt w b (oJ E ck o (tS ka kz fk) (tS va vc.length fv)).1 (oJ E ck o (tS ka kz fk) (tS va vc.length fv)).2) b (.hb l) (fun i=>.hs l i) kz ka va (vR es o (kc++vc)):=by
 have st:=Kw (E':=(oJ E ck o (tS ka kz fk) (tS va vc.length fv)).1) (ck':=(oJ E ck o (tS ka kz fk) (tS va vc.length fv)).2) hW hb hS n;rw[hκ] at st
 let idx:=o.getD es.length
 let f' : Nat->Nat->Value:=fun i j=>if i=idx then (if j<kz then fk j else fv (j-kz)) else f i j
 have bU:∀ i r,(vR es o (kc++vc))[i]?=some r->(i=idx/\r=kc++vc)\/(i≠idx/\es[i]?=some r):=by
  intro i r hr;cases o with
  | none =>
   simp only[vR] at hr
   grind
  | some i0 =>
   simp only[vR] at hr
   grind
 have XY:kz<=(kc++vc).length/\(ka=false->kz=1)/\(va=false->(kc++vc).length=kz+1)/\tS ka kz fk=tS ka kz (f' idx)/\tS va vc.length fv=tS va ((kc++vc).length-kz) (fun j=>f' idx (kz+j)):=by
  grind [vq]
 refine⟨hκ,hS,_,_,f',K8 hb,?_,fun i j r x hi hj hl=>?_,fun i j r x hi hj hl=>?_⟩
 ·cases o with
  | none =>
   refine⟨by simp[oJ,vR,hE.size],by simp[oJ,hE.clk],fun i e he=>?_,fun i e he=>?_,fun i j e e' he yw xJ=>?_,fun i e r he hr=>?_⟩
   ·simp only[oJ] at he
    rw[awy] at he;split at he
    ·rename_i RG;injection he with he;subst he;rw[RG];exact hE.clk
    ·exact hE.at' i e he
   ·simp only[oJ] at he ⊢
    rw[awy] at he;split at he
    ·grind
    ·have:=hE.born i e he;omega
   ·simp only[oJ] at he yw
    rw[awy] at he yw;split at he<;>split at yw
    ·omega
    ·injection he with he;subst he
     have:=hE.born j e' yw
     simp only at xJ;omega
    ·injection yw with yw;subst yw
     have:=hE.born i e he
     simp only at xJ;omega
    ·exact hE.apart i j e e' he yw xJ
   ·simp only[oJ] at he
    rw[awy] at he
    rcases bU i r hr with ⟨hi,rfl⟩|⟨hi,hr⟩
    ·have j8:i=es.length:=hi
     rw[if_pos (by rw[hE.size];exact j8)] at he
     grind
    ·have j8:i≠es.length:=hi
     rw[if_neg (by rw[hE.size];exact j8)] at he
     obtain⟨k1,k2,k3,k4,k5⟩:=hE.row i e r he hr
     grind [vq]
  | some i0 =>
   have zR:∀ {i:Nat} {e:MapEntry},(E.modify i0 fun e=>{ e with key:=tS ka kz fk,val:=tS va vc.length fv })[i]?=some e->∃ e0,E[i]?=some e0/\e=if i=i0 then { e0 with key:=tS ka kz fk,val:=tS va vc.length fv } else e0:=by
    intro i e he;rw[Array.getElem?_modify] at he;split at he
    ·rename_i hii
     simp only[auP] at he;obtain⟨e0,h0,rfl⟩:=he;exact⟨e0,h0,by rw[if_pos hii.symm]⟩
    ·rename_i hii
     exact⟨e,he,by rw[if_neg (awf hii)]⟩
   have Oy:∀ {i:Nat} {e e0:MapEntry},(e=if i=i0 then { e0 with key:=tS ka kz fk,val:=tS va vc.length fv } else e0)->e.born=e0.born:=by
    intro i e e0 h;rw[h];split<;>rfl
   refine⟨by simp[oJ,vR,hE.size],by simp[oJ,hE.clk],fun i e he=>?_,fun i e he=>?_,fun i j e e' he yw xJ=>?_,fun i e r he hr=>?_⟩
   ·obtain⟨e0,h0,h⟩:=zR he
    rw[Oy h];exact hE.at' i e0 h0
   ·obtain⟨e0,h0,h⟩:=zR he
    rw[Oy h];exact hE.born i e0 h0
   ·obtain⟨e0,h0,h⟩:=zR he
    obtain⟨e0',XJ,h'⟩:=zR yw;rw[Oy h,Oy h'] at xJ;exact hE.apart i j e0 e0' h0 XJ xJ
   ·obtain⟨e0,h0,h⟩:=zR he
    rcases bU i r hr with ⟨hi,rfl⟩|⟨hi,hr⟩
    ·have j8:i=i0:=hi
     rw[if_pos j8] at h;subst h;subst hi;exact XY
    ·have j8:i≠i0:=hi
     rw[if_neg j8] at h;subst h;obtain⟨k1,k2,k3,k4,k5⟩:=hE.row i e r h0 hr;refine⟨k1,k2,k3,?_,?_⟩
     ·rw[k4];refine vq (fun j _=>?_) (fun h=>by rw[k2 h];omega)
      simp only[f',if_neg hi]
     ·rw[k5];refine vq (fun j _=>?_) (fun h=>by rw[k3 h];omega)
      simp only[f',if_neg hi]
 ·rcases bU i r hi with ⟨rfl,rfl⟩|⟨dp,hr⟩
  ·rw[au3 ah] at hj
   simp only[f',if_pos rfl,if_pos hl];exact (MB j x hj).mono st.S st.cell st.mp
  ·simp only[f',if_neg dp]
   exact (h1 i j r x hr hj hl).mono st.S st.cell st.mp
 ·rcases bU i r hi with ⟨rfl,rfl⟩|⟨dp,hr⟩
  ·rw[List.getElem?_append_right ah,hkz] at hj
   have e:¬ j<kz:=ah;simp only[f',if_pos rfl,if_neg e];obtain⟨k1,k2,k3⟩:=hvv (j-kz) x hj;exact⟨k1,fun h=>(k2 h).mono st (Nat.le_refl _),k3.mono st (Nat.le_refl _) ag⟩
  ·simp only[f',if_neg dp]
   obtain⟨k1,k2,k3⟩:=h2 i j r x hr hj hl;exact⟨k1,fun h=>(k2 h).mono st (Nat.le_refl _),k3.mono st (Nat.le_refl _) ag⟩
def uz{x:AV}(h:x.plain=true):aX l x=true:=by
 cases x<;>first|exact h|(simp[AV.plain] at h;done)|(simp only[aX,AV.drop];exact h)|(simp[aX,AV.drop,AV.plain] at h ⊢;done)|skip
 rename_i f fs cs
 cases fs<;>cases cs<;>first|rfl|(simp[AV.plain] at h)
theorem Of(hW:bf G base s.H gh w)(hF:FR L nt gh w a s){t:TypeId}(hT:LA P t kt et ks ka va vz zv zero){xm xk:Operand}{ym yk:aE}{s':AS}
  (ho:o.op=.mapUpdate t xm xk xv\/o.op=.insert t xm xk xv) (hcm:ar nt xm=some ym) (hck:ar nt xk=some yk) (hcv:ar nt xv=some yv)
  (he:sx s ks.length ka va vz ks (ym.addr G s.T) (yk.eval G s.T) (yv.eval G s.T)=some s') (hd:∀ k,o.dst=some k->k<nt) :
  ∃ v' bt w',wJ P a o w v' w'/\Out G base nt L gh w a s o.dst .undef (s'.bC yv) v' bt w':=by
 have hm:=arg_val hW hF hcm;unfold sx at he;generalize hY:ym.addr G s.T=Y at hm he;cases Y<;>simp only at he<;>try (cases he;done)
 rename_i l;obtain⟨aZ,tE⟩:=VR.pC (hm:VR gh s.H.length w (a.eval xm) (.mref l));split at he
 ·rename_i p8 p7 p9 es hH
  simp only[auQ] at he;obtain⟨kc,vj,vc,X9,lO⟩:=he;obtain⟨h0,iY⟩:=al lO;clear lO;simp only[auT,iE,au1,avB] at h0;obtain⟨⟨⟨⟨⟨⟨⟨⟨hl,Wz⟩,rfl⟩,rfl⟩,rfl⟩,zj⟩,hva⟩,abk⟩,aa4⟩:=h0;simp only[auP] at iY;obtain⟨oi,hf,rfl⟩:=iY;have am' : aM (yk.eval G s.T)=true:=by rw[<- kS];exact jO vj
  have ana:aM (yv.eval G s.T)=true:=jO X9;have zh:=cX hW hF hck rfl am';obtain⟨og,tD,Bc,HH,V7,oy⟩:=qR hW hF hcv ana (.hs l (oi.getD es.length)) ag;have hρ:og.ρ l=gh.ρ l:=V7.ρ l aZ;have hk:=zh.mono V7 (Nat.le_refl _);obtain⟨⟨hκ,hS,E,ck,f,hb,hE,h1,h2⟩,fq⟩:=tD.more l _ hH;obtain⟨E2,W7,j7,hR⟩:=DE (tD.more l _ hH).1;have hEE:E2=E/\W7=ck:=by
   grind
  obtain⟨rfl,rfl⟩:=hEE;obtain⟨Wv,XT⟩:=Hb hk vj;have iQ:∃ fv:Nat->Value,a.eval xv=tS va vc.length fv/\∀ (j:Nat) (x:AV),(cond va (vc.map AV.drop) vc)[j]?=some x->(fv j).oneCell'=true/\(va=true->VR og s.H.length w (fv j) x)/\CR og s.H.length w (.hs l (oi.getD es.length)) (fv j) x:=by
   cases aiY:va with
   | true =>
    have Lv:(yv.eval G s.T).isAgg=true:=by rw[<- hva,aiY]
    have T7:VR og s.H.length w (a.eval xv) (yv.eval G s.T):=by
     rcases oy with h|⟨e,h,_⟩
     ·exact h
     ·rw[h] at Lv;cases Lv
    obtain⟨X8,RM⟩:=Hb T7 X9;rw[Lv] at X8;refine⟨_,X8,fun j x hj=>?_⟩
    simp only[cond_true,List.getElem?_map,auP] at hj;obtain⟨y,hy,rfl⟩:=hj;obtain⟨m1,m2⟩:=RM j y hy;exact⟨m2,fun _=>m1.dropped,.inl m1.dropped⟩
   | false =>
    have Lv:(yv.eval G s.T).isAgg=false:=by rw[<- hva,aiY]
    have aoi:vc=[yv.eval G s.T]:=by
     generalize yv.eval G s.T=V at X9 Lv
     cases V<;>first|(cases Lv;done)|(injection X9 with X9;exact X9.symm)|(cases X9;done)
    refine⟨fun _=>a.eval xv,by simp[tS],fun j x hj=>?_⟩
    rw[aoi] at hj;cases j with
    | succ j=>simp at hj
    | zero =>
     simp at hj;subst hj;refine⟨?_,(fun h=>by cases h),oy⟩
     rcases oy with h|⟨e,_,hp,_⟩
     ·exact h.gm (fun cs e=>by rw[e] at Lv;cases Lv) (fun cs e=>by rw[e] at X9;cases X9)
     ·exact hp.gm
  obtain⟨fv,hvv,Ya⟩:=iQ;have Gn:(cond va (vc.map AV.drop) vc).length=vc.length:=by cases va<;>simp
  have aok:va=false->(cond va (vc.map AV.drop) vc).length=1:=fun h=>by rw[Gn,Wz];exact hT.vz1 h
  have fe:=VM (vv:=a.eval xv) hT hk vj hl zj hb hR hf;have ans:a.eval xk=tS ka ks.length (fun j=>(a.eval xk).cells.getD j undef):=by rw[zj,<- hl];exact Wv
  have hMA:=afX (n:=s.H.length) (l:=l) (fk:=fun j=>(a.eval xk).cells.getD j undef) (fv:=fv) (vc:=cond va (vc.map AV.drop) vc) (o:=oi) tD hκ hS hb hE h1 h2 hl (fun h=>hT.key.kz h) aok
   (fun j x hj=>(XT j x hj).1.l8 (auX.1 aa4 x (au0 hj))) (fun i hi=>by subst hi;exact BD hf) Ya
  rw[Gn,<- ans,<- hvv] at hMA;have Ai:=Kw (E':=(oJ E2 W7 oi (a.eval xk) (a.eval xv)).1) (ck':=(oJ E2 W7 oi (a.eval xk) (a.eval xv)).2) tD hb hS s.H.length;rw[hκ] at Ai;have Tv:((vR es oi (kc++cond va (vc.map AV.drop) vc)).all fun r=>r.all (aX l))=true:=by
   have jX:(kc++cond va (vc.map AV.drop) vc).all (aX l)=true:=by
    rw[awI,auT];refine⟨auX.2 fun x hx=>uz (auX.1 aa4 x hx),?_⟩
    cases va with
    | false=>exact abk
    | true =>
     refine auX.2 fun x hx=>?_
     obtain⟨y,hy,rfl⟩:=List.mem_map.1 hx;exact qC (auX.1 abk y hy)
   refine auX.2 fun r hr=>?_
   cases oi with
   | none =>
    simp only[vR,auY,ava] at hr
    rcases hr with hr|rfl
    ·exact auX.1 fq r hr
    ·exact jX
   | some i =>
    simp only[vR] at hr
    rcases awC hr with hr|rfl
    ·exact auX.1 fq r hr
    ·exact jX
  have j9:(xt w (og.ρ l) (oJ E2 W7 oi (a.eval xk) (a.eval xv)).1 (oJ E2 W7 oi (a.eval xk) (a.eval xv)).2).heap.size=w.heap.size:=by simp[xt]
  have HK:=tD.BT (o:=.map ks.length ka va (vR es oi (kc++cond va (vc.map AV.drop) vc))) Ai aZ (by intro k hk;simp[hk]) (fun b o ho=>by rw[j9];exact tD.pN b o ho) (fun b hb=>by rw[j9];exact tD.qN b hb) (fun _ _ h=>by cases h) ⟨hMA,Tv⟩ (fun _ _ _ h=>.inl h)
  have hS:=iZ s yv;have AJ:Ext s.H.length og w og (xt w (og.ρ l) (oJ E2 W7 oi (a.eval xk) (a.eval xv)).1 (oJ E2 W7 oi (a.eval xk) (a.eval xv)).2):=⟨Ai.mono (fun r h=>by rw[h];simp[rP]),fun b hb=>hb⟩
  have J0:FR L nt og _ a ((s.bC yv).iF ⟨s.H.set l (.map ks.length ka va (vR es oi (kc++cond va (vc.map AV.drop) vc))),l⟩):=Bc.grown (by rw[hS.1];exact Ai) (fun i=>⟨ag,ag,ag⟩) (by rw[hS.1];simp)
  refine⟨undef,og,xt w (og.ρ l) (oJ E2 W7 oi (a.eval xk) (a.eval xv)).1 (oJ E2 W7 oi (a.eval xk) (a.eval xv)).2,.inr ⟨?_,rfl⟩,?_⟩;rotate_left
  ·rw[Ag]
   exact Out.skip (s1:=(s.bC yv).iF ⟨s.H.set l (.map ks.length ka va (vR es oi (kc++cond va (vc.map AV.drop) vc))),l⟩) HK J0 (HH.trans AJ (Nat.le_refl _)) hd
  ·rcases ho with ho|ho<;>simp[execOp,ho,tE,<- hρ,fe]
 ·cases he
end
end
section
section
variable {P:Program}{G:Nat->List AV}{base nt:Nat}{L:List Nat}{gh:Gh}{w w' : World}{a:Act}{s:AS}{H:ae}
def Ix{c:Call}{t:TypeId}(ho:o.op=.call c)(jE:c.callee=.builtin .len)(gp:c.args.toList=[x])(mY:c.argTypes.toList=[t])
  (fe:(Builtin.len_ #[t] o.type #[a.eval x]).run P w=.ok v w'):(execOp a.eval o).run P w=.ok (.value v) w':=by
 have e1:c.args=#[x]:=by apply awQ;simpa using gp
 have e2:c.argTypes=#[t]:=by apply awQ;simpa using mY
 unfold execOp;simp only[ho,resolve,jE,e1,e2,invoke,builtin,Sem.run_bind,Sem.run_pure,Result.andThen_ok,awR,au9,avC,fe]
def YK(hW:bf G base s.H gh w)(hF:FR L nt gh w a s)(hc:ar nt x=some y):(y.addr G s.T=.kq->a.eval x=.map none) /\
  (∀ kz ka va es,y.addr G s.T=.iW kz ka va es->PR gh.S w (a.eval x) (.iW kz ka va es))/\∀ l,y.addr G s.T=.mref l->l<s.H.length/\a.eval x=.map (some (gh.ρ l)):=by
 have hm:=arg_val hW hF hc;refine⟨fun h=>?_,fun kz ka va es h=>?_,fun l h=>?_⟩
 ·rw[h] at hm
  generalize a.eval x=V at hm;cases (hm:VR gh s.H.length w V .kq) with
  | plain _ _ h=>cases h;rfl
 ·rw[h] at hm
  generalize a.eval x=V at hm;cases (hm:VR gh s.H.length w V (.iW _ _ _ _)) with
  | plain _ _ h=>exact h
 ·rw[h] at hm
  exact VR.pC hm
def Tq(hW:bf G base s.H gh w)(hF:FR L nt gh w a s)(hc:ar nt x=some y){kz:Nat}(h:y.addr G s.T=.mn kz ka va es):PR gh.S w (a.eval x) (.mn kz ka va es):=by
 have hm:=arg_val hW hF hc;rw[h] at hm;generalize a.eval x=V at hm;cases (hm:VR gh s.H.length w V (.mn _ _ _ _)) with
 | plain _ _ h=>exact h
end
end
end Go.Abs
end
