/-
  A part of the proof of SyntaxErrors: AbsOps10, AbsOps11, AbsOps12, AbsCall, AbsMap1, AbsMap2, AbsMap3, AbsMap4, AbsMap5.
-/
import Derived.Deep.Upon
import Derived.Lib.FrozenHead
import Derived.Test.YtbadnagdfefbnaaGreatDoorQ03
set_option linter.unusedSimpArgs false
set_option linter.unusedVariables false
set_option linter.defProp false
noncomputable section
namespace Go.Abs
variable {k:AV}{E':Array MapEntry}{C C':Array Value}{em ka va:Bool}{br:Gh}{E F es f:List (List AV)}{cs kc vs zero:List AV}{ks:List CK}{news:List Value}{b bytes ck ck' off sCap sLen sz vz:Nat}{fr:Nat × Nat}{S:Nat->Nat->Prop}{g:Nat->Value}{q:Nat->bM}{o:Oper}{x xv:Operand}{s':Option AS}{ch:Option fP}{e et kt tx ty u:TypeId}{V X kv v z zv:Value}{y yv:aE}{p:bM}{cf:gz}
section
section
variable {P:Program}{G:Nat->List AV}{base nt:Nat}{L:List Nat}{gh:Gh}{w w' : World}{a:Act}{s:AS}{H:ae}
theorem rE(hW:a8 G base s.H gh w)(hF:FR L nt gh w a s)(hc:av nt x=some y)(hf:aN (y.eval G s.T)=true)(p:bM)(hp:p≠.outer) :
  ∃ br,a8 G base s.H br w/\FR L nt br w a (s.bG y)/\Ext s.H.length gh w br w/\Step (fun r=>∃ t,r=.sl t) s.H.length gh w br w/\CR br s.H.length w p (a.eval x) (y.eval G s.T):=by
 have gJ:=fun b hb=>hW.cB (gh:=gh) b hb
 have stay:s.bG y=s->VR gh s.H.length w (a.eval x) (y.eval G s.T)->∃ br,a8 G base s.H br w/\FR L nt br w a (s.bG y)/\Ext s.H.length gh w br w/\Step (fun r=>∃ t,r=.sl t) s.H.length gh w br w/\CR br s.H.length w p (a.eval x) (y.eval G s.T):=by
  intro h1 h2;rw[h1];exact⟨gh,hW,hF,Ext.refl _ _ _ gJ,Step.refl _ _ _ _ gJ,.inl h2⟩
 cases y with
 | tmp t =>
  obtain⟨rfl,ht⟩:=kR hc;have hd:=cU hW hF hc rfl hf;simp only[aE.eval] at hf hd stay ⊢;cases hT:s.T t with
  | slice e own =>
   cases own with
   | false =>
    rw[hT] at hd stay;exact stay (by simp[AS.bG,hT]) hd
   | true =>
    obtain⟨br,h1,h2,h3,h4,h5⟩:=ze hW hF ht hT p hp;refine⟨br,h1,?_,h3,h4.mono (fun r h=>⟨t,h⟩),h5⟩
    simpa [AS.bG,hT] using h2
  | _ =>
   rw[hT] at hd stay;exact stay (by simp[AS.bG,hT]) hd
 | xQ v =>
  refine stay rfl ?_;cases x with
  | tmp k =>
   simp only[av] at hc
   grind
  | const u =>
   simp only[av,au2] at hc;obtain⟨z,hz,h⟩:=hc;injection h with h
   subst h;exact kU hz
  | global g=>simp[av] at hc
  | func f=>simp[av] at hc
 | aY g =>
  refine stay rfl ?_;have:=cU hW hF hc rfl hf
  exact this
 | fn f =>
  refine stay rfl ?_;have:=cU hW hF hc rfl hf
  exact this
theorem VY{b:Nat} : ({ S:=fun b' o=>gh.S b' o\/(b'=b/\(fun _=>False) o),κ:=fun b'=>if b'=b then gh.κ b else gh.κ b',ρ:=gh.ρ } : Gh)=gh:=by
 obtain⟨S,κ,ρ⟩:=gh
 congr 1
 ·funext b' o
  simp
 ·funext b'
  grind
def nN(hW:a8 G base H gh w)(hb:w.heap[b]?=some (.cells C ty fr))(kj:C'.size=C.size)(di:∀ o,gh.S b o->C'[o]?=C[o]?)(n:Nat) :
  Step (fun r=>r=gh.κ b) n gh w gh (w.setRow b C'):=by
 have h:=sj hW hb kj (fun _=>False) di (gh.κ b) n
 rw[VY] at h;exact h
def DD(hW:a8 G base H gh w)(hb:w.heap[b]?=some (.cells C ty fr))(kj:C'.size=C.size)(di:∀ o,gh.S b o->C'[o]?=C[o]?)(h0:gh.κ b≠.none)(h1:gh.κ b≠.outer)(n:Nat) :
  Ext n gh w gh (w.setRow b C') :=
 ⟨(nN hW hb kj di n).mono (fun r h=>by rw[h];exact⟨h0,h1⟩),fun _ h=>h⟩
def gv(C:Array Value)(off:Nat)(D:Array Value):Array Value:=(C.toList.take off++D.toList++C.toList.drop (off+D.toList.length)).toArray
theorem lD{D:Array Value}(h:off+D.size<=C.size)(j:Nat):(gv C off D)[j]?=if off<=j/\j<off+D.size then D[j-off]? else C[j]?:=by
 have ain:min off C.size=off:=ah;unfold gv
 grind
def dL{D:Array Value}(h:off+D.size<=C.size):(gv C off D).size=C.size:=by
 unfold gv;simp;omega
def Be{t:TypeId}(hs:fC P t=some sz)(hb:w.heap[b]?=some (.cells C ty (0,0)))(hv:v.cells.size=sz)(gY:off+sz<=C.size)(iC:∀ u∈v.cells.toList,u.oneCell'=true) :
  (Instr.storeAt t (.pointer (some ⟨b,off,none⟩)) v).run P w=.ok () (w.setRow b (gv C off v.cells)):=by
 have h:=run_storeCells_at P b off ty v.cells.toList 0 C w hb dq iC;simp only[avG] at h;simp[Instr.storeAt,Instr.sureAddr,storeVar,fB hs,hv,h,gv]
def zP(hW:a8 G base H gh w){n:Nat}(hB:iT gh n w b p q cs){t:TypeId}(hs:fC P t=some sz)(Fz:vs.length=sz)(og:off+sz<=cs.length)
  (hv:v.cells.size=sz) (dr:∀ (j:Nat) (u:Value) (x:AV),v.cells[j]?=some u->vs[j]?=some x->u.oneCell'=true/\CR gh n w (q (off+j)) u x) (hq:∀ j,q j≠p) (hp:p≠.none/\p≠.outer) (m:Nat) :
  ∃ w',(Instr.storeAt t (.pointer (some ⟨b,off,none⟩)) v).run P w=.ok () w'/\Step (fun r=>r=p) m gh w gh w'/\Ext m gh w gh w'/\w'.heap.size=w.heap.size/\iT gh n w' b p q (putAt cs off vs):=by
 obtain⟨hκ,hS,C,ty,hb,hC,iL⟩:=hB;have mJ:∀ o,gh.S b o->(gv C off v.cells)[o]?=C[o]?:=fun o ho=>(hS o ho).elim
 have Oq:(gv C off v.cells).size=C.size:=dL ah;have st:=nN hW hb Oq mJ m;have stn:=nN hW hb Oq mJ n;have hE:=DD hW hb Oq mJ (by rw[hκ];exact hp.1) (by rw[hκ];exact hp.2) m
 rw[hκ] at st stn;have gY:off+v.cells.size<=C.size:=ah;refine⟨_,Be hs hb hv ah ?_,st,hE,ag,hκ,hS,_,ty,setRow_heap w b C _ ty _ hb,by rw[dL gY,si ah];exact hC,fun j u x Gk Br=>?_⟩
 ·intro u hu
  obtain⟨j,hj⟩:=avu hu;have Bq:v.cells[j]?=some u:=cY hj;have aZ:j<vs.length:=by rw[Fz,<- hv];exact (avc.1 Bq).1
  exact (dr j u _ Bq (au5 aZ)).1
 ·rw[lD gY] at Gk
  rw[vM ah] at Br;have e1:v.cells.size=vs.length:=ah;rw[e1] at Gk;split at Gk
  ·rename_i hc
   rw[if_pos hc] at Br;obtain⟨k1,k2⟩:=dr _ u x Gk Br;rw[show off+(j-off)=j by omega] at k2
   exact⟨k1,k2.mono stn (Nat.le_refl _) (hq j)⟩
  ·rename_i hc
   rw[if_neg hc] at Br;obtain⟨k1,k2⟩:=iL j u x Gk Br;exact⟨k1,k2.mono stn (Nat.le_refl _) (hq j)⟩
def yg{n:Nat}{x:AV}(h:CR gh n w (q off) v x)(hc:x.cells=some vs) :
  v.cells.size=vs.length/\∀ (j:Nat) (u:Value) (y:AV),v.cells[j]?=some u->vs[j]?=some y->u.oneCell'=true/\CR gh n w (q (off+j)) u y:=by
 rcases h with h|⟨e,rfl,Md,hO⟩
 ·have hr:=vn h hc
  exact⟨hr.1,fun j u y hu hy=>⟨(hr.2 j u y hu hy).2,.inl (hr.2 j u y hu hy).1⟩⟩
 ·have e1:vs=[.slice e true]:=by simpa [AV.cells] using hc.symm
  subst e1;have iC:=Md.gb;have:v.cells=#[v]:=by obtain⟨b,cap,_,_,_,_,_,rfl,_⟩:=hO;rfl
  rw[this];refine⟨rfl,fun j u y hu hy=>?_⟩
  cases j with
  | zero=>simp at hu hy;subst hu hy;exact⟨iC,.inr ⟨e,rfl,Md,hO⟩⟩
  | succ j=>simp at hu
def jV{x:AV}(h:x.cells=some vs):aN x=true:=by cases x<;>first|rfl|cases h
def jj(s:AS)(y:aE):(s.bG y).H=s.H/\(s.bG y).gen=s.gen/\(s.bG y).lo=s.lo:=by
 cases y with
 | tmp t=>simp only[AS.bG];split<;>exact⟨rfl,rfl,rfl⟩
 | _=>exact⟨rfl,rfl,rfl⟩
theorem O2(s:AS)(y:aE)(b:Nat)(h:∀ e,s.T b≠.slice e true):(s.bG y).T b=s.T b:=by
 cases y<;>simp only[AS.bG]
 rename_i t;split
 ·rename_i e hT
  by_cases hb:b=t
  ·grind
  ·simp[AS.cx,lr,hb]
 ·rfl
theorem sv(s:AS)(t:Nat)(h:∀ e,s.T t≠.slice e true):s.bG (.tmp t)=s:=by
 simp only[AS.bG]
def vT(s:AS)(t:Nat){e:List (List AV)}(h:s.T t=.slice e true):s.bG (.tmp t)=s.cx t (.slice e false):=by
 simp only[AS.bG,h]
theorem DP(s:AS)(y:aE)(b:Nat)(X:AV)(h:∀ e,s.T b≠.slice e true)(hX:∀ e,X≠.slice e true):(s.cx b X).bG y=(s.bG y).cx b X:=by
 cases y<;>try rfl
 rename_i t
 by_cases hb:t=b
 ·subst hb
  rw[sv s t h,sv _ t (by simpa [AS.cx,lr] using hX)]
 ·have e1:(s.cx b X).T t=s.T t:=by simp[AS.cx,lr,hb]
  by_cases ho:∃ e,s.T t=.slice e true
  ·obtain⟨e,ho⟩:=ho
   rw[vT s t ho,vT (s.cx b X) t (by rw[e1,ho])]
   simp only[AS.cx]
   congr 1
   funext k
   grind [lr]
  ·grind [sv]
def As(s:AS)(y:aE)(c:fP):(s.iK c).bG y=(s.bG y).iK c:=by
 cases y<;>simp only[AS.bG]
 rename_i t
 show (match s.T t with|.slice e true=>(s.iK c).cx t (.slice e false)|_=>s.iK c)=_
 cases hT:s.T t<;>try rfl
 rename_i e own;cases own<;>rfl
def Out.skip{s1:AS}{d:Option Nat}(hW:a8 G base s1.H br w')(hF:FR L nt br w' a s1)(hE:Ext s.H.length gh w br w')(hd:∀ k,d=some k->k<nt):Out G base nt L gh w a s d .undef s1 undef br w' :=
 Out.of (gen':=s1.gen) hW hF hE (Nat.le_refl _) hd (.inl rfl) (fun k hk=>.inl VR.undef)
theorem Q0{f:AV->Bool}(h1:cs.all f=true)(h2:vs.all f=true):(putAt cs off vs).all f=true:=by
 refine ava.2 fun x hx=>?_
 unfold putAt at hx
 grind
def S3(hW:a8 G base s.H gh w)(hF:FR L nt gh w a s){t:TypeId}{xa:Operand}{ya:aE}{s':AS}(ho:o.op=.store t xa xv)(Oh:av nt xa=some ya)(hcv:av nt xv=some yv)(hs:fC P t=some sz)
  (he:ax s sz (ya.addr G s.T) (yv.eval G s.T)=some s') (hd:∀ k,o.dst=some k->k<nt) :
  ∃ v' br w',wS P a o w v' w'/\Out G base nt L gh w a s o.dst .undef (s'.bG yv) v' br w':=by
 have ha:=arg_val hW hF Oh;unfold ax at he;split at he
 ·cases he
 rename_i vs Fz;obtain⟨hlen,he⟩:=al he;have hlen:vs.length=sz:=by simpa [iI] using hlen
 have JX:=jV Fz;generalize hY:ya.addr G s.T=Y at ha he;cases Y<;>simp only at he<;>try (cases he;done)
 case ref loc off =>
  obtain⟨aZ,tU⟩:=VR.kF (ha:VR gh s.H.length w (a.eval xa) (.ref loc off));split at he
  ·rename_i W9 cs hH
   obtain⟨h0,he⟩:=al he;injection he with he
   subst he;simp only[au6,avv] at h0;obtain⟨oz,tT,Bm,HD,Wn,oJ⟩:=rE hW hF hcv JX (.hs loc off) ag;have hρ:=Wn.ρ loc aZ;obtain⟨kj,dr⟩:=yg (q:=fun j=>.hs loc j) oJ Fz
   obtain⟨w',dO,Au,AT,pO,hB⟩:=zP (P:=P) tT (tT.boxes loc _ cs hH) hs hlen h0.1 ah dr ag ag s.H.length;have HG:=tT.Nk Au hH (by intro l hl;simp[hl]) (fun b o ho=>by rw[pO];exact tT.qa b o ho) (fun b hb=>by rw[pO];exact tT.ry b hb) hB (Q0 (tT.refs loc _ cs hH) h0.2) (fun _ _ h=>h) (si ah)
   have hS:=jj s yv;have JN:FR L nt oz w' a ((s.bG yv).iK ⟨s.H.set loc (.box W9 (putAt cs off vs)),loc⟩):=Bm.grown (by rw[hS.1];exact Au) (fun i=>⟨ag,ag,ag⟩) (by rw[hS.1];simp)
   refine⟨undef,oz,w',.inr ⟨?_,rfl⟩,?_⟩
   ·simp[execOp,ho,tU,<- hρ,dO]
   ·rw[As]
    exact Out.skip (s1:=(s.bG yv).iK ⟨s.H.set loc (.box W9 (putAt cs off vs)),loc⟩) HG JN (HD.trans AT (Nat.le_refl _)) hd
  ·rename_i cs hH
   obtain⟨h0,he⟩:=al he;injection he with he
   subst he;simp only[au6,avv] at h0;obtain⟨oz,tT,Bm,HD,Wn,oJ⟩:=rE hW hF hcv JX (.hs loc off) ag;have hρ:=Wn.ρ loc aZ;obtain⟨kj,dr⟩:=yg (q:=fun j=>.hs loc j) oJ Fz
   obtain⟨w',dO,Au,AT,pO,hB⟩:=zP (P:=P) tT (tT.more loc _ hH:iT oz s.H.length w (oz.ρ loc) (.hb loc) (fun j=>.hs loc j) cs) hs hlen h0.1 ah dr ag ag s.H.length
   have HG:a8 G base (s.H.set loc (.bZ (putAt cs off vs))) oz w':=tT.B5 Au aZ (by intro l hl;simp[hl]) (fun b o ho=>by rw[pO];exact tT.qa b o ho) (fun b hb=>by rw[pO];exact tT.ry b hb) (fun _ _ h=>by cases h) hB (fun _ _ _ h=>.inl h)
   have hS:=jj s yv;have JN:FR L nt oz w' a ((s.bG yv).iK ⟨s.H.set loc (.bZ (putAt cs off vs)),loc⟩):=Bm.grown (by rw[hS.1];exact Au) (fun i=>⟨ag,ag,ag⟩) (by rw[hS.1];simp)
   refine⟨undef,oz,w',.inr ⟨?_,rfl⟩,?_⟩
   ·simp[execOp,ho,tU,<- hρ,dO]
   ·rw[As]
    exact Out.skip (s1:=(s.bG yv).iK ⟨s.H.set loc (.bZ (putAt cs off vs)),loc⟩) HG JN (HD.trans AT (Nat.le_refl _)) hd
  ·cases he
 case lref b g off =>
  obtain⟨hb,RB,hr⟩:=(ha:_/\_/\_);split at he
  ·rename_i g' cs hT
   obtain⟨h0,he⟩:=al he;injection he with he
   subst he;simp only[au6,avv,iI,avf] at h0;obtain⟨⟨rfl,h0⟩,_⟩:=h0;obtain⟨k,hk,_⟩:=zp hF hb hT;have tU:=hr (by rw[hT];rfl) k hk
   obtain⟨oz,tT,Bm,HD,Wn,oJ⟩:=rE hW hF hcv JX (.sc b off) ag;have hS:=jj s yv;have CT:(s.bG yv).T b=.lbox g cs:=by rw[O2 _ _ _ (by rw[hT];simp),hT]
   obtain⟨k',tV,hB1⟩:=zp Bm hb CT;have Mj:k'=k:=by rw[hk] at tV;injection tV with h;injection h with h;injection h with h;exact h.symm
   subst Mj;rw[hS.1] at hB1;obtain⟨kj,dr⟩:=yg (q:=fun j=>.sc b j) oJ Fz
   obtain⟨w',dO,Au,AT,pO,hB⟩:=zP (P:=P) tT hB1 hs hlen h0 ah dr ag ag s.H.length;have HG:=tT.step Au ag (fun b o ho=>by rw[pO];exact tT.qa b o ho) (fun b hb=>by rw[pO];exact tT.ry b hb) (fun _ _ _ h=>.inl h)
   have JN:FR L nt oz w' a ((s.bG yv).cx b (.lbox g (putAt cs off vs))):=by
    refine Bm.cx (H':=(s.bG yv).H) (lo':=(s.bG yv).lo) (by rw[hS.1];exact Au) (Nat.le_refl _) (fun i hi=>⟨cY hi,ag,ag⟩) (.inl ⟨hb,by rw[CT];rfl⟩) (fun _=>⟨?_,k',hk,?_⟩)
    ·have h:=Bm.slot b hb
     rw[CT] at h;exact h.1
    ·rw[hS.1];exact hB
   refine⟨undef,oz,w',.inr ⟨?_,rfl⟩,?_⟩
   ·simp[execOp,ho,tU,dO]
   ·rw[DP _ _ _ _ (by rw[hT];simp) ag]
    exact Out.skip (s1:=(s.bG yv).cx b (.lbox g (putAt cs off vs))) (by show a8 G base (s.bG yv).H oz w';rw[hS.1];exact HG) JN (HD.trans AT (Nat.le_refl _)) hd
  ·cases he
 case eref b g i z off =>
  obtain⟨hb,RB,hr⟩:=(ha:_/\_/\_);split at he
  ·rename_i g' e hT
   obtain⟨h0,lZ⟩:=al he;have JZ:g=g':=by simpa [iI] using h0
   clear he;subst JZ;simp only[au3] at lZ;obtain⟨r,Oo,iZ⟩:=lZ;obtain⟨h1,he3⟩:=al iZ;injection he3 with he3
   subst he3;simp only[au6,avv,iI,avf] at h1;obtain⟨⟨hrz,og⟩,gW⟩:=h1;obtain⟨oz,tT,Bm,HD,Wn,oJ⟩:=rE hW hF hcv JX .none ag;have hS:=jj s yv;have CT:(s.bG yv).T b=.lsl g e:=by rw[O2 _ _ _ (by rw[hT];simp),hT]
   obtain⟨ad,cap,js,bX⟩:=qe Bm hb CT
   rcases bX with ⟨rfl,_⟩|⟨k,C,ty,lI,adQ,rfl,hκ,hS1,IP,hC,hl,Bv,iL⟩
   ·simp at Oo
   have tU:=hr (by rw[hT];rfl) k _ _ js
   have W6:lI=z:=by rw[<- hrz,Bv i r Oo]
   subst W6;have adG:=(au7.1 Oo).1;obtain⟨kj,dr⟩:=yg (q:=fun _=>.none) (off:=0) oJ Fz
   have aiG:∀ (j:Nat) (x:AV),(vs.map AV.drop)[j]?=some x->∃ u,(a.eval xv).cells[j]?=some u/\PR oz.S w u x:=by
    intro j x hx;simp only[List.getElem?_map,au2] at hx;obtain⟨y,hy,rfl⟩:=hx;have hj:j<(a.eval xv).cells.size:=by rw[kj];exact (au7.1 hy).1
    have hu:=avh hj;refine⟨_,hu,(dr j _ y hu hy).2.dropped.mh (ava.1 gW _ (List.mem_map.2 ⟨y,avb hy,rfl⟩))⟩
   have gY:i*lI+off+(a.eval xv).cells.size<=C.size:=by
    have h2:(i+1)*lI<=e.length*lI:=avg _ adG;have h3:e.length*lI<=cap*lI:=avg _ hl;rw[avV] at h2;omega
   have mJ:∀ o,oz.S k o->(gv C (i*lI+off) (a.eval xv).cells)[o]?=C[o]?:=fun o ho=>(hS1 o ho).elim
   have Au:=nN tT IP (dL gY) mJ s.H.length;have AT:=DD tT IP (dL gY) mJ (by rw[hκ];simp) (by rw[hκ];simp) s.H.length
   rw[hκ] at Au;have dO:=Be (P:=P) (w:=w) (off:=i*lI+off) hs IP (v:=a.eval xv) ah ah (fun u hu=>by
    obtain⟨j,hj⟩:=avu hu;have Bq:(a.eval xv).cells[j]?=some u:=cY hj;have aZ:j<vs.length:=by rw[<- kj];exact (avc.1 Bq).1
    exact (dr j u _ Bq (au5 aZ)).1)
   have HG:=tT.step Au ag (fun b o ho=>by simpa using tT.qa b o ho) (fun b hb=>by simpa using tT.ry b hb) (fun _ _ _ h=>.inl h)
   have hds:off+(vs.map AV.drop).length<=r.length:=dq;have JN:FR L nt oz (w.setRow k (gv C (i*lI+off) (a.eval xv).cells)) a ((s.bG yv).cx b (.lsl g (e.set i (putAt r off (vs.map AV.drop))))):=by
    refine Bm.cx (H':=(s.bG yv).H) (lo':=(s.bG yv).lo) (by rw[hS.1];exact Au) (Nat.le_refl _) (fun i hi=>⟨cY hi,ag,ag⟩) (.inl ⟨hb,by rw[CT];rfl⟩) (fun _=>⟨?_,?_⟩)
    ·have h:=Bm.slot b hb
     rw[CT] at h;exact h.1
    ·refine⟨some ⟨k,0,none⟩,cap,cY js,.inr ⟨k,_,ty,lI,(by intro h0;have:=awt List.length h0;simp at this;exact adQ this),rfl,hκ,hS1,setRow_heap w k C _ ty _ IP,by rw[dL gY,hC],cY hl,?_,?_⟩⟩
     ·intro i' r' IU
      rw[av2] at IU;split at IU
      ·rename_i hii
       injection IU with IU
       subst IU;rw[si hds];exact hrz
      ·exact Bv i' r' IU
     ·intro i' j r' x IU hj
      rw[lD gY];rw[av2] at IU;split at IU
      ·rename_i hii
       subst hii;injection IU with IU
       subst IU;rw[vM hds] at hj;have Fv:(vs.map AV.drop).length=(a.eval xv).cells.size:=by simp[kj]
       rw[Fv] at hj
       by_cases hc:off<=j/\j<off+(a.eval xv).cells.size
       ·rw[if_pos hc] at hj
        rw[if_pos ah];obtain⟨u,hu,hp⟩:=aiG _ x hj;refine⟨u,?_,hp.mono Au.S Au.cell Au.mp⟩;rw[show i*lI+j-(i*lI+off)=j-off by omega];exact hu
       ·rw[if_neg hc] at hj
        rw[if_neg ah];obtain⟨u,hu,hp⟩:=iL i j r x Oo hj;exact⟨u,hu,hp.mono Au.S Au.cell Au.mp⟩
      ·rename_i hii
       have wz:j<lI:=by rw[<- Bv i' r' IU];exact (au7.1 hj).1
       have dk:¬ (i*lI+off<=i' * lI+j/\i' * lI+j<i*lI+off+(a.eval xv).cells.size):=by
        rintro ⟨c1,c2⟩
        have:i=i':=by
         rcases axf i i' with h'|h'|h'
         ·have:(i+1)*lI<=i' * lI:=avg _ h'
          rw[avV] at this;omega
         ·exact h'
         ·have:(i' + 1)*lI<=i*lI:=avg _ h'
          rw[avV] at this;omega
        exact hii this
       rw[if_neg dk];obtain⟨u,hu,hp⟩:=iL i' j r' x IU hj;exact⟨u,hu,hp.mono Au.S Au.cell Au.mp⟩
   refine⟨undef,oz,w.setRow k (gv C (i*lI+off) (a.eval xv).cells),.inr ⟨?_,rfl⟩,?_⟩
   ·simp[execOp,ho,tU,dO]
   ·rw[DP _ _ _ _ (by rw[hT];simp) ag]
    exact Out.skip (s1:=(s.bG yv).cx b (.lsl g (e.set i (putAt r off (vs.map AV.drop))))) (by show a8 G base (s.bG yv).H oz _;rw[hS.1];exact HG) JN (HD.trans AT (Nat.le_refl _)) hd
  ·cases he
end
end
section
section
variable {P:Program}{G:Nat->List AV}{base nt:Nat}{L:List Nat}{gh:Gh}{w w' : World}{a:Act}{s:AS}{H:ae}
def Mg(h:gC sz f=true){r:List AV}(hr:f[0]?=some r):r.length=sz:=by
 unfold gC at h;cases f with
 | nil=>simp at hr
 | cons q f=>simp at hr;subst hr;simpa [iI] using h
def DZ{lI:Nat}(h:gC sz f=true)(bX:∀ (i:Nat) (r:List AV),f[i]?=some r->r.length=lI)(dk:f≠[]):lI=sz:=by
 cases f with
 | nil=>exact absurd rfl dk
 | cons q f=>rw[<- bX 0 q rfl];exact Mg h rfl
theorem At(h:PR S w V (.slice f false))(hk:(∃ e',P.underlying tx=some (.slice e'))\/P.underlying tx=some .string)(hh:gC sz f=true) :
  ∃ news:List Value,Src P sz tx V f.length news w/\jz S w sz news.toArray f /\
   ((V=.slice none 0 0/\f=[])\/∃ b o cap,V=.slice (some ⟨b,o,none⟩) f.length cap/\f.length<=cap/\∀ j,j<f.length*sz->S b (o+j)/\w.cell? ⟨b,o+j,none⟩=news[j]?):=by
 cases h with
 | dF=>exact⟨[],⟨hk,fun _=>rfl,run_firstCells_none w sz 0 0 0,run_firstCells_none w.drew sz 0 0 0,ag,fun _ h=>by cases h⟩,⟨ag,fun i r h=>by simp at h,fun i j r x h=>by simp at h⟩,.inl ⟨rfl,rfl⟩⟩
 | slice b o n cap lI _ fn hn kY bX di dr =>
  subst hn;have kj:f≠[]->lI=sz:=fun dk=>DZ hh bX dk
  let news:List Value:=(List.range (f.length*sz)).map fun k=>(w.cell? ⟨b,o+k,none⟩).getD undef
  have hlen:news.length=f.length*sz:=by simp[news]
  have key:∀ k,k<f.length*sz->∃ u,news[k]?=some u/\w.cell? ⟨b,o+k,none⟩=some u/\u.oneCell'=true/\S b (o+k)/\∀ r x,f[k / sz]?=some r->r[k % sz]?=some x->PR S w u x:=by
   intro k hk;obtain⟨h1,h2,h3⟩:=vg hk;have dk:f≠[]:=by rintro rfl;simp at h1
   have hr:=au5 h1;have hlr:f[k / sz].length=sz:=by rw[bX _ _ hr,kj dk]
   have hx:=au5 (show k % sz<f[k / sz].length by omega)
   grind
  have abl:∀ j u,news[j]?=some u->w.cell? ((⟨b,o,none⟩:Addr).add j)=some u:=by
   grind [addr_add]
  refine⟨news,⟨hk,fun _=>rfl,run_firstCells_some w sz _ ⟨b,o,none⟩ f.length cap news hlen abl,run_firstCells_some w.drew sz _ ⟨b,o,none⟩ f.length cap news hlen (cY abl),hlen,fun u hu=>?_⟩,⟨by simp[hlen],fun i r hr=>?_,fun i j r x hi hj=>?_⟩,.inr ⟨b,o,cap,rfl,kY,fun j hj=>?_⟩⟩
  ·grind
  ·grind
  ·have dk:f≠[]:=by rintro rfl;simp at hi
   grind [xE]
  ·grind
theorem Z6{q:ByteArray}{l:List UInt8}(hq:q.data.toList=l)(hk:(∃ e',P.underlying tx=some (.slice e'))\/P.underlying tx=some .string) :
  ∃ news:List Value,Src P 1 tx (.string q) l.length news w/\jz S w 1 news.toArray (l.map fun (b:UInt8)=>[AV.int .u8 b.toNat]):=by
 subst hq;have hl:q.data.toList.length=q.size:=ag;refine⟨byteCells q,?_,by simp[byteCells],fun i r hr=>?_,fun i j r x hi hj=>?_⟩
 ·rw[hl]
  exact⟨hk,fun _=>rfl,firstCells_string q w,firstCells_string q w.drew,by rw[byteCells_length,axq],fun u hu=>by
   obtain⟨_,_,rfl⟩:=List.mem_map.1 hu;rfl⟩
 ·grind
 ·simp only[List.getElem?_map,au2] at hi
  obtain⟨y,hy,rfl⟩:=hi;cases j with
  | succ j=>simp at hj
  | zero =>
   simp only[avk,au4] at hj;subst hj;refine⟨.int .u8 y.toNat,?_,.int _ _⟩;simp only[byteCells,avC,List.getElem?_map,axq,avG,hy,ave]
theorem jz.append{A B:List Value}(h1:jz S w sz A.toArray E)(h2:jz S w sz B.toArray F):jz S w sz (A++B).toArray (E++F):=by
 have hA:A.length=E.length*sz:=cY h1.1;have hB:B.length=F.length*sz:=cY h2.1;refine⟨by simp[hA,hB,avV],fun i r hi=>?_,fun i j r x hi hj=>?_⟩
 ·rw[avZ] at hi
  split at hi
  ·exact h1.2.1 i r hi
  ·exact h2.2.1 _ r hi
 ·rw[avZ] at hi
  split at hi
  ·obtain⟨v,hv,hp⟩:=h1.2.2 i j r x hi hj
   grind
  ·rename_i JY
   obtain⟨v,hv,hp⟩:=h2.2.2 _ j r x hi hj;refine⟨v,?_,hp⟩;simp only[avC] at hv ⊢;have e1:i*sz=E.length*sz+(i-E.length)*sz:=by rw[<- avV];congr 1;omega
   grind
def jz.aoA{S':Nat->Nat->Prop}{A:Array Value}(h:jz S w sz A E)(hS:∀ b o,S b o->S' b o)(hc:∀ b o,S b o->w'.cell? ⟨b,o,none⟩=w.cell? ⟨b,o,none⟩)(hm:∀ b E ck,S b 0->w.heap[b]?=some (.map E ck)->w'.heap[b]?=some (.map E ck))
  (hb:w'.heap[b]?=some (.cells C' ty fr)) (hA:∀ j,j<A.size->C'[j]?=A[j]?) (hq:∀ j,j<E.length*sz->S' b j) (cap:Nat) (kY:E.length<=cap):PR S' w' (.slice (some ⟨b,0,none⟩) E.length cap) (.slice E false):=by
 have key:∀ (i j:Nat) (r:List AV) (x:AV),E[i]?=some r->r[j]?=some x->∃ v,A[i*sz+j]?=some v/\PR S w v x/\i*sz+j<A.size/\A.getD (i*sz+j) undef=v:=by
  intro i j r x hi hj;obtain⟨v,hv,dQ⟩:=h.2.2 i j r x hi hj;have aZ:=(avc.1 hv).1
  simp_all
 refine .slice b 0 E.length cap sz E (fun i j=>A.getD (i*sz+j) undef) rfl kY h.2.1 ?_ ?_
 ·intro i j r x hi hj
  obtain⟨v,hv,dQ,aZ,hg⟩:=key i j r x hi hj;rw[avA,hg];refine⟨hq _ (by rw[<- h.1];exact aZ),?_,dQ.gb⟩
  rw[cell_of_row w' b _ C' ty fr hb,hA _ aZ,hv]
 ·intro i j r x hi hj
  obtain⟨v,hv,dQ,aZ,hg⟩:=key i j r x hi hj;rw[hg];exact dQ.mono hS hc hm
structure AD (P:Program) (t e:TypeId) (sz bytes:Nat):Prop where
 ht:P.underlying t=some (.slice e)
 hi:∃ i z,P.info? e=some i/\i.zero=some z/\i.size=sz/\i.bytes=bytes/\z.cells.size=sz
 pos:0<sz
theorem grow{t:TypeId}(hT:AD P t e sz bytes){ao:Option Addr}{n:Nat}{olds:List Value}{x:Value}(hold:(Builtin.firstCells sz sLen (.slice ao sLen sCap)).run P w.drew=.ok olds.toArray w.drew)
  (hol:olds.length=sLen*sz) (hs:Src P sz tx x n news w) (hg:sCap<sLen+n) (h63:sLen+n<=70368744177664) (hby:(sLen+n)*bytes<=70368744177664) :
  ∃ ye C' ,(Builtin.append_ #[t,tx] ty #[.slice ao sLen sCap,x]).run P w=.ok (.slice (some ⟨w.heap.size,0,none⟩) (sLen+n) ye) (w.drew.alloc (.cells C' e))/\sLen+n<=ye/\C'.size=ye*sz/\∀ j,j<(olds++news).toArray.size->C'[j]?=(olds++news).toArray[j]?:=by
 obtain⟨i,z,hi,hz,rfl,rfl,hzs⟩:=hT.hi;have h:=run_append_grow_src (P:=P) w t tx ty e i z hT.ht hi hz ao sLen sCap olds hold x n news hs hg ah (growslice_fits hg ah);have kY:=grownCap_ge w (sLen+n) sCap e;refine⟨_,_,h,kY,?_,fun j hj=>?_⟩
 ·rw[Array.size_append,size_zeroCells,hzs]
  simp only[awp,List.length_append,hol,hs.newsLen];rw[<- avV,<- avV]
  congr 1;omega
 ·grind
def room{t e2:TypeId}(hT:AD P t e sz bytes){n:Nat}{x:Value}(hs:Src P sz tx x n news w)(hb:w.heap[b]?=some (.cells C e2 fr))(JX:fr.2<=sLen*sz)
  (pN:sLen+n<=sCap) (gY:sLen*sz+news.length<=C.size) :
  (Builtin.append_ #[t,tx] ty #[.slice (some ⟨b,0,none⟩) sLen sCap,x]).run P w=.ok (.slice (some ⟨b,0,none⟩) (sLen+n) sCap) (w.setRow b (gv C (sLen*sz) news.toArray)):=by
 obtain⟨i,z,hi,hz,rfl,rfl,hzs⟩:=hT.hi;have iz:=run_storeCells_atF P b (sLen*i.size) e2 fr news 0 C w hb (cY JX) (cY gY) hs.one;simp only[avG] at iz
 rcases hs.kind with ⟨e',hk⟩|hk<;>simp[Builtin.append_,run_underlying hT.ht,run_underlying hk,sizeOf,typeInfo,hi,hs.len,pN,hs.cells,Addr.add_lit,iz,gv]
def CR.given(hW:a8 G base s.H gh w)(hF:FR L nt gh w a s){e:List (List AV)}{own:Bool}(h:CR gh s.H.length w .ret v (.slice e own))(p:bM)(hp:p≠.outer) :
  ∃ br,a8 G base s.H br w/\FR L nt br w a s/\Ext s.H.length gh w br w/\CR br s.H.length w p v (.slice e own):=by
 have gJ:=fun b hb=>hW.cB (gh:=gh) b hb
 rcases h with hv|⟨e',heq,Md,b,cap,C,ty,lo,hi,sz,js,hk,he,hb,hC,hr,hl,hh,hS⟩
 ·exact⟨gh,hW,hF,Ext.refl _ _ _ gJ,.inl hv⟩
 ·injection heq with h1 h2
  subst h1 h2;have aZ:b<w.heap.size:=(avc.1 hb).1;have st:=mI hW aZ p s.H.length;rw[hk] at st;have hn:gh.κ b≠.none:=by rw[hk];simp
  exact⟨gh.tZ b p,Mc hW aZ p hn (by rw[hk];simp),hF.grown (H':=s.H) (lo':=s.lo) st (fun i=>⟨ag,ag,ag⟩) (Nat.le_refl _),yC hW aZ hp hn (by rw[hk];simp) _,.inr ⟨e,rfl,Md,b,cap,C,ty,lo,hi,sz,js,by simp[Gh.tZ],he,hb,hC,hr,hl,hh,hS⟩⟩
def LM{n:Nat}{x:Value}(h:Src P sz tx x n news w):(Builtin.firstCells sz n x).run P w.drew=.ok news.toArray w.drew:=h.cellsD
theorem Lz(hW:a8 G base s.H gh w)(hF:FR L nt gh w a s){t:TypeId}(hT:AD P t e sz bytes)
  (h:CR gh s.H.length w .ret V (.slice E true)) (hs:Src P sz tx X F.length news w) (dw:jz gh.S w sz news.toArray F) (gY:cK sz bytes E F=true) {isB:Bool} (ri:nP isB (E++F)=true) (TK:isB=true->e=jo) (dk:F≠[]) (p:bM) (hp:p≠.outer) :
  ∃ v' br w',(Builtin.append_ #[t,tx] ty #[V,X]).run P w=.ok v' w'/\a8 G base s.H br w'/\FR L nt br w' a s/\Ext s.H.length gh w br w'/\CR br s.H.length w' p v' (.slice (E++F) true):=by
 simp only[cK,au6,avv] at gY;obtain⟨⟨⟨Ft,kO⟩,hE⟩,_⟩:=gY;have hFl:0<F.length:=awq.2 dk;have Md:PR gh.S w V (.slice E false):=by
  rcases h with h|⟨e',heq,Md,_⟩
  ·exact (VR.dropped h).jF
  ·grind
 obtain⟨olds,T3,hrV,Mq⟩:=At (P:=P) (tx:=t) (sz:=sz) Md (.inl ⟨_,hT.ht⟩) hE;have hol:olds.length=E.length*sz:=T3.newsLen;have ft:=hrV.append dw;have new:∀ ao cap,V=.slice ao E.length cap->cap<E.length+F.length->∃ v' br w',(Builtin.append_ #[t,tx] ty #[V,X]).run P w=.ok v' w'/\a8 G base s.H br w'/\FR L nt br w' a s/\Ext s.H.length gh w br w'/\CR br s.H.length w' p v' (.slice (E++F) true):=by
  intro ao cap hV aZ;subst hV;obtain⟨ye,C',dO,kY,Qd,yN⟩:=grow (P:=P) (ty:=ty) hT (LM T3) hol hs aZ kO Ft;have oK:fQ w (w.drew.alloc (.cells C' e)) (.cells C' e):=.drew w _;have st:=jn hW oK hp (fun o=>o<(E++F).length*sz) s.H.length
  have nW:=hW.alloc oK hp (fun o=>o<(E++F).length*sz) (fun k m hk hc=>by
   rw[cell_of_row _ _ k _ _ _ oK.new,yN k (by rw[ft.1];exact hk)] at hc
   have:=p9 ft ri TK hk hc
   subst this;exact⟨C',(0,0),oK.new⟩)
  have dQ:=ft.slice (gh:=gh) rfl oK (p:=p) hW.qa yN (q:=fun o=>o<(E++F).length*sz) (fun j hj=>hj) ye (by rw[List.length_append];exact kY)
  refine⟨_,_,_,dO,nW,hF.grown (H':=s.H) (lo':=s.lo) st (fun i=>⟨id,id,fun _=>id⟩) (Nat.le_refl _),o8 hW oK hp _ _,.inr ⟨E++F,rfl,?_,?_⟩⟩
  ·grind
  ·refine⟨w.heap.size,ye,C',e,0,0,sz,by rw[List.length_append],by simp[Gh.alloc],by simp[dk],oK.new,Qd,ft.2.1,by rw[List.length_append];exact kY,avB _,?_⟩
   rintro o ho (hs|⟨_,hs⟩)
   ·have:=hW.qa _ _ hs;omega
   ·omega
 rcases h with h|⟨e',heq,_,b,cap,C,ox,lo,hi,lI,js,hk,he,hb,hC,hr,hl,hh,hS⟩
 ·cases h with
  | plain _ _ h=>cases h
  | full ao k _ h =>
   grind
 ·injection heq with h1
  subst h1
  by_cases aZ:cap<E.length+F.length
  ·exact new _ cap js aZ
  ·subst js
   have kj:lI=sz:=DZ hE hr he;subst kj;have pN:E.length+F.length<=cap:=ah;have gY:E.length*lI+news.length<=C.size:=by rw[hs.newsLen,hC,<- avV];exact avg _ pN
   have dO:=room (P:=P) (ty:=ty) hT hs hb hh pN gY;have l9:E.length*lI+news.toArray.size<=C.size:=cY gY;have hold:∀ o,gh.S b o->(gv C (E.length*lI) news.toArray)[o]?=C[o]?:=by
    grind [lD]
   have st:=sj hW hb (dL l9) (fun o=>o<(E++F).length*lI) hold p s.H.length
   have hn:gh.κ b≠.none:=by rw[hk];simp
   have hE':=B4 hW hb (dL l9) (fun o=>o<(E++F).length*lI) hold hp hn (by rw[hk];simp) s.H.length
   have Yh:∀ j,j<(olds++news).toArray.size->(gv C (E.length*lI) news.toArray)[j]?=(olds++news).toArray[j]?:=by
    intro j hj;have arP:news.length=F.length*lI:=hs.newsLen;simp only[awp,List.length_append] at hj;rw[lD l9];simp only[avC,awp];rw[avZ];split
    ·rw[if_neg ah,hol]
    ·rename_i mJ
     have Bq:j<E.length*lI:=ah;rw[if_pos ah]
     rcases Mq with ⟨_,Od⟩|⟨b2,o2,aha,hV2,_,xi⟩
     ·exact absurd Od he
     ·injection hV2 with h1 h2 h3
      injection h1 with h1
      injection h1 with h1 h4
      subst h1 h4;have:=(xi j Bq).2
      rw[avA,cell_of_row w b j C ox _ hb] at this;exact this
   have Qs:∀ k m,k<(E++F).length*lI->(gv C (E.length*lI) news.toArray)[k]?=some (.int .u8 m)->ox=jo:=by
    intro k m hk hc;rw[Yh k (by rw[ft.1];exact hk)] at hc
    refine p9 ft ri (fun hB=>?_) hk hc
    subst hB;cases E with
    | nil=>exact absurd rfl he
    | cons r0 E0 =>
     have Yi:∃ m0,r0=[.int .u8 m0]:=by
      have:uA (r0 :: E0++F)=true:=ri
      simp only[uA,avK,List.all_cons,au6] at this;have h1:=this.1;split at h1
      ·exact⟨_,rfl⟩
      ·cases h1
     obtain⟨m0,rfl⟩:=Yi
     rcases Mq with ⟨_,Od⟩|⟨b2,o2,aha,hV2,_,xi⟩
     ·cases Od
     ·injection hV2 with h1 h2 h3
      injection h1 with h1
      injection h1 with h1 h4
      subst h1 h4;have h5:=hr 0 _ rfl;simp only[avX] at h5;obtain⟨v,hv,hp⟩:=hrV.2.2 0 0 _ _ rfl rfl;cases hp;simp only[avC,axd,avA] at hv;have h6:=xi 0 dq;rw[avA,hv] at h6;obtain⟨C2,fr2,h7⟩:=hW.bytes _ _ _ h6.1 h6.2;rw[hb] at h7;injection h7 with h7
      injection h7
   have nW:=OY hW hb (dL l9) (fun o=>o<(E++F).length*lI) hold Qs p hn (by rw[hk];simp)
   have DQ:=st;rw[hk] at st;have uQ:news.length=F.length*lI:=hs.newsLen;refine⟨_,_,_,dO,nW,hF.grown (H':=s.H) (lo':=s.lo) st (fun i=>⟨ag,ag,ag⟩) (Nat.le_refl _),hE',.inr ⟨E++F,rfl,?_,?_⟩⟩
   ·rw[<- List.length_append]
    refine ft.aoA st.S st.cell st.mp (setRow_heap w b C _ ox _ hb) (fun j hj=>?_) (fun j hj=>.inr ⟨rfl,hj⟩) cap (by rw[List.length_append];exact pN)
    simp only[awp,List.length_append] at hj;rw[lD l9];simp only[avC,awp];rw[avZ];split
    ·rw[if_neg ah,hol]
    ·rename_i mJ
     have Bq:j<E.length*lI:=ah;rw[if_pos ah]
     rcases Mq with ⟨_,Od⟩|⟨b2,o2,aha,hV2,_,xi⟩
     ·exact absurd Od he
     ·injection hV2 with h1 h2 h3
      injection h1 with h1
      injection h1 with h1 h4
      subst h1 h4;have:=(xi j Bq).2
      rw[avA,cell_of_row w b j C ox _ hb] at this;exact this
   ·refine⟨b,cap,_,ox,lo,hi,lI,by rw[List.length_append],ag,by simp[he],setRow_heap w b C _ ox _ hb,by rw[dL l9,hC],ft.2.1,by rw[List.length_append];exact pN,?_,?_⟩
    ·rw[List.length_append,avV];exact avz hh (Nat.le_add_right _ _)
    ·rintro o ho (wA|⟨_,wA⟩)
     ·exact hS o (by rw[List.length_append,avV] at ho;omega) wA
     ·omega
end
end
section
section
variable {P:Program}{G:Nat->List AV}{base nt:Nat}{L:List Nat}{gh:Gh}{w w' : World}{a:Act}{s:AS}{H:ae}
theorem Pl(hW:a8 G base s.H gh w)(hF:FR L nt gh w a s){t:TypeId}(hT:AD P t e sz bytes){t0:Nat}
  (h:uk gh w (.bx t0) (gP a t0) E) (hs:Src P sz tx X F.length news w) (dw:jz gh.S w sz news.toArray F) (gY:cK sz bytes E F=true) (d:Option Nat) :
  ∃ v' br w',(Builtin.append_ #[t,tx] ty #[gP a t0,X]).run P w=.ok v' w'/\a8 G base s.H br w'/\FR L nt br w' a (s.cx t0 .any)/\Ext s.H.length gh w br w'/\uk br w' (Pr d) v' (E++F):=by
 simp only[cK,au6,avv] at gY;obtain⟨⟨⟨Ft,kO⟩,hE⟩,hFo⟩:=gY;have gJ:=fun b hb=>hW.cB (gh:=gh) b hb
 have hdo:=x9 d;obtain⟨i,z,hi,_,rfl,_⟩:=hT.hi;have iC:(gP a t0).oneCell'=true:=by obtain⟨ad,cap,hv,_⟩:=h;rw[hv];rfl
 have ahU:∀ {br:Gh} {w' : World} {n gen:Nat} {T:aD},SR br n nt w' T gen (gP a) t0 (gP a t0) .any:=fun {_ _ _ _ _}=>(.inl (.plain _ _ (.any _ iC)):CR _ _ _ _ _ _)
 have stay:FR L nt gh w a (s.cx t0 .any):=hF.cx (touch:=fun _=>False) (H':=s.H) (lo':=s.lo) (Step.refl _ _ _ _ gJ) (Nat.le_refl _) (fun i _=>⟨id,id,fun _=>id⟩) (.inr rfl) (fun _=>ahU)
 have new:∀ ao cap olds,gP a t0=.slice ao E.length cap->cap<E.length+F.length->Src P i.size t (.slice ao E.length cap) E.length olds w->jz gh.S w i.size olds.toArray E ->
   ∃ v' br w',(Builtin.append_ #[t,tx] ty #[gP a t0,X]).run P w=.ok v' w'/\a8 G base s.H br w'/\FR L nt br w' a (s.cx t0 .any)/\Ext s.H.length gh w br w'/\uk br w' (Pr d) v' (E++F):=by
  intro ao cap olds hV aZ T3 hrV;obtain⟨ye,C',dO,kY,Qd,yN⟩:=grow (P:=P) (ty:=ty) hT T3.cellsD T3.newsLen hs aZ kO Ft;have ft:=hrV.append dw;have oK:fQ w (w.drew.alloc (.cells C' e)) (.cells C' e):=.drew w _;have st:=jn hW oK hdo (fun _=>False) s.H.length
  have nW:=hW.alloc oK hdo (fun _=>False) (fun _ _ h=>h.elim)
  rw[hV];have JM:FR L nt (gh.alloc w.heap.size (Pr d) fun _=>False) (w.drew.alloc (.cells C' e)) a (s.cx t0 .any) :=
   stay.grown (H':=s.H) (lo':=s.lo) st (fun i=>⟨id,id,fun _=>id⟩) (Nat.le_refl _)
  refine⟨_,_,_,dO,nW,JM,o8 hW oK hdo _ _,some ⟨w.heap.size,0,none⟩,ye,by rw[List.length_append],.inr ⟨w.heap.size,C',e,i.size,?_,rfl,by simp[Gh.alloc],?_,oK.new,Qd,by rw[List.length_append];exact kY,ft.2.1,?_⟩⟩
  ·intro h0
   simp_all
  ·rintro o (ho|⟨_,ho⟩)
   ·have:=hW.qa _ o ho;omega
   ·exact ho
  ·intro k j r x hk hj
   obtain⟨v,hv,hp⟩:=ft.2.2 k j r x hk hj;refine⟨v,?_,hp.mono st.S st.cell st.mp⟩
   grind
 obtain⟨ao,cap,hV,⟨rfl,ahZ,J4⟩|⟨b,C,ox,lI,dk,ha,hk,hS,hb,hC,hl,hr,iL⟩⟩:=h
 ·subst ahZ
  have T3:Src P i.size t (.slice ao 0 0) 0 [] w:=by
   refine⟨.inl ⟨_,hT.ht⟩,fun _=>rfl,?_,?_,ag,fun _ h=>by cases h⟩
   ·cases ao with
    | none=>exact run_firstCells_none w _ 0 0 0
    | some ad=>exact run_firstCells_some w _ 0 ad 0 0 [] ag (fun j v h=>by simp at h)
   ·cases ao with
    | none=>exact run_firstCells_none w.drew _ 0 0 0
    | some ad=>exact run_firstCells_some w.drew _ 0 ad 0 0 [] ag (fun j v h=>by simp at h)
  cases F with
  | nil =>
   have hn:news=[]:=by have:=hs.newsLen;simp at this;exact this
   subst hn;refine⟨_,gh,w,?_,hW,stay,Ext.refl _ _ _ gJ,ao,0,rfl,.inl ⟨rfl,rfl,J4⟩⟩;rw[hV];exact run_append_nothing w t tx ty e i hT.ht hi ao 0 0 (Nat.le_refl _) X hs
  | cons f F=>exact new ao 0 [] hV ag T3 ⟨ag,fun i r h=>by simp at h,fun i j r x h=>by simp at h⟩
 ·subst ha
  have kj:lI=i.size:=DZ hE hr dk;subst kj;have hEC:E.length*i.size<=C.size:=by rw[hC];exact avg _ hl
  have yM:(C.toList.take (E.length*i.size)).length=E.length*i.size:=dq;have hrV:jz gh.S w i.size (C.toList.take (E.length*i.size)).toArray E:=by
   refine⟨dq,hr,fun k j r x hk hj=>?_⟩
   grind [xE]
  have TV:∀ u∈C.toList.take (E.length*i.size),u.oneCell'=true:=by
   intro u hu;obtain⟨k,hk⟩:=avu hu;have aZ:k<E.length*i.size:=by rw[<- yM];exact (au7.1 hk).1
   obtain⟨h1,h2,h3⟩:=vg aZ;have Yi:=au5 h1;have D8:=au5 (show k % i.size<E[k / i.size].length by rw[hr _ _ Yi];exact h2)
   obtain⟨u',HQ,hp⟩:=hrV.2.2 _ _ _ _ Yi D8;rw[h3] at HQ;simp only[avC] at HQ;rw[hk] at HQ;injection HQ with HQ
   subst HQ;exact hp.gb
  have di:∀ j u,(C.toList.take (E.length*i.size))[j]?=some u->w.cell? ((⟨b,0,none⟩:Addr).add j)=some u:=by
   intro j u hj;rw[addr_add,avA,cell_of_row w b j C ox _ hb];rw[avw] at hj;split at hj
   ·simpa using hj
   ·cases hj
  have T3:Src P i.size t (.slice (some ⟨b,0,none⟩) E.length cap) E.length (C.toList.take (E.length*i.size)) w:=.ofSlice w hT.ht ⟨b,0,none⟩ E.length cap _ yM di TV
  by_cases aZ:cap<E.length+F.length
  ·exact new _ cap _ hV aZ T3 hrV
  ·have pN:E.length+F.length<=cap:=ah
   have gY:E.length*i.size+news.length<=C.size:=by rw[hs.newsLen,hC,<- avV];exact avg _ pN
   have dO:=room (P:=P) (ty:=ty) hT hs hb (avB _) pN gY;have l9:E.length*i.size+news.toArray.size<=C.size:=cY gY;have mJ:∀ o,gh.S b o->(gv C (E.length*i.size) news.toArray)[o]?=C[o]?:=fun o ho=>(hS o ho).elim
   have st:=sj hW hb (dL l9) (fun _=>False) mJ (Pr d) s.H.length
   have hn:gh.κ b≠.none:=by rw[hk];simp
   have hE':=B4 hW hb (dL l9) (fun _=>False) mJ hdo hn (by rw[hk];simp) s.H.length
   have nW:=OY hW hb (dL l9) (fun _=>False) mJ (fun _ _ h=>h.elim) (Pr d) hn (by rw[hk];simp)
   rw[hk] at st;have JM:=hF.cx (t:=t0) (X:=.any) (H':=s.H) (lo':=s.lo) st (Nat.le_refl _) (fun i hi=>⟨cY hi,ag,ag⟩) (.inr rfl) (fun _=>ahU)
   rw[hV];have ft:=hrV.append dw;refine⟨_,_,_,dO,nW,JM,hE',some ⟨b,0,none⟩,cap,by rw[List.length_append],.inr ⟨b,_,ox,i.size,by simp[dk],rfl,ag,?_,setRow_heap w b C _ ox _ hb,by rw[dL l9,hC],by rw[List.length_append];exact pN,ft.2.1,?_⟩⟩
   ·rintro o (ho|⟨_,ho⟩)
    ·exact hS o ho
    ·exact ho
   ·intro k j r x tV hj
    obtain⟨v,hv,hp⟩:=ft.2.2 k j r x tV hj;refine⟨v,?_,hp.mono st.S st.cell st.mp⟩;rw[lD l9];simp only[avC,awp] at hv ⊢;rw[avZ,yM] at hv;have uQ:news.length=F.length*i.size:=hs.newsLen;split at hv
    ·rename_i h1
     rw[if_neg ah];rw[avw,if_pos h1] at hv
     simpa using hv
    ·rename_i h1
     have h2:=(au7.1 hv).1;rw[if_pos ah];exact hv
def vU(hW:a8 G base s.H gh w)(hF:FR L nt gh w a s)(hc:av nt x=some y)(he:bz sz (y.eval G s.T)=some f)(hh:gC sz f=true)
  (hk:(∃ e',P.underlying tx=some (.slice e'))\/P.underlying tx=some .string):∃ news,Src P sz tx (a.eval x) f.length news w/\jz gh.S w sz news.toArray f:=by
 generalize hY:y.eval G s.T=Y at he;cases Y<;>simp only[bz] at he<;>try (cases he;done)
 ·rename_i l
  obtain⟨h0,h1⟩:=al he;have h0:sz=1:=by simpa [iI] using h0
  subst h0;injection h1 with h1
  subst h1;obtain⟨q,hq,hl⟩:=(cU hW hF hc hY rfl).kG;rw[hq,List.length_map];exact Z6 hl hk
 ·rename_i el own
  injection he with he
  subst he;obtain⟨news,h1,h2,_⟩:=At (P:=P) (tx:=tx) (sz:=sz) (cU hW hF hc hY rfl).jF hk hh;exact⟨news,h1,h2⟩
 ·injection he with he
  subst he;rw[(cU hW hF hc hY rfl).mK];obtain⟨news,h1,h2,_⟩:=At (P:=P) (tx:=tx) (sz:=sz) (PR.dF (S:=gh.S) (w:=w)) hk hh;exact⟨news,h1,h2⟩
def iv{c:Call}{y:Operand}{t:TypeId}(ho:o.op=.call c)(jM:c.callee=.builtin .append)(gm:c.args.toList=[x,y])(mW:c.argTypes.toList=[t,u])
  (dO:(Builtin.append_ #[t,u] o.type #[a.eval x,a.eval y]).run P w=.ok v w'):(execOp a.eval o).run P w=.ok (.value v) w':=by
 have e1:c.args=#[x,y]:=by apply aw1;simpa using gm
 have e2:c.argTypes=#[t,u]:=by apply aw1;simpa using mW
 unfold execOp;simp only[ho,resolve,jM,e1,e2,invoke,builtin,Sem.run_bind,Sem.run_pure,Result.andThen_ok,aw3,avm,avN,dO]
def KY{e:List (List AV)}(h:PR S w V (.slice e false)):∃ ao cap,V=.slice ao e.length cap/\e.length<=cap:=by
 cases h with
 | dF=>exact⟨none,0,rfl,Nat.le_refl _⟩
 | slice b o n cap sz _ _ hn kY=>subst hn;exact⟨_,cap,rfl,kY⟩
theorem PU(hW:a8 G base s.H gh w)(hF:FR L nt gh w a s){c:Call}{y:Operand}{t:TypeId}{yx yy:aE}{isB wr:Bool}{z:AV}
  (ho:o.op=.call c) (jM:c.callee=.builtin .append) (gm:c.args.toList=[x,y]) (mW:c.argTypes.toList=[t,u]) (hT:AD P t e sz bytes) (TK:isB=true->e=jo) (hu:(∃ e',P.underlying u=some (.slice e'))\/P.underlying u=some .string)
  (jr:av nt x=some yx) (D5:av nt y=some yy) (he:bt G s isB wr sz bytes yx yy=some (z,s')) (hd:∀ k,o.dst=some k->k<nt) (hL:wr=true->∀ k,o.dst=some k->k∈L) :
  ∃ v' br w',wS P a o w v' w'/\Out G base nt L gh w a s o.dst z (s'.getD s) v' br w':=by
 have gJ:=fun b hb=>hW.cB (gh:=gh) b hb
 have core:∀ (s1:AS) (oz:Gh) (el:List (List AV)) (own:Bool),s1.H=s.H->a8 G base s1.H oz w->FR L nt oz w a s1->Ext s.H.length gh w oz w->(∀ b o,gh.S b o->oz.S b o) ->
   CR oz s1.H.length w .ret (a.eval x) (.slice el own)->aG isB sz bytes (.slice el own) (yy.eval G s.T)=some z ->
   ∃ v' br w',wS P a o w v' w'/\Out G base nt L gh w a s o.dst z s1 v' br w':=by
  intro s1 oz el own hH tT Bm HD aiq oJ vY;simp only[aG,au3] at vY;obtain⟨f,hf,vY⟩:=vY;cases f with
  | nil =>
   simp only[au4] at vY;subst vY;obtain⟨news,hs,hr⟩:=vU (P:=P) hW hF D5 hf rfl hu;have hn:news=[]:=by have:=hs.newsLen;simp at this;exact this
   subst hn;obtain⟨gh2,HG,JN,AT,Tr⟩:=oJ.given tT Bm (Wi o.dst) (qS _);obtain⟨ao,cap,hV,hle⟩:=KY (w:=w) (oJ.dropped).jF;obtain⟨i,z,hi,_,rfl,_⟩:=hT.hi;refine⟨a.eval x,gh2,w,.inl (iv ho jM gm mW ?_),Out.of (s1:=s1) (gen':=s1.gen) HG JN (HD.trans AT (by rw[hH];exact Nat.le_refl _)) (Nat.le_refl _) hd (.inl rfl) (fun k hk=>?_)⟩
   ·rw[hV]
    exact run_append_nothing w t u o.type e i hT.ht hi ao _ cap hle _ hs
   ·rw[hk] at Tr
    exact Tr
  | cons f0 fr =>
   obtain⟨h0,vY⟩:=al vY;injection vY with vY
   subst vY;simp only[au6] at h0;obtain⟨⟨rfl,gY⟩,ri⟩:=h0;have hh:gC sz (f0 :: fr)=true:=by simp only[cK,au6] at gY;exact gY.2
   obtain⟨news,hs,hr⟩:=vU (P:=P) hW hF D5 hf hh hu;have CX:jz oz.S w sz news.toArray (f0 :: fr):=⟨hr.1,hr.2.1,fun i j r x hi hj=>by
    obtain⟨v,hv,hp⟩:=hr.2.2 i j r x hi hj;exact⟨v,hv,hp.mono aiq (fun _ _ _=>rfl) (fun _ _ _ _ h=>h)⟩⟩
   obtain⟨v',gh2,w2,dO,HG,JN,AT,Tr⟩:=Lz (P:=P) (ty:=o.type) tT Bm hT oJ hs CX gY ri TK ag (Wi o.dst) (qS _);refine⟨v',gh2,w2,.inl (iv ho jM gm mW dO),Out.of (s1:=s1) (gen':=s1.gen) HG JN (HD.trans AT (by rw[hH];exact Nat.le_refl _)) (Nat.le_refl _) hd (.inl rfl) (fun k hk=>?_)⟩
   rw[hk] at Tr;exact Tr
 have acg:∀ (t0:Nat) (el f:List (List AV)),x=.tmp t0->t0<nt->uk gh w (.bx t0) (gP a t0) el->bz sz (yy.eval G s.T)=some f->cK sz bytes el f=true->wr=true ->
   ∃ v' br w',wS P a o w v' w'/\Out G base nt L gh w a s o.dst (.lsl s.gen (el++f)) { s.cx t0 .any with gen:=s.gen+1 } v' br w':=by
  intro t0 el f hx ht bX hf gY IW;have hh:gC sz f=true:=by simp only[cK,au6] at gY;exact gY.2
  obtain⟨news,hs,hr⟩:=vU (P:=P) hW hF D5 hf hh hu;obtain⟨v',gh2,w2,dO,HG,JN,AT,CY⟩:=Pl (P:=P) (ty:=o.type) hW hF hT bX hs hr gY o.dst;have hxe:a.eval x=gP a t0:=by rw[hx];rfl
  refine⟨v',gh2,w2,.inl (iv ho jM gm mW (by rw[hxe];exact dO)),Out.of (s1:=s.cx t0 .any) (gen':=s.gen+1) HG JN AT (Nat.le_succ _) hd (.inr ⟨⟨s.gen,Nat.le_refl _,rfl⟩,hL IW⟩) (fun k hk=>⟨aw5 _,?_⟩)⟩
  rw[hk] at CY;exact CY
 cases yx with
 | tmp t0 =>
  obtain⟨rfl,ht⟩:=kR jr;simp only[bt] at he;split at he
  ·rename_i g el oS
   simp only[au3] at he;obtain⟨f,hf,he⟩:=he;obtain⟨h0,he⟩:=al he
   grind [qe]
  ·rename_i el own oS
   cases IW:wr with
   | true =>
    rw[IW] at he;simp only[cond_true,au3] at he;obtain⟨f,hf,he⟩:=he;obtain⟨h0,he⟩:=al he;simp only[au4,au8] at he;obtain⟨rfl,rfl⟩:=he;simp only[au6,axi] at h0;obtain⟨⟨rfl,rfl⟩,gY⟩:=h0;have oJ:=Hj hF ht oS;have bX:uk gh w (.bx t0) (gP a t0) []:=by
     rcases oJ with h|⟨e',heq,_,b,cap,C,ty,lo,hi,lI,js,hk,dk,_⟩
     ·change VR gh s.H.length w (gP a t0) _ at h
      generalize gP a t0=V at h;cases h with
      | plain _ _ h=>cases h
      | full ao k _ h hz =>
       cases h with
       | dF=>exact⟨none,0,rfl,.inl ⟨rfl,rfl,fun ad h=>by cases h⟩⟩
       | slice b o _ _ lI _ _ hn =>
        simp at hn;subst hn;exact⟨_,0,rfl,.inl ⟨rfl,rfl,fun ad h=>⟨by injection h with h;subst h;rfl,trivial⟩⟩⟩
     ·injection heq with h1;subst h1;exact absurd rfl dk
    exact acg t0 [] f rfl ht bX hf gY IW
   | false =>
    rw[IW] at he;simp only[cond_false,au2,au8] at he;obtain⟨z',vY,rfl,rfl⟩:=he;obtain⟨oz,tT,Bm,HD,Wn,oJ⟩:=ze hW hF ht oS .ret ag;exact core (s.cx t0 (.slice el false)) oz el own rfl tT Bm HD Wn.S oJ vY
  ·rename_i oS
   cases IW:wr with
   | true =>
    rw[IW] at he;simp only[cond_true,au3] at he;obtain⟨f,hf,he⟩:=he;obtain⟨h0,he⟩:=al he;simp only[au4,au8] at he;obtain⟨rfl,rfl⟩:=he;have hv:=(cU hW hF jr (show (aE.tmp t0).eval G s.T=.ar from oS) rfl).mK
    exact acg t0 [] f rfl ht ⟨none,0,hv,.inl ⟨rfl,rfl,fun ad h=>by cases h⟩⟩ hf h0 IW
   | false =>
    rw[IW] at he;simp only[cond_false,au2,au8] at he;obtain⟨z',vY,rfl,rfl⟩:=he;have hv:=(cU hW hF jr (show (aE.tmp t0).eval G s.T=.ar from oS) rfl).mK
    exact core s gh [] true rfl hW hF (Ext.refl _ _ _ gJ) (fun _ _ h=>h) (.inl (by rw[hv];exact .full none 0 [] .dF trivial)) vY
  ·cases he
 | xQ v =>
  simp only[bt] at he;cases IW:wr with
  | true=>rw[IW] at he;cases he
  | false =>
   rw[IW] at he;simp only[cond_false,au2,au8] at he;obtain⟨z',vY,rfl,rfl⟩:=he;simp only[aE.eval] at vY;cases v<;>simp only[aG] at vY<;>try (cases vY;done)
   rename_i el own;have hv:VR gh s.H.length w (a.eval x) (.slice el own):=by
    cases x with
    | tmp k =>
     simp only[av] at jr;rcases awg (Nat.blt k nt) with hb|hb<;>rw[hb] at jr<;>simp at jr
    | const u =>
     simp only[av,au2] at jr;obtain⟨zz,hz,h⟩:=jr;injection h with h
     subst h;exact kU hz
    | global g=>simp[av] at jr
    | func f=>simp[av] at jr
   exact core s gh el own rfl hW hF (Ext.refl _ _ _ gJ) (fun _ _ h=>h) (.inl hv) vY
 | aY g =>
  simp only[bt] at he;cases IW:wr with
  | true=>rw[IW] at he;cases he
  | false =>
   rw[IW] at he;simp[aE.eval,aG] at he
 | fn f =>
  simp only[bt] at he;cases IW:wr with
  | true=>rw[IW] at he;cases he
  | false =>
   rw[IW] at he;simp[aE.eval,aG] at he
end
end
section
def clean(gh:Gh):Prop:=∀ b,gh.κ b=.none\/gh.κ b=.outer\/(∃ l,gh.κ b=.hb l)\/(∃ l j,gh.κ b=.hs l j)\/∃ j,gh.κ b=.par j
def jd(p:bM):Prop:=(∃ l,p=.hb l)\/(∃ l j,p=.hs l j)\/∃ j,p=.par j
def qx(H:ae):Option fP->ae
 | none=>H
 | some c=>c.heap
structure pA (G:Nat->List AV) (base:Nat) (H:ae) (gh:Gh) (w:World) (r:AV) (c:Option fP) (v:Value) (br:Gh) (w' : World):Prop where
 len:H.length<=(qx H c).length
 W:a8 G base (qx H c) br w'
 st:Step jd H.length gh w br w'
 out:∀ b,br.κ b=.outer->gh.κ b=.outer
 val:CR br (qx H c).length w' .ret v r
def jN(H:ae)(c:Option fP):Prop:=H.length<=(qx H c).length/\∀ c',c=some c'->c'.lo<=H.length/\∀ l,l<c'.lo->c'.heap[l]?=H[l]?
def jm(P:Program)(G:Nat->List AV)(cf:gz):Prop :=
 ∀ f args H r c,cf f args H=some (r,c)->(∃ fn,P.funcs[f]?=some fn/\fn.body.isSome=true/\fn.name≠ "runtime.NumGoroutine")/\jN H c /\
  ∀ (base:Nat) (gh:Gh) (w:World) (vs:Array Value),a8 G base H gh w->clean gh->vs.size=args.length->(∀ (j:Nat) (v:Value) (x:AV),vs[j]?=some v->args[j]?=some x->CR gh H.length w (.par j) v x) ->
   Calls P f vs w fun e w'=>∃ v br,e=.returned v/\pA G base H gh w r c v br w'
section
variable {P:Program}{G:Nat->List AV}{base nt:Nat}{L:List Nat}{gh:Gh}{w w' : World}{a:Act}{s:AS}{H:ae}
def gM:bM->Bool
 | .bx _|.sl _|.sc ..|.ret=>true
 | _=>false
def Gh.xn(gh:Gh):Gh:={ gh with κ:=fun b=>bif gM (gh.κ b) then .outer else gh.κ b }
def Mh(gh:Gh):clean gh.xn:=by
 intro b;simp only[Gh.xn];cases h:gh.κ b<;>simp[gM]
theorem Gi(hW:a8 G base H gh w)(n:Nat):Step (fun p=>gM p=true) n gh w gh.xn w:=by
 refine⟨fun _ _ h=>h,fun _ _ _=>rfl,Nat.le_refl _,rfl,rfl,rfl,fun b hb hn=>⟨.inl rfl,?_,fun _ h=>h⟩,fun b hb=>?_,fun _ _=>rfl,fun _ _ _ h=>h,fun _ _ _ _ h=>h⟩
 ·simp only[Gh.xn]
  grind
 ·simp only[Gh.xn,hW.fresh b hb]
  simp[gM]
def adD(hW:a8 G base H gh w):a8 G base H gh.xn w:=by
 refine hW.step (Gi hW H.length) (fun l=>⟨by simp[gM],by simp[gM]⟩) hW.qa (fun b hb=>hW.ry b fun h=>hb ?_) (fun _ _ _ h=>.inl h)
 simp[Gh.xn,h,gM]
def Gh.back(gh br:Gh):Gh:={ br with κ:=fun b=>bif gM (gh.κ b) then gh.κ b else br.κ b }
theorem Sg(hW:a8 G base H gh w){r:AV}{c:Option fP}(h:pA G base H gh.xn w r c v br w') :
  a8 G base (qx H c) (gh.back br) w'/\Step jd H.length gh w (gh.back br) w'/\Ext H.length gh w (gh.back br) w'/\CR (gh.back br) (qx H c).length w' .ret v r:=by
 have Qq:∀ b,gM (gh.κ b)=true->br.κ b=.outer:=by
  intro b hb;have aZ:b<w.heap.size:=(hW.ry b (by intro h0;rw[h0] at hb;cases hb)).2
  have:=(h.st.oH b aZ (by simp[Gh.xn,hb,jd])).2.1
  rw[this];simp[Gh.xn,hb]
 have akl:Step (fun p=>p=.outer) (qx H c).length br w' (gh.back br) w':=by
  refine⟨fun _ _ h=>h,fun _ _ _=>rfl,Nat.le_refl _,rfl,rfl,rfl,fun b hb hn=>⟨.inl rfl,?_,fun _ h=>h⟩,fun b hb=>?_,fun _ _=>rfl,fun _ _ _ h=>h,fun _ _ _ _ h=>h⟩
  ·simp only[Gh.back]
   grind
  ·simp only[Gh.back]
   have iR:w.heap.size<=b:=avz h.st.size hb;rw[hW.fresh b iR];simp only[gM,cond_false];exact h.st.fresh b iR
 have hlen:=h.len;have iz:Step jd H.length gh w (gh.back br) w':=by
  refine⟨h.st.S,h.st.cell,h.st.size,h.st.os,h.st.tape,h.st.output,fun b hb hn=>?_,fun b hb=>?_,h.st.ρ,h.st.len,h.st.mp⟩
  ·cases hs:gM (gh.κ b) with
   | true =>
    have:=h.st.oH b hb (by simp[Gh.xn,hs,jd])
    exact⟨this.1,by simp[Gh.back,hs],this.2.2⟩
   | false =>
    have e1:gh.xn.κ b=gh.κ b:=by simp[Gh.xn,hs]
    have:=h.st.oH b hb (by rw[e1];exact hn)
    exact⟨this.1,by simp only[Gh.back,hs,cond_false];rw[this.2.1,e1],this.2.2⟩
  ·simp only[Gh.back]
   rw[hW.fresh b hb];simp only[gM,cond_false];exact h.st.fresh b hb
 refine⟨h.W.step akl (fun l=>⟨ag,ag⟩) h.W.qa (fun b hb=>?_) (fun _ _ _ h=>.inl h),iz,⟨iz.mono (fun p hp=>?_),fun b hb=>?_⟩,h.val.mono akl (Nat.le_refl _) ag⟩
 ·simp only[Gh.back] at hb
  cases hs:gM (gh.κ b) with
  | true =>
   have:=hW.ry b (by intro h0;rw[h0] at hs;cases hs)
   have:=h.st.size
   omega
  | false =>
   rw[hs] at hb;exact h.W.ry b hb
 ·rcases hp with ⟨l,rfl⟩|⟨l,j,rfl⟩|⟨j,rfl⟩<;>simp[sw]
 ·simp only[Gh.back] at hb
  cases hs:gM (gh.κ b) with
  | true =>
   grind
  | false =>
   rw[hs] at hb;have:=h.out b hb
   simpa [Gh.xn,hs] using this
def CR.adb(hW:a8 G base s.H gh w)(hF:FR L nt gh w a s){x:AV}(h:CR gh s.H.length w .ret v x)(p:bM)(hp:p≠.outer) :
  ∃ br,a8 G base s.H br w/\FR L nt br w a s/\Ext s.H.length gh w br w/\CR br s.H.length w p v x:=by
 rcases h with h|⟨e,rfl,h⟩
 ·exact⟨gh,hW,hF,Ext.refl _ _ _ (fun b hb=>hW.cB b hb),.inl h⟩
 ·exact CR.given hW hF (.inr ⟨e,rfl,h⟩) p hp
def my{n:Nat}{x:AV}(h:VR gh n w v x.drop):VR gh n w v x.dh:=by
 cases x<;>first|exact h|skip
 rename_i cs;exact VR.Cz (h:VR gh n w v (.agg cs))
def Pu(ua:jm P G cf)(hW:a8 G base s.H gh w)(hF:FR L nt gh w a s){f:FuncId}{vs:Array Value}{args:List AV}{r:AV}
  (he:cf f args s.H=some (r,ch)) (Fz:vs.size=args.length) (dr:∀ (j:Nat) (v:Value) (x:AV),vs[j]?=some v->args[j]?=some x->CR gh s.H.length w (.par j) v x)
  (dO:(∃ fn,P.funcs[f]?=some fn/\fn.body.isSome=true/\fn.name≠ "runtime.NumGoroutine")->(execOp a.eval o).run P w=.ok (.enter f vs) w) (hd:∀ k,o.dst=some k->k<nt) (K:Act->World->Prop) (Q:Exit->Act->World->Prop)
  (hK:∀ v' br w',Out G base nt L gh w a s o.dst r ((ch.map s.iK).getD s) v' br w'->K (a.put o.dst v') w'):o.wp P a w K Q:=by
 obtain⟨IN,_,kD⟩:=ua f _ _ _ _ he;have iz:=Gi hW s.H.length;have hC:=kD base gh.xn w vs (adD hW) (Mh gh) Fz (fun j v x hv hx=>(dr j v x hv hx).mono iz (Nat.le_refl _) (by simp[gM]))
 unfold Oper.wp;rw[dO IN,Oper.upon_enter];refine hC.mono ?_
 rintro e w2 ⟨v,br,rfl,hR⟩
 obtain⟨HG,T8,AT,RF⟩:=Sg hW hR;have abg:=hR.len;have key:∀ s1:AS,s1.H=qx s.H ch->FR L nt (gh.back br) w2 a s1->∃ gh3,Out G base nt L gh w a s o.dst r s1 v gh3 w2:=by
  intro s1 qK Bm;obtain⟨gh3,hW3,hF3,hE3,hv3⟩:=CR.adb (by rw[qK];exact HG) Bm (by rw[qK];exact RF) (Wi o.dst) (qS _)
  refine⟨gh3,Out.of (s1:=s1) (gen':=s1.gen) hW3 hF3 (AT.trans hE3 (by rw[qK];exact abg)) (Nat.le_refl _) hd (.inl (mn hv3.aN)) (fun k hk=>?_)⟩
  rw[hk] at hv3;exact qf hv3.aN hv3
 cases ch with
 | none =>
  obtain⟨gh3,hO⟩:=key s rfl (hF.grown (H':=s.H) (lo':=s.lo) T8 (fun i=>⟨by simp[jd],by simp[jd],by simp[jd]⟩) (Nat.le_refl _))
  exact hK v gh3 w2 hO
 | some c' =>
  obtain⟨gh3,hO⟩:=key (s.iK c') rfl (hF.grown T8 (fun i=>⟨by simp[jd],by simp[jd],by simp[jd]⟩) abg)
  exact hK v gh3 w2 hO
theorem XD(ua:jm P G cf)(hW:a8 G base s.H gh w)(hF:FR L nt gh w a s){c:Call}{fx:Operand}{yf:aE}{ys:List aE}{f:FuncId}{fs:List AV}{r:AV}
  (ho:o.op=.call c) (jM:c.callee=.value fx) (jr:av nt fx=some yf) (D5:kS nt c.args.toList=some ys) (adC:yf.eval G s.T=.func (.func f) fs cs) (JX:(ys.map fun y=>y.addr G s.T).all aN=true)
  (he:cf f (fs++ys.map (fun y=>(y.addr G s.T).dh)++cs) s.H=some (r,ch)) (hd:∀ k,o.dst=some k->k<nt) (K:Act->World->Prop) (Q:Exit->Act->World->Prop)
  (hK:∀ v' br w',Out G base nt L gh w a s o.dst r ((ch.map s.iK).getD s) v' br w'->K (a.put o.dst v') w'):o.wp P a w K Q:=by
 have hfv:=cU hW hF jr adC rfl;obtain⟨us,ts,hfe,yK,mA,h1,h2⟩:=hfv.uR;have gm:=Hk hW hF D5 JX;have hlen:=(mT D5).1
 let vs:Array Value:=us++c.args.map a.eval++ts
 have Fz:vs.size=(fs++ys.map (fun y=>(y.addr G s.T).dh)++cs).length:=by
  grind
 have dr:∀ (j:Nat) (v:Value) (x:AV),vs[j]?=some v->(fs++ys.map (fun y=>(y.addr G s.T).dh)++cs)[j]?=some x->VR gh s.H.length w v x:=by
  intro j v x hv hx;have Rz:(c.args.map a.eval).size=ys.length:=cY hlen;simp only[vs,Array.getElem?_append,Array.size_append] at hv;simp only[avZ,List.length_append,List.length_map] at hx;rw[yK,Rz] at hv;split at hv
  ·rename_i c1
   rw[if_pos c1] at hx;split at hv
   ·grind
   ·rename_i c2
    rw[if_neg c2] at hx;simp only[List.getElem?_map,au2] at hx;obtain⟨y,hy,rfl⟩:=hx;refine my (gm (j-fs.length) v _ ?_ ?_)
    ·grind
    ·grind
  ·grind
 refine Pu ua hW hF he Fz (fun j v x hv hx=>.inl (dr j v x hv hx)) ?_ hd K Q hK
 rintro ⟨fn,IN,JQ,rQ⟩
 unfold execOp;cases hb:fn.body with
 | none=>rw[hb] at JQ;cases JQ
 | some code =>
  simp[ho,resolve,jM,hfe,Deferred.ofValue,invoke,callFunc,IN,rQ,hb,vs]
end
end
section
section
variable {P:Program}{G:Nat->List AV}{base nt:Nat}{L:List Nat}{gh:Gh}{w w' : World}{a:Act}{s:AS}{H:ae}
def IY(P:Program)(w:World)(d:Nat):Prop :=
 ∀ (t:TypeId) (ks:List CK),oI P d t=some ks->∀ (D o:Nat) (cs:Array Value) (em:Bool),d<=D->o+ks.length<=cs.size->∃ v,(part t cs o).run P w=.ok v w/\(Instr.checkKey em D t v).run P w=.ok () w
def yj{t:TypeId}{D:Nat}(h:P.underlying t=some .bool\/(∃ k,P.underlying t=some (.int k))\/P.underlying t=some .string):(Instr.checkKey em (D+1) t v).run P w=.ok () w:=by
 rcases h with h|⟨k,h⟩|h<;>simp[Instr.checkKey,run_underlying h]
def yh{d:Nat}(hd:IY P w d){D:Nat}(hD:d<=D){cs:Array Value} : ∀ (fs:List Go.Field) (q:Nat) (ks:List CK),qH (oI P d) fs q=some ks->q+ks.length<=cs.size ->
  Sem.run P (forIn fs PUnit.unit fun (f:Go.Field) (_:PUnit) =>
   if f.name≠ "_" then do
    let v <- part f.type cs f.offset
    Instr.checkKey em D f.type v
    pure (ForInStep.yield PUnit.unit)
   else pure (ForInStep.yield PUnit.unit)) w=.ok PUnit.unit w:=by
 intro fs
 induction fs with
 | nil=>intro q ks h1 h2;rfl
 | cons f fs ih =>
  intro q ks h1 h2;unfold qH at h1;obtain⟨h3,h1⟩:=al h1;simp only[au3,au2] at h1;obtain⟨kf,hkf,kr,hkr,rfl⟩:=h1;simp only[au6,iI,avf,bne_iff_ne] at h3;obtain⟨hof,tw⟩:=h3;rw[List.length_append] at h2;obtain⟨v,p1,p2⟩:=hd f.type kf hkf D q cs em hD ah;have hr:=ih (q+kf.length) kr hkr ah;rw[List.forIn_cons,if_pos tw,hof];simp only[Sem.run_bind,p1,p2,Result.andThen_ok,Sem.run_pure];exact hr
def FZ:∀ d,IY P w d
 | 0=>fun t ks h=>by cases h
 | d+1=>by
  intro t ks h D o cs em hD iL;have h0:=h;unfold oI at h;cases hu:P.underlying t with
  | none=>rw[hu] at h;cases h
  | some dd =>
   rw[hu] at h;obtain⟨D,rfl⟩:∃ m,D=m+1:=⟨D-1,ah⟩;have sc:ks.length=1->n7 P t=some false->(dd=.bool\/(∃ k,dd=.int k)\/dd=.string)->∃ v,(part t cs o).run P w=.ok v w/\(Instr.checkKey em (D+1) t v).run P w=.ok () w:=by
    intro h1 h2 h3;have hg:=h2;have hv:cs[o]?=some cs[o]:=avh ah;refine⟨cs[o],by simp[part,ju hg,hv],yj ?_⟩
    rcases h3 with h3|⟨k,h3⟩|h3<;>subst h3
    ·exact .inl hu
    ·exact .inr (.inl ⟨k,hu⟩)
    ·exact .inr (.inr hu)
   cases dd<;>try (cases h;done)
   case bool=>injection h with h;subst h;exact sc rfl (n8 hu rfl) (.inl rfl)
   case int kk=>injection h with h;subst h;exact sc rfl (n8 hu rfl) (.inr (.inl ⟨kk,rfl⟩))
   case string=>injection h with h;subst h;exact sc rfl (n8 hu rfl) (.inr (.inr rfl))
   case struct fs =>
    obtain⟨_,gD,sz,kj,hlen⟩:=tK h0 hu;have hg:n7 P t=some true:=by unfold n7;rw[hu];rfl
    refine⟨.agg (cs.extract o (o+sz)),by simp[part,ju hg,fB kj],?_⟩
    have:=yh (FZ d) (show d<=D by omega) (cs:=cs.extract o (o+sz)) (em:=em) fs.toList 0 ks gD dq
    unfold Instr.checkKey;simp only[Sem.run_bind,run_underlying hu,Result.andThen_ok];rw[<- Array.forIn_toList,this];rfl
def vV{n:Nat}(h:VR gh n w v k)(hc:k.cells=some kc):(∃ C,v=.agg C/\k=.agg kc/\Row gh n w C kc)\/(kc=[k]/\v.oneCell'=true):=by
 have hr:=vn h hc;cases k
 case agg xs =>
  obtain⟨C,rfl,hs,iC,h⟩:=h.mq;injection hc with hc
  subst hc;exact .inl ⟨C,rfl,rfl,hs,h⟩
 case any=>cases hc
 case tuple=>cases hc
 case lbox=>cases hc
 case lref=>cases hc
 case lsl=>cases hc
 case lsr=>cases hc
 case eref=>cases hc
 case iter=>cases hc
 all_goals
  injection hc with hc
  subst hc;exact .inr ⟨rfl,h.gb (by intro cs h;cases h) (by intro cs h;cases h)⟩
def zN{n:Nat}(h:VR gh n w v k)(ha:true=k.isAgg):∃ C,v=.agg C:=by
 cases k<;>first|(cases ha;done)|skip
 obtain⟨C,rfl,_⟩:=h.mq;exact⟨C,rfl⟩
structure Hb (P:Program) (kt:TypeId) (ks:List CK) (ka:Bool):Prop where
 flat:oI P 8 kt=some ks
 agg:n7 P kt=some ka
theorem Hb.cases(h:Hb P kt ks ka):(ka=false/\((P.underlying kt=some .bool/\ks=[.b])\/(∃ k,P.underlying kt=some (.int k)/\ks=[.i])\/(P.underlying kt=some .string/\ks=[.s]))) \/
  (ka=true/\∃ fs,P.underlying kt=some (.struct fs)):=by
 have hf:=h.flat;have ha:=h.agg;unfold oI at hf;unfold n7 at ha;cases hu:P.underlying kt with
 | none=>rw[hu] at hf;cases hf
 | some dd =>
  rw[hu] at hf ha;cases dd<;>try (cases hf;done)
  case bool=>injection hf with hf;subst hf;simp at ha;exact .inl ⟨ha,.inl ⟨rfl,rfl⟩⟩
  case int k=>injection hf with hf;subst hf;simp at ha;exact .inl ⟨ha,.inr (.inl ⟨k,rfl,rfl⟩)⟩
  case string=>injection hf with hf;subst hf;simp at ha;exact .inl ⟨ha,.inr (.inr ⟨rfl,rfl⟩)⟩
  case struct fs=>simp at ha;exact .inr ⟨ha,fs,rfl⟩
def Ar(hK:Hb P kt ks ka){n:Nat}(hk:VR gh n w kv k)(vw:k.cells=some kc)(hl:kc.length=ks.length)(zB:ka=k.isAgg)(em:Bool) :
  (Instr.checkKey em 10000 kt kv).run P w=.ok () w:=by
 rcases hK.cases with ⟨rfl,h⟩|⟨rfl,fs,hu⟩
 ·refine yj ?_
  rcases h with ⟨h,_⟩|⟨k,h,_⟩|⟨h,_⟩
  ·exact .inl h
  ·exact .inr (.inl ⟨k,h⟩)
  ·exact .inr (.inr h)
 ·obtain⟨C,rfl⟩:=zN hk zB
  obtain⟨D7,gD,sz,kj,hlen⟩:=tK hK.flat hu;have hC:C.size=kc.length:=by
   rcases vV hk vw with ⟨C',e,_,hr⟩|⟨_,h1⟩
   ·injection e with e;subst e;exact hr.1
   ·simp[Value.oneCell'] at h1
  have:=yh (FZ (w:=w) (P:=P) 7) (show 7<=9999 by omega) (cs:=C) (em:=em) fs.toList 0 ks gD ah
  unfold Instr.checkKey;simp only[Sem.run_bind,run_underlying hu,Result.andThen_ok];rw[<- Array.forIn_toList,this];rfl
def Nz(S:Nat->Nat->Prop)(w:World)(kz:Nat)(ka:Bool)(v:Value)(r:List AV):Prop:=∃ f:Nat->Value,v=uf ka kz f/\∀ (j:Nat) (x:AV),r[j]?=some x->j<kz->PR S w (f j) x
def s8:∀ {k:List CK} {X Y:List AV} {b:Bool},cD k X Y=some b->k.length<=X.length/\k.length<=Y.length
 | [],X,Y,b,h=>⟨avB _,avB _⟩
 | c :: k,X,Y,b,h=>by
  cases c<;>cases X<;>try (cases h;done)
  all_goals (rename_i x X';cases x<;>try (cases h;done))
  all_goals (cases Y<;>try (cases h;done))
  all_goals (rename_i y Y';cases y<;>try (cases h;done))
  ·simp only[cD,au2] at h
   obtain⟨b',hb,_⟩:=h;have:=s8 hb
   simp;omega
  ·simp only[cD] at h
   obtain⟨_,h⟩:=al h;simp only[au2] at h;obtain⟨b',hb,_⟩:=h;have:=s8 hb
   simp;omega
  ·simp only[cD,au2] at h
   obtain⟨b',hb,_⟩:=h;have:=s8 hb
   simp;omega
def QF(hK:Hb P kt ks ka){n:Nat}(hk:VR gh n w kv k)(vw:k.cells=some kc)(hl:kc.length=ks.length)(zB:ka=k.isAgg)
  {v:Value} {r:List AV} (hv:Nz gh.S w ks.length ka v r) {b:Bool} (he:cD ks kc r=some b) :
  (ka=true->(Op.equal kt kv v).run P w=.ok b w)/\(ka=false->∀ d,P.underlying kt=some d->Instr.sameNow d kv v=some b):=by
 obtain⟨f,rfl,hf⟩:=hv;have Bv:=(s8 he).2
 rcases hK.cases with ⟨rfl,h⟩|⟨rfl,fs,hu⟩
 ·refine⟨(fun h=>by cases h),fun _ d hd=>?_⟩
  have adJ:kc=[k]:=by
   cases k<;>first|(cases zB;done)|(injection vw with vw;exact vw.symm)|(cases vw;done)
  subst adJ;have hv0:∀ x,r[0]?=some x->PR gh.S w (f 0) x:=fun x hx=>hf 0 x hx (by rcases h with ⟨_,h⟩|⟨_,_,h⟩|⟨_,h⟩<;>rw[h]<;>exact Nat.one_pos)
  show Instr.sameNow d kv (f 0)=some b
  cases r with
  | nil=>rcases h with ⟨_,h⟩|⟨_,_,h⟩|⟨_,h⟩<;>subst h<;>simp at Bv
  | cons x r =>
   have hx:=hv0 x rfl
   rcases h with ⟨h,rfl⟩|⟨q,h,rfl⟩|⟨h,rfl⟩
   ·rw[h] at hd;injection hd with hd;subst hd
    cases k<;>try (cases he;done)
    cases x<;>try (cases he;done)
    obtain rfl:=hk.mb;generalize f 0=u at hx;cases hx;simp[cD] at he;simp[Instr.sameNow,he]
   ·rw[h] at hd;injection hd with hd;subst hd
    cases k<;>try (cases he;done)
    cases x<;>try (cases he;done)
    obtain rfl:=hk.kE;generalize f 0=u at hx;cases hx;simp only[cD] at he;obtain⟨h0,he⟩:=al he;simp at he h0;simp[Instr.sameNow,he,h0]
   ·rw[h] at hd;injection hd with hd;subst hd
    cases k<;>try (cases he;done)
    cases x<;>try (cases he;done)
    obtain⟨p,rfl,rfl⟩:=hk.kG;generalize f 0=u at hx;cases hx with
    | str q _ hq =>
     subst hq;simp[cD] at he;simp only[Instr.sameNow,au4];rw[<- he]
     first|rfl|(show (p.data==q.data)=_;simp)
 ·obtain⟨C,rfl⟩:=zN hk zB
  refine⟨fun _=>?_,fun h=>by cases h⟩
  have hC:Row gh n w C kc:=by
   rcases vV hk vw with ⟨C',e,_,hr⟩|⟨_,h1⟩
   ·injection e with e;subst e;exact hr
   ·simp[Value.oneCell'] at h1
  have hD:Row gh n w (((List.range ks.length).map f).toArray) (r.take ks.length):=by
   refine⟨dq,fun j u x hu hx=>?_⟩
   simp only[avC,List.getElem?_map,au2] at hu;obtain⟨i,hi,rfl⟩:=hu;obtain⟨aZ,hij⟩:=au7.1 hi;simp at aZ hij;subst hij;rw[avw,if_pos aZ] at hx;exact .plain _ _ (hf _ x hx aZ)
  have yI:cD ks kc (r.take ks.length)=some b:=by
   rw[<- he,<- qE ks kc r ks.length (Nat.le_refl _),<- qE ks kc (r.take ks.length) ks.length (Nat.le_refl _),axL,Nat.min_self]
  exact xL (zY 7) hK.flat hu (D:=9999) ah (n:=n) hC hD yI
def yz{d:TypeDesc} : ∀ (l:List MapEntry) (es:List (List AV)) (i0:Nat) (o:Option Nat),l.length=es.length ->
  (∀ (i:Nat) (e:MapEntry) (r:List AV) (b:Bool),l[i]?=some e->es[i]?=some r->cD ks kc r=some b->Instr.sameNow d kv e.key=some b)->dK ks kc es=some o ->
  Instr.findNow d kv l i0=some (o.map fun i=>(i0+i,(l.getD i default).val))
 | [],[],i0,o,_,_,h=>by simp only[dK,au4] at h;subst h;rfl
 | [],_ :: _,_,_,hl,_,_=>by simp at hl
 | _ :: _,[],_,_,hl,_,_=>by simp at hl
 | e :: l,r :: es,i0,o,hl,hq,h=>by
  simp only[dK,au3] at h;obtain⟨b,hb,h⟩:=h;have h0:=hq 0 e r b rfl rfl hb;cases b with
  | true =>
   simp only[cond_true,au4] at h;subst h;simp[Instr.findNow,h0]
  | false =>
   simp only[cond_false,au2] at h;obtain⟨o',Om,rfl⟩:=h;have ih:=yz l es (i0+1) o' (cY hl) (fun i e r b h1 h2 h3=>hq (i+1) e r b (cY h1) (cY h2) h3) Om
   simp only[Instr.findNow,h0,ih,aw0];cases o' with
   | none=>rfl
   | some i=>simp[axt,axA 1 i]
def tR : ∀ (l:List MapEntry) (es:List (List AV)) (i0:Nat) (o:Option Nat),l.length=es.length ->
  (∀ (i:Nat) (e:MapEntry) (r:List AV) (b:Bool),l[i]?=some e->es[i]?=some r->cD ks kc r=some b->(Op.equal kt kv e.key).run P w=.ok b w)->dK ks kc es=some o ->
  (Instr.findAsking kt kv l i0).run P w=.ok (o.map fun i=>(i0+i,(l.getD i default).val)) w
 | [],[],i0,o,_,_,h=>by simp only[dK,au4] at h;subst h;rfl
 | [],_ :: _,_,_,hl,_,_=>by simp at hl
 | _ :: _,[],_,_,hl,_,_=>by simp at hl
 | e :: l,r :: es,i0,o,hl,hq,h=>by
  simp only[dK,au3] at h;obtain⟨b,hb,h⟩:=h;have h0:=hq 0 e r b rfl rfl hb;cases b with
  | true =>
   simp only[cond_true,au4] at h;subst h;simp[Instr.findAsking,h0]
  | false =>
   simp only[cond_false,au2] at h;obtain⟨o',Om,rfl⟩:=h;have ih:=tR l es (i0+1) o' (cY hl) (fun i e r b h1 h2 h3=>hq (i+1) e r b (cY h1) (cY h2) h3) Om
   simp only[Instr.findAsking,Sem.run_bind,h0,Result.andThen_ok,awj,axN,ih];cases o' with
   | none=>rfl
   | some i=>simp[axt,axA 1 i]
def DI(hK:Hb P kt ks ka){n:Nat}(hk:VR gh n w kv k)(vw:k.cells=some kc)(hl:kc.length=ks.length)(zB:ka=k.isAgg)
  {l:List MapEntry} {es:List (List AV)} (hlen:l.length=es.length) (bX:∀ (i:Nat) (e:MapEntry) (r:List AV),l[i]?=some e->es[i]?=some r->Nz gh.S w ks.length ka e.key r) {o:Option Nat} (hf:dK ks kc es=some o) :
  (Instr.findKey kt kv l).run P w=.ok (o.map fun i=>(i,(l.getD i default).val)) w:=by
 have hq:=fun (i:Nat) (e:MapEntry) (r:List AV) (b:Bool) (h1:l[i]?=some e) (h2:es[i]?=some r) (h3:cD ks kc r=some b)=>QF hK hk vw hl zB (bX i e r h1 h2) h3
 rcases hK.cases with ⟨rfl,h⟩|⟨rfl,fs,hu⟩
 ·obtain⟨d,hd⟩:∃ d,P.underlying kt=some d:=by rcases h with ⟨h,_⟩|⟨_,h,_⟩|⟨h,_⟩<;>exact⟨_,h⟩
  have hn:=yz l es 0 o hlen (fun i e r b h1 h2 h3=>(hq i e r b h1 h2 h3).2 rfl d hd) hf
  simp only[avA] at hn;simp[Instr.findKey,run_underlying hd,hn]
 ·cases l with
  | nil =>
   cases es with
   | cons _ _=>simp at hlen
   | nil =>
    simp only[dK,au4] at hf;subst hf;simp[Instr.findKey,run_underlying hu,Instr.findNow]
  | cons e l =>
   have hn:=tR (P:=P) (w:=w) (e :: l) es 0 o hlen (fun i e r b h1 h2 h3=>(hq i e r b h1 h2 h3).1 rfl) hf
   simp only[avA] at hn;simp[Instr.findKey,run_underlying hu,Instr.findNow,Instr.sameNow,hn]
end
end
section
section
variable {P:Program}{G:Nat->List AV}{base nt:Nat}{L:List Nat}{gh:Gh}{w w' : World}{a:Act}{s:AS}{H:ae}
def xC(w:World)(b:Nat)(E:Array MapEntry)(ck:Nat):World:={ w with heap:=w.heap.setIfInBounds b (Obj.map E ck) }
def KU{E:Array MapEntry}(hb:w.heap[b]?=some (.map E ck)):(xC w b E' ck').heap[b]?=some (.map E' ck'):=by
 have aZ:b<w.heap.size:=(avc.1 hb).1;simp[xC,aZ]
theorem oW{b':Nat}(h:b'≠b):(xC w b E' ck').heap[b']?=w.heap[b']?:=by
 simp[xC,awr h]
def DJ{E:Array MapEntry}(hb:w.heap[b]?=some (.map E ck)):(setObj b (.map E' ck')).run P w=.ok () (xC w b E' ck'):=by
 simp[setObj,Sem.run,hb,xC]
theorem Kh(hW:a8 G base H gh w){E:Array MapEntry}(hb:w.heap[b]?=some (.map E ck))(hS:∀ o,¬ gh.S b o)(n:Nat):Step (fun r=>r=gh.κ b) n gh w gh (xC w b E' ck'):=by
 have dk:∀ b' o,gh.S b' o->b'≠b:=fun b' o h=>by rintro rfl;exact hS o h
 refine⟨fun _ _ h=>h,fun b' o h=>cell_of_heap (oW (dk b' o h)),by simp[xC],rfl,rfl,rfl,fun b' iR hn=>?_,fun b' iR=>?_,fun _ _=>rfl,fun b' ty m hm=>?_,fun b' E1 c1 hs hm=>?_⟩
 ·have Fx:b'≠b:=by rintro rfl;exact hn rfl
  exact⟨.inl (oW Fx),rfl,fun _ h=>h⟩
 ·have:w.heap.size<=b':=by simpa [xC] using iR
  exact hW.cB b' this
 ·obtain⟨C,fr,h1,h2⟩:=hm
  have Fx:b'≠b:=by rintro rfl;rw[hb] at h1;cases h1
  exact⟨C,fr,by rw[oW Fx];exact h1,h2⟩
 ·grind [oW]
structure Ln (P:Program) (t kt et:TypeId) (ks:List CK) (ka va:Bool) (vz:Nat) (z:Value) (zero:List AV):Prop where
 ht:P.underlying t=some (.map kt et)
 key:Hb P kt ks ka
 vz1:va=false->vz=1
 hz:∃ i,P.info? et=some i/\i.zero=some z
 cells:fy z.cells.toList=some zero
 agg:RZ z=va
 len:zero.length=vz
def Hb.kz(h:Hb P kt ks ka)(hf:ka=false):ks.length=1:=by
 rcases h.cases with ⟨_,⟨_,h⟩|⟨_,_,h⟩|⟨_,h⟩⟩|⟨rfl,_⟩
 ·rw[h];rfl
 ·rw[h];rfl
 ·rw[h];rfl
 ·cases hf
def y9{t:TypeId}{m:List CK × Bool × Bool × List AV}(h:QP P t=some m):∃ kt et z,Ln P t kt et m.1 m.2.1 m.2.2.1 m.2.2.2.length z m.2.2.2:=by
 unfold QP at h;split at h
 ·rename_i kt et hu
  simp only[au3] at h;obtain⟨ks,gD,ka,zB,i,hi,z,hz,zero,hzc,h⟩:=h;obtain⟨h0,h⟩:=al h;injection h with h
  subst h;refine⟨kt,et,z,hu,⟨gD,zB⟩,fun hv=>?_,⟨i,hi,hz⟩,hzc,rfl,rfl⟩
  simp_all
 ·cases h
def S2(hW:a8 G base s.H gh w)(hF:FR L nt gh w a s){t:TypeId}(ho:o.op=.makeMap t none)(hd:∀ k,o.dst=some k->k<nt)(kz:Nat)(ka va:Bool) :
  ∃ v' br w',wS P a o w v' w'/\Out G base nt L gh w a s o.dst (.mref s.H.length) (s.iK ⟨s.H++[.map kz ka va []],s.H.length⟩) v' br w':=by
 have hp:=fQ.alloc w (.map #[] 0);have hρ:(gh.bK w.heap.size s.H.length).ρ s.H.length=w.heap.size:=by simp[Gh.bK]
 have hv:VR (gh.bK w.heap.size s.H.length) (s.H++[bS.map kz ka va []]).length (w.alloc (.map #[] 0)) (.map (some w.heap.size)) (.mref s.H.length):=by
  have:=VR.mref (gh:=gh.bK w.heap.size s.H.length) (w:=w.alloc (.map #[] 0)) (n:=(s.H++[bS.map kz ka va []]).length) s.H.length ag
  rw[hρ] at this;exact this
 have hM:wR (gh.bK w.heap.size s.H.length) (s.H.length+1) (w.alloc (.map #[] 0)) w.heap.size s.H.length (.map kz ka va []):=by
  refine⟨⟨by simp[Gh.bK,Gh.alloc],?_,#[],0,fun _ _=>undef,hp.new,⟨rfl,rfl,fun i e h=>by simp at h,fun i e h=>by simp at h,fun i j e e' h=>by simp at h,fun i e r h=>by simp at h⟩,fun i j r x h=>by simp at h,fun i j r x h=>by simp at h⟩,rfl⟩
  rintro o (ho|⟨_,ho⟩)
  ·have:=hW.qa _ o ho;omega
  ·exact ho
 refine⟨_,_,_,.inl ?_,hW.Dx hp (fun _ _ h=>by cases h) hM,hF.put (gS hW hp) (fun i=>⟨id,id,fun _=>id⟩) ag o.dst hd (.dG hv),lq hW hp⟩
 simp[execOp,ho,Instr.makeMap,newObj,Sem.run]
theorem U4{n:Nat}{m:Nat}(hm:cs.length=m)(h1:va=false->m=1)(h:∀ (j:Nat) (x:AV),cs[j]?=some x->VR gh n w (g j) x.drop/\(g j).oneCell'=true) :
  VR gh n w (uf va m g) (cond va (.agg (cs.map AV.drop)) ((cs.headD .undef).drop)):=by
 cases va with
 | true =>
  refine .agg _ _ (zo hm) (fun j v hv=>?_) (fun j v x hv hx=>?_)
  ·simp only[avC,List.getElem?_map,au2] at hv
   obtain⟨i,hi,rfl⟩:=hv;obtain⟨aZ,hij⟩:=au7.1 hi;simp at aZ hij
   simp_all
  ·grind
 | false =>
  have:=h1 rfl
  cases cs with
  | nil=>simp at hm;omega
  | cons x cs=>exact (h 0 x rfl).1
def Pc{n:Nat}{t:TypeId}(hT:Ln P t kt et ks ka va vz z zero):VR gh n w z (cond va (.agg (zero.map AV.drop)) ((zero.headD .undef).drop)):=by
 obtain⟨hl,hv⟩:=l7 (gh:=gh) (n:=n) (w:=w) hT.cells;have Lh:=hT.agg;cases z
 case agg C =>
  simp[RZ] at Lh;subst Lh;refine .agg C _ (by simpa [Value.cells] using hl) (fun j v oT=>?_) (fun j v x oT hx=>?_)
  ·have aZ:=(avc.1 oT).1
   have hz:zero[j]?=some zero[j]:=au5 (by
    have:C.toList.length=zero.length:=by simpa [Value.cells] using hl
    simp at this;omega)
   exact (hv j v _ (by simpa [Value.cells] using oT) hz).2
  ·simp only[List.getElem?_map,au2] at hx
   obtain⟨y,hy,rfl⟩:=hx;exact (hv j v y (by simpa [Value.cells] using oT) hy).1.dropped
 all_goals
  simp[RZ] at Lh;subst Lh;have h1:zero.length=1:=by rw[hT.len];exact hT.vz1 rfl
  obtain⟨x,rfl⟩:=awo.1 h1;exact (hv 0 _ x rfl rfl).1.dropped
def Dh{n:Nat}{ok:Bool}(h:VR gh n w v (cond va (.agg (cs.map AV.drop)) ((cs.headD .undef).drop)))(found:Bool) :
  VR gh n w (if ok then .tuple #[v,.bool found] else v) (A6 ok va cs found):=by
 unfold A6;simp only;cases ok with
 | false=>exact h
 | true =>
  refine .tuple _ _ rfl (fun j u x hu hx=>?_)
  match j with
  | 0=>injection hu with hu;injection hx with hx;subst hu hx;exact h
  | 1=>injection hu with hu;injection hx with hx;subst hu hx;exact .plain _ _ (.bool _)
  | j+2=>simp at hx
structure Rows (gh:Gh) (n:Nat) (w:World) (E:Array MapEntry) (kz:Nat) (ka va:Bool) (es:List (List AV)):Prop where
 size:E.size=es.length
 key:∀ (i:Nat) (e:MapEntry) (r:List AV),E[i]?=some e->es[i]?=some r->Nz gh.S w kz ka e.key r
 val:∀ (i:Nat) (e:MapEntry) (r:List AV),E[i]?=some e->es[i]?=some r->kz<=r.length/\(va=false->r.length=kz+1)/\∃ g,e.val=uf va (r.length-kz) g/\∀ (j:Nat) (x:AV),(r.drop kz)[j]?=some x->VR gh n w (g j) x.drop/\(g j).oneCell'=true
def DH{n kz:Nat}(h:PR gh.S w v (.je kz ka va es)):∃ b E ck,v=.map (some b)/\w.heap[b]?=some (.map E ck)/\Rows gh n w E kz ka va es:=by
 cases h with
 | je b _ _ _ _ E ck f hS hb hE dr =>
  refine⟨b,E,ck,rfl,hb,hE.size,fun i e r h1 h2=>⟨f i,(hE.row i e r h1 h2).2.2.2.1,fun j x hj _=>dr i j r x h2 hj⟩,fun i e r h1 h2=>?_⟩
  obtain⟨k1,_,k2,_,k3⟩:=hE.row i e r h1 h2;refine⟨k1,k2,fun j=>f i (kz+j),k3,fun j x hj=>?_⟩
  rw[av9] at hj;have:=dr i (kz+j) r x h2 hj
  exact⟨VR.dropped (.plain _ _ this),this.gb⟩
def DG{n kz:Nat}(h:FI gh n w b p q kz ka va es):∃ E ck,w.heap[b]?=some (.map E ck)/\Rows gh n w E kz ka va es:=by
 obtain⟨_,_,E,ck,f,hb,hE,h1,h2⟩:=h;refine⟨E,ck,hb,hE.size,fun i e r k1 k2=>⟨f i,(hE.row i e r k1 k2).2.2.2.1,fun j x hj hl=>h1 i j r x k2 hj hl⟩,fun i e r k1 k2=>?_⟩
 obtain⟨l1,_,l2,_,l3⟩:=hE.row i e r k1 k2;refine⟨l1,l2,fun j=>f i (kz+j),l3,fun j x hj=>?_⟩
 rw[av9] at hj;obtain⟨m1,_,m2⟩:=h2 i (kz+j) r x k2 hj ah;exact⟨m2.dropped,m1⟩
def BO:∀ {ks:List CK} {kc:List AV} {es:List (List AV)} {i:Nat},dK ks kc es=some (some i)->i<es.length
 | ks,kc,[],i,h=>by simp[dK] at h
 | ks,kc,r :: es,i,h=>by
  simp only[dK,au3] at h;obtain⟨b,_,h⟩:=h;cases b with
  | true=>simp at h;subst h;simp
  | false =>
   simp only[cond_false,au2] at h;obtain⟨o,ho,h⟩:=h;cases o with
   | none=>simp at h
   | some j=>simp at h;subst h;have:=BO ho;simp;omega
theorem KN{n:Nat}{t:TypeId}(hT:Ln P t kt et ks ka va vz z zero)(hk:VR gh n w kv k)(vw:k.cells=some kc)(hl:kc.length=ks.length)(zB:ka=k.isAgg)
  {b:Nat} {E:Array MapEntry} {ck:Nat} {es:List (List AV)} (hb:w.heap[b]?=some (.map E ck)) (hR:Rows gh n w E ks.length ka va es) {o:Option Nat} (hf:dK ks kc es=some o) (ok:Bool) :
  ∃ v,(Instr.lookup t (.map (some b)) kv ok).run P w=.ok v w/\VR gh n w v (pW ok va zero ks.length es o):=by
 have xS:=Ar hT.key hk vw hl zB E.isEmpty;have RA:=DI hT.key hk vw hl zB (l:=E.toList) (cY hR.size) (fun i e r h1 h2=>hR.key i e r (cY h1) h2) hf
 obtain⟨i0,WX,hz0⟩:=hT.hz;have hzr:(zeroValue et).run P w=.ok z w:=by simp[zeroValue,typeInfo,WX,hz0]
 cases o with
 | none =>
  refine⟨if ok then .tuple #[z,.bool false] else z,?_,Dh (Pc hT) false⟩
  simp[Instr.lookup,run_underlying hT.ht,getObj,Sem.run,hb];simp[xS,RA,hzr]
 | some i =>
  have hi:=BO hf;have hiE:i<E.size:=by rw[hR.size];exact hi
  have hE:E[i]?=some E[i]:=avh hiE;have he:es[i]?=some es[i]:=au5 hi;obtain⟨k1,k2,g,k3,k4⟩:=hR.val i _ _ hE he;have HK:es.getD i []=es[i]:=by simp[List.getD,he]
  have hed:E.toList.getD i default=E[i]:=by
   grind
  have hv:=U4 (gh:=gh) (n:=n) (w:=w) (va:=va) (m:=es[i].length-ks.length) (g:=g) (cs:=es[i].drop ks.length) ag (fun hva=>by have:=k2 hva;omega) k4
  rw[<- k3] at hv;refine⟨if ok then .tuple #[E[i].val,.bool true] else E[i].val,?_,by simp only[pW];rw[HK];exact Dh hv true⟩
  simp only[ave,hed] at RA;simp[Instr.lookup,run_underlying hT.ht,getObj,Sem.run,hb];simp[xS,RA]
def Iq{n:Nat}{t:TypeId}(hT:Ln P t kt et ks ka va vz z zero)(hk:VR gh n w kv k)(vw:k.cells=some kc)(hl:kc.length=ks.length)(zB:ka=k.isAgg)(ok:Bool) :
  ∃ v,(Instr.lookup t (.map none) kv ok).run P w=.ok v w/\VR gh n w v (A6 ok va zero false):=by
 have xS:=Ar hT.key hk vw hl zB true;have RA:=DI hT.key hk vw hl zB (l:=[]) (es:=[]) rfl (fun i e r h1 h2=>by simp at h1) (o:=none) rfl
 obtain⟨i0,WX,hz0⟩:=hT.hz;have hzr:(zeroValue et).run P w=.ok z w:=by simp[zeroValue,typeInfo,WX,hz0]
 refine⟨if ok then .tuple #[z,.bool false] else z,?_,Dh (Pc hT) false⟩
 simp[Instr.lookup,run_underlying hT.ht];simp[xS,RA,hzr]
end
end
section
section
variable {P:Program}{G:Nat->List AV}{base nt:Nat}{L:List Nat}{gh:Gh}{w w' : World}{a:Act}{s:AS}{H:ae}
theorem find_spec{a:List UInt8} : ∀ (es:List (List AV)),(∀ r,r∈es->∃ b,tJ r=some b)->∃ o,dK [.s] [.str a] es=some o /\
  ((o=none/\∀ r,r∈es->tJ r≠some a)\/∃ i r,o=some i/\es[i]?=some r/\tJ r=some a)
 | [],_=>⟨none,rfl,.inl ⟨rfl,fun r h=>by cases h⟩⟩
 | r :: es,h=>by
  obtain⟨b,hb⟩:=h r (List.mem_cons_self ..);obtain⟨q,rfl⟩:∃ q,r=.str b :: q:=by
   unfold tJ at hb
   grind
  obtain⟨o,ho,hs⟩:=find_spec (a:=a) es (fun r hr=>h r (awc _ hr))
  by_cases hab:a=b
  ·subst hab
   exact⟨some 0,by simp[dK,cD],.inr ⟨0,_,rfl,rfl,rfl⟩⟩
  ·have dk:(a==b)=false:=cY hab
   refine⟨o.map (· + 1),by simp[dK,cD,dk,ho],?_⟩
   grind
theorem apart_spec:∀ {es:List (List AV)},ux es=true->(∀ r,r∈es->∃ b,tJ r=some b)/\∀ r r',r∈es->r'∈es->tJ r=tJ r'->r=r'
 | [],_=>⟨fun r h=>(by cases h),fun r r' h=>(by cases h)⟩
 | q :: es,h=>by
  simp only[ux,au6] at h;obtain⟨h1,h2⟩:=h;obtain⟨i1,i2⟩:=apart_spec h2
  grind
theorem P6{a:List UInt8}{uI:List (List AV)}(hp:uI.Perm es)(ha:ux es=true){o:Option Nat}(hf:dK [.s] [.str a] es=some o)(ok va:Bool)(zero:List AV)(kz:Nat) :
  ∃ o',dK [.s] [.str a] uI=some o'/\pW ok va zero kz uI o'=pW ok va zero kz es o:=by
 obtain⟨h1,h2⟩:=apart_spec ha;obtain⟨o1,e1,s1⟩:=find_spec (a:=a) es h1;rw[hf] at e1;injection e1 with e1
 subst e1;obtain⟨o',e2,s2⟩:=find_spec (a:=a) uI (fun r hr=>h1 r (hp.mem_iff.1 hr))
 refine⟨o',e2,?_⟩
 rcases s1 with ⟨rfl,s1⟩|⟨i,r,rfl,k1,k2⟩
 ·rcases s2 with ⟨rfl,_⟩|⟨i',r',rfl,k1',k2'⟩
  ·rfl
  ·grind
 ·rcases s2 with ⟨rfl,s2⟩|⟨i',r',rfl,k1',k2'⟩
  ·grind
  ·have:r'=r:=h2 r' r (hp.mem_iff.1 (avb k1')) (avb k1) (k2'.trans k2.symm)
   subst this;simp only[pW,List.getD,k1,k1']
theorem XH(hW:a8 G base s.H gh w)(hF:FR L nt gh w a s){t:TypeId}(hT:Ln P t kt et ks ka va vz zv zero){i:Operand}{yi:aE}{ok:Bool}{z:AV}
  (ho:o.op=.lookup t x i ok) (hc:av nt x=some y) (hi:av nt i=some yi) (he:w7 s ok ks.length ka va ks zero (y.addr G s.T) (yi.eval G s.T)=some (z,s')) :
  s'=none/\∃ v,(execOp a.eval o).run P w=.ok (.value v) w/\oZ gh s.H.length nt w s.T s.gen (gP a) v z:=by
 simp only[w7,au3] at he;obtain⟨kc,vw,he⟩:=he;obtain⟨h0,he⟩:=al he;simp only[au6,iI,avf,avM] at h0;obtain⟨hl,zB⟩:=h0;have JX:aN (yi.eval G s.T)=true:=by rw[<- kX];exact jV vw
 have hk:=cU hW hF hi rfl JX;have fin:∀ {M:Value} {zz:AV},a.eval x=M->(∃ v,(Instr.lookup t M (a.eval i) ok).run P w=.ok v w/\VR gh s.H.length w v zz)->∃ v,(execOp a.eval o).run P w=.ok (.value v) w/\oZ gh s.H.length nt w s.T s.gen (gP a) v zz:=by
  rintro M zz rfl ⟨v,h1,h2⟩
  exact⟨v,by simp[execOp,ho,h1],.dG h2⟩
 have hm:=arg_val hW hF hc;split at he
 ·rename_i hM
  simp only[au4,au8] at he;obtain⟨rfl,rfl⟩:=he;rw[hM] at hm;refine⟨rfl,fin (M:=.map none) ?_ (Iq hT hk vw hl zB ok)⟩;generalize a.eval x=V at hm;cases (hm:VR gh s.H.length w V .kA) with
  | plain _ _ h=>cases h;rfl
 ·rename_i qo qm qp es hM
  obtain⟨h1,iZ⟩:=al he;clear he;simp only[au2,au8] at iZ;obtain⟨r,hf,rfl,rfl⟩:=iZ;simp only[au6,iI,avf,avM] at h1;obtain⟨⟨⟨⟨rfl,rfl⟩,rfl⟩,vY⟩,Fy⟩:=h1;obtain⟨str,rfl,rfl⟩:∃ str,ks=[.s]/\kc=[.str str]:=by
   unfold UK at Fy
   grind
  refine⟨rfl,?_⟩;rw[hM] at hm;have hp:PR gh.S w (a.eval x) (.mz [CK.s].length ka va es):=by
   generalize a.eval x=V at hm;cases (hm:VR gh s.H.length w V (.mz [CK.s].length ka va es)) with
   | plain _ _ h=>exact h
  generalize hV:a.eval x=V at hp;cases hp with
  | mz b _ _ _ _ uI E ck f hS hb hI hpm dr =>
   have hE:=hI.size;have bX:=hI.row;obtain⟨o',hf',W0⟩:=P6 hpm vY hf ok va zero [CK.s].length;rw[<- W0];have hR:Rows gh s.H.length w E [CK.s].length ka va uI:=by
    refine⟨hE,fun i e r h1 h2=>⟨f i,(bX i e r h1 h2).2.2.2.1,fun j x hj _=>dr i j r x h2 hj⟩,fun i e r h1 h2=>?_⟩
    obtain⟨k1,_,k2,_,k3⟩:=bX i e r h1 h2;refine⟨k1,k2,_,k3,fun j x hj=>?_⟩
    rw[av9] at hj;have:=dr i _ r x h2 hj
    exact⟨VR.dropped (.plain _ _ this),this.gb⟩
   exact fin hV (KN hT hk vw hl zB hb hR hf' ok)
 ·simp only[au3,au2,au8] at he
  obtain⟨es,dw,r,hf,rfl,rfl⟩:=he;refine⟨rfl,?_⟩;have key:∃ b E ck,a.eval x=.map (some b)/\w.heap[b]?=some (.map E ck)/\Rows gh s.H.length w E ks.length ka va es:=by
   generalize hY:y.addr G s.T=Y at hm dw;have hp:∀ qo qm qp uI,Y=.je qo qm qp uI->PR gh.S w (a.eval x) (.je qo qm qp uI):=by
    rintro _ _ _ _ rfl
    generalize a.eval x=V at hm;cases (hm:VR gh s.H.length w V (.je _ _ _ _)) with
    | plain _ _ h=>exact h
   unfold za at dw;split at dw
   ·obtain⟨h1,dw⟩:=al dw
    injection dw with dw
    subst dw;simp only[au6,iI,avf,avM] at h1;obtain⟨⟨rfl,rfl⟩,rfl⟩:=h1;exact DH (hp _ _ _ _ rfl)
   ·obtain⟨aZ,tU⟩:=VR.pQ (hm:VR gh s.H.length w (a.eval x) (.mref _))
    split at dw
    ·rename_i hH
     obtain⟨h1,dw⟩:=al dw;injection dw with dw
     subst dw;simp only[au6,iI,avf,avM] at h1;obtain⟨⟨rfl,rfl⟩,rfl⟩:=h1;obtain⟨E,ck,hb,hR⟩:=DG (hW.more _ _ hH).1;exact⟨_,E,ck,tU,hb,hR⟩
    ·rename_i hH
     obtain⟨h1,dw⟩:=al dw;injection dw with dw
     subst dw;simp only[au6,iI,avf,avM] at h1;obtain⟨⟨rfl,rfl⟩,rfl⟩:=h1;obtain⟨b,E,ck,hv,hb,hR⟩:=DH (n:=s.H.length) (hW.more _ _ hH:PR gh.S w _ _);exact⟨b,E,ck,tU.trans hv,hb,hR⟩
    ·cases dw
   ·cases dw
  obtain⟨b,E,ck,tU,hb,hR⟩:=key;exact fin tU (KN hT hk vw hl zB hb hR hf ok)
def find_eq:∀ {ks:List CK} {kc:List AV} {es:List (List AV)} {i:Nat} {r:List AV},dK ks kc es=some (some i)->es[i]?=some r->cD ks kc r=some true
 | ks,kc,[],i,r,h,_=>by simp[dK] at h
 | ks,kc,q :: es,i,r,h,hr=>by
  simp only[dK,au3] at h;obtain⟨b,hb,h⟩:=h;cases b with
  | true=>simp at h;subst h;simp at hr;subst hr;exact hb
  | false =>
   simp only[cond_false,au2] at h;obtain⟨o,ho,h⟩:=h;cases o with
   | none=>simp at h
   | some j=>simp at h;subst h;exact find_eq ho (cY hr)
theorem FT{n m:Nat}{c:CK}{u:Value}{x y:AV}(hu:VR gh n w u x)(hv:PR gh.S w v y)(h:cD [c] [x] [y]=some true):Instr.sameBits m v u=true:=by
 cases c<;>cases x<;>try (cases h;done)
 all_goals (cases y<;>try (cases h;done))
 ·obtain rfl:=hu.mb
  cases hv;simp[cD] at h;cases m<;>simp[Instr.sameBits,h]
 ·obtain rfl:=hu.kE
  cases hv;simp only[cD] at h;obtain⟨h0,h⟩:=al h;simp at h h0;cases m<;>simp[Instr.sameBits,h,h0]
 ·obtain⟨p,rfl,rfl⟩:=hu.kG
  cases hv with
  | str q _ hq =>
   simp[cD] at h;have:q=p:=by
    cases p;cases q
    congr 1
    exact aw1 (by rw[hq];simp at h ⊢;rw[h])
   subst this;have hb:(q==q)=true:=show (q.data==q.data)=true by simp
   cases m<;>simp[Instr.sameBits,hb]
theorem Gb:∀ {ks:List CK} {X Y:List AV},cD ks X Y=some true->∀ (j:Nat) (c:CK),ks[j]?=some c->∃ x y,X[j]?=some x/\Y[j]?=some y/\cD [c] [x] [y]=some true
 | [],X,Y,h,j,c,hj=>by simp at hj
 | c0 :: ks,X,Y,h,j,c,hj=>by
  have one:∀ (x y:AV) (X' Y' : List AV) (e:Bool),X=x :: X'->Y=y :: Y'->cD [c0] [x] [y]=some e->(cD ks X' Y').map (e&&·)=some true->∃ x y,X[j]?=some x/\Y[j]?=some y/\cD [c] [x] [y]=some true:=by
   rintro x y X' Y' e rfl rfl h1 h2
   simp only[au2,au6] at h2;obtain⟨b,hb,rfl,rfl⟩:=h2;cases j with
   | zero=>simp at hj;subst hj;exact⟨x,y,rfl,rfl,h1⟩
   | succ j =>
    obtain⟨x',y',k1,k2,k3⟩:=Gb hb j c (cY hj)
    grind
  cases c0<;>cases X<;>try (cases h;done)
  all_goals (rename_i x X';cases x<;>try (cases h;done))
  all_goals (cases Y<;>try (cases h;done))
  all_goals (rename_i y Y';cases y<;>try (cases h;done))
  ·exact one _ _ _ _ _ rfl rfl (by simp[cD]) h
  ·simp only[cD] at h
   obtain⟨h0,h⟩:=al h;exact one _ _ _ _ _ rfl rfl (by simp only[cD,h0,cond_true];simp) h
  ·exact one _ _ _ _ _ rfl rfl (by simp[cD]) h
theorem Sl(hK:Hb P kt ks ka){n:Nat}(hk:VR gh n w kv k)(vw:k.cells=some kc)(hl:kc.length=ks.length)(zB:ka=k.isAgg)
  {v:Value} {r:List AV} (hv:Nz gh.S w ks.length ka v r) (he:cD ks kc r=some true):Instr.sameBits 10000 v kv=true:=by
 obtain⟨f,rfl,hf⟩:=hv;have Qj:=Gb he;cases ka with
 | false =>
  have h1:=hK.kz rfl;obtain⟨c,rfl⟩:=awo.1 h1;have adJ:kc=[k]:=by
   cases k<;>first|(cases zB;done)|(injection vw with vw;exact vw.symm)|(cases vw;done)
  subst adJ;obtain⟨x,y,k1,k2,k3⟩:=Qj 0 c rfl;simp at k1;subst k1;exact FT hk (hf 0 y k2 ag) k3
 | true =>
  obtain⟨C,rfl⟩:=zN hk zB;have hC:Row gh n w C kc:=by
   rcases vV hk vw with ⟨C',e,_,hr⟩|⟨_,h1⟩
   ·grind
   ·simp[Value.oneCell'] at h1
  show Instr.sameBits (9999+1) (.agg ((List.range ks.length).map f).toArray) (.agg C)=true
  simp only[Instr.sameBits,au6,avM,ava];refine⟨by simp[hC.1,hl],fun p hp=>?_⟩
  obtain⟨j,hj⟩:=avu hp;rw[axa] at hj;obtain⟨h1,h2⟩:=hj;simp only[List.getElem?_map,au2] at h1;obtain⟨i,hi,RA⟩:=h1;obtain⟨aZ,hij⟩:=au7.1 hi;simp at aZ hij;subst hij;have hc:ks[j]?=some ks[j]:=au5 aZ;obtain⟨x,y,k1,k2,k3⟩:=Qj j _ hc;have hu:=hC.2 j p.2 x (cY h2) k1
  grind [FT]
def G7{n:Nat}{x:AV}(h:VR gh n w v x)(hc:x.cells=some cs):v=uf x.isAgg cs.length (fun j=>v.cells.getD j undef)/\∀ (j:Nat) (y:AV),cs[j]?=some y->VR gh n w (v.cells.getD j undef) y/\(v.cells.getD j undef).oneCell'=true:=by
 have hr:=vn h hc;refine⟨?_,fun j y hj=>?_⟩
 ·rcases vV h hc with ⟨C,rfl,rfl,bX⟩|⟨rfl,iC⟩
  ·simp only[uf,AV.isAgg,cond_true,Value.cells]
   congr 1
   refine Array.ext (by simp[bX.1]) (fun i h1 h2=>by simp[h1])
  ·have Lh:x.isAgg=false:=by
    cases x<;>first|rfl|skip
    obtain⟨C,rfl,_⟩:=h.mq;simp[Value.oneCell'] at iC
   have hv:v.cells=#[v]:=by cases v<;>first|rfl|(simp[Value.oneCell'] at iC)
   simp[uf,Lh,hv]
 ·have aZ:j<v.cells.size:=by rw[hr.1];exact (au7.1 hj).1
  have hv:v.cells[j]?=some v.cells[j]:=avh aZ;obtain⟨h1,h2⟩:=hr.2 j _ y hv hj
  simp_all
end
end
section
section
variable {P:Program}{G:Nat->List AV}{base nt:Nat}{L:List Nat}{gh:Gh}{w w' : World}{a:Act}{s:AS}{H:ae}
theorem vD{agg:Bool}{n:Nat}{f:Nat->Value}(h:∀ j,j<n->f j=g j)(hn:agg=false->0<n):uf agg n f=uf agg n g:=by
 cases agg with
 | true =>
  simp only[uf,cond_true]
  simp_all
 | false=>exact h 0 (hn rfl)
def oV(E:Array MapEntry)(ck:Nat)(o:Option Nat)(kv vv:Value):Array MapEntry × Nat :=
 match o with
 | none=>(E.push { key:=kv,val:=vv,born:=ck },ck+1)
 | some i=>(E.modify i fun e=>{ e with key:=kv,val:=vv },ck)
def V2{n:Nat}{t:TypeId}(hT:Ln P t kt et ks ka va vz zv zero){vv:Value}(hk:VR gh n w kv k)(vw:k.cells=some kc)(hl:kc.length=ks.length)(zB:ka=k.isAgg)
  {b:Nat} {E:Array MapEntry} {ck:Nat} {es:List (List AV)} (hb:w.heap[b]?=some (.map E ck)) (hR:Rows gh n w E ks.length ka va es) {o:Option Nat} (hf:dK ks kc es=some o) :
  (Instr.mapUpdate t (.map (some b)) kv vv).run P w=.ok () (xC w b (oV E ck o kv vv).1 (oV E ck o kv vv).2):=by
 have xS:=Ar hT.key hk vw hl zB false;have RA:=DI hT.key hk vw hl zB (l:=E.toList) (cY hR.size) (fun i e r h1 h2=>hR.key i e r (cY h1) h2) hf
 cases o with
 | none =>
  have hs:=DJ (P:=P) (w:=w) (E':=E.push { key:=kv,val:=vv,born:=ck }) (ck':=ck+1) hb;simp[Instr.mapUpdate,run_underlying hT.ht,getObj,Sem.run,hb];simp[xS,RA,oV];exact hs
 | some i =>
  have hi:=BO hf;have hiE:i<E.size:=by rw[hR.size];exact hi
  have hE:E[i]?=some E[i]:=avh hiE;have he:es[i]?=some es[i]:=au5 hi;have ahX:=Sl hT.key hk vw hl zB (hR.key i _ _ hE he) (find_eq hf he);have hs:=DJ (P:=P) (w:=w) (E':=E.modify i fun e=>{ e with key:=kv,val:=vv }) (ck':=ck) hb
  simp[Instr.mapUpdate,run_underlying hT.ht,getObj,Sem.run,hb];simp only[ave] at RA;simp[xS,RA,oV,hiE,Instr.keyThatStays,ahX];exact hs
theorem afV{n l kz:Nat}{E:Array MapEntry}{f:Nat->Nat->Value}(hW:a8 G base H gh w)(hκ:gh.κ b=.hb l)(hS:∀ o,¬ gh.S b o)(hb:w.heap[b]?=some (.map E ck))(hE:IZ E ck kz ka va es f)
  (h1:∀ (i j:Nat) (r:List AV) (x:AV),es[i]?=some r->r[j]?=some x->j<kz->PR gh.S w (f i j) x)
  (h2:∀ (i j:Nat) (r:List AV) (x:AV),es[i]?=some r->r[j]?=some x->kz<=j->(f i j).oneCell'=true/\(va=true->VR gh n w (f i j) x)/\CR gh n w (.hs l i) (f i j) x)
  {kc vc:List AV} {fk fv:Nat->Value} (hkz:kc.length=kz) (AY:ka=false->kz=1) (Ym:va=false->vc.length=1) (Mj:∀ (j:Nat) (x:AV),kc[j]?=some x->PR gh.S w (fk j) x)
  {o:Option Nat} (ho:∀ i,o=some i->i<es.length) (hvv:∀ (j:Nat) (x:AV),vc[j]?=some x->(fv j).oneCell'=true/\(va=true->VR gh n w (fv j) x)/\CR gh n w (.hs l (o.getD es.length)) (fv j) x) :
  FI gh n (xC w b (oV E ck o (uf ka kz fk) (uf va vc.length fv)).1 (oV E ck o (uf ka kz fk) (uf va vc.length fv)).2) b (.hb l) (fun i=>.hs l i) kz ka va (wj es o (kc++vc)):=by
 have st:=Kh (E':=(oV E ck o (uf ka kz fk) (uf va vc.length fv)).1) (ck':=(oV E ck o (uf ka kz fk) (uf va vc.length fv)).2) hW hb hS n;rw[hκ] at st
 let idx:=o.getD es.length
 let f' : Nat->Nat->Value:=fun i j=>if i=idx then (if j<kz then fk j else fv (j-kz)) else f i j
 have bX:∀ i r,(wj es o (kc++vc))[i]?=some r->(i=idx/\r=kc++vc)\/(i≠idx/\es[i]?=some r):=by
  intro i r hr;cases o with
  | none =>
   simp only[wj] at hr
   grind
  | some i0 =>
   simp only[wj] at hr
   grind
 have Yc:kz<=(kc++vc).length/\(ka=false->kz=1)/\(va=false->(kc++vc).length=kz+1)/\uf ka kz fk=uf ka kz (f' idx)/\uf va vc.length fv=uf va ((kc++vc).length-kz) (fun j=>f' idx (kz+j)):=by
  grind [vD]
 refine⟨hκ,hS,_,_,f',KU hb,?_,fun i j r x hi hj hl=>?_,fun i j r x hi hj hl=>?_⟩
 ·cases o with
  | none =>
   refine⟨by simp[oV,wj,hE.size],by simp[oV,hE.clk],fun i e he=>?_,fun i e he=>?_,fun i j e e' he yI xR=>?_,fun i e r he hr=>?_⟩
   ·simp only[oV] at he
    rw[awJ] at he;split at he
    ·rename_i WX;injection he with he;subst he;rw[WX];exact hE.clk
    ·exact hE.at' i e he
   ·simp only[oV] at he ⊢
    rw[awJ] at he;split at he
    ·grind
    ·have:=hE.born i e he;omega
   ·simp only[oV] at he yI
    rw[awJ] at he yI;split at he<;>split at yI
    ·omega
    ·injection he with he;subst he
     have:=hE.born j e' yI
     simp only at xR;omega
    ·injection yI with yI;subst yI
     have:=hE.born i e he
     simp only at xR;omega
    ·exact hE.apart i j e e' he yI xR
   ·simp only[oV] at he
    rw[awJ] at he
    rcases bX i r hr with ⟨hi,rfl⟩|⟨hi,hr⟩
    ·have kP:i=es.length:=hi
     rw[if_pos (by rw[hE.size];exact kP)] at he
     grind
    ·have kP:i≠es.length:=hi
     rw[if_neg (by rw[hE.size];exact kP)] at he
     obtain⟨k1,k2,k3,k4,k5⟩:=hE.row i e r he hr
     grind [vD]
  | some i0 =>
   have z8:∀ {i:Nat} {e:MapEntry},(E.modify i0 fun e=>{ e with key:=uf ka kz fk,val:=uf va vc.length fv })[i]?=some e->∃ e0,E[i]?=some e0/\e=if i=i0 then { e0 with key:=uf ka kz fk,val:=uf va vc.length fv } else e0:=by
    intro i e he;rw[Array.getElem?_modify] at he;split at he
    ·rename_i hii
     simp only[au2] at he;obtain⟨e0,h0,rfl⟩:=he;exact⟨e0,h0,by rw[if_pos hii.symm]⟩
    ·rename_i hii
     exact⟨e,he,by rw[if_neg (awr hii)]⟩
   have Og:∀ {i:Nat} {e e0:MapEntry},(e=if i=i0 then { e0 with key:=uf ka kz fk,val:=uf va vc.length fv } else e0)->e.born=e0.born:=by
    intro i e e0 h;rw[h];split<;>rfl
   refine⟨by simp[oV,wj,hE.size],by simp[oV,hE.clk],fun i e he=>?_,fun i e he=>?_,fun i j e e' he yI xR=>?_,fun i e r he hr=>?_⟩
   ·obtain⟨e0,h0,h⟩:=z8 he
    rw[Og h];exact hE.at' i e0 h0
   ·obtain⟨e0,h0,h⟩:=z8 he
    rw[Og h];exact hE.born i e0 h0
   ·obtain⟨e0,h0,h⟩:=z8 he
    obtain⟨e0',h0',h'⟩:=z8 yI;rw[Og h,Og h'] at xR;exact hE.apart i j e0 e0' h0 h0' xR
   ·obtain⟨e0,h0,h⟩:=z8 he
    rcases bX i r hr with ⟨hi,rfl⟩|⟨hi,hr⟩
    ·have kP:i=i0:=hi
     rw[if_pos kP] at h;subst h;subst hi;exact Yc
    ·have kP:i≠i0:=hi
     rw[if_neg kP] at h;subst h;obtain⟨k1,k2,k3,k4,k5⟩:=hE.row i e r h0 hr;refine⟨k1,k2,k3,?_,?_⟩
     ·rw[k4];refine vD (fun j _=>?_) (fun h=>by rw[k2 h];omega)
      simp only[f',if_neg hi]
     ·rw[k5];refine vD (fun j _=>?_) (fun h=>by rw[k3 h];omega)
      simp only[f',if_neg hi]
 ·rcases bX i r hi with ⟨rfl,rfl⟩|⟨dk,hr⟩
  ·rw[avd ah] at hj
   simp only[f',if_pos rfl,if_pos hl];exact (Mj j x hj).mono st.S st.cell st.mp
  ·simp only[f',if_neg dk]
   exact (h1 i j r x hr hj hl).mono st.S st.cell st.mp
 ·rcases bX i r hi with ⟨rfl,rfl⟩|⟨dk,hr⟩
  ·rw[List.getElem?_append_right ah,hkz] at hj
   have e:¬ j<kz:=ah;simp only[f',if_pos rfl,if_neg e];obtain⟨k1,k2,k3⟩:=hvv (j-kz) x hj;exact⟨k1,fun h=>(k2 h).mono st (Nat.le_refl _),k3.mono st (Nat.le_refl _) ag⟩
  ·simp only[f',if_neg dk]
   obtain⟨k1,k2,k3⟩:=h2 i j r x hr hj hl;exact⟨k1,fun h=>(k2 h).mono st (Nat.le_refl _),k3.mono st (Nat.le_refl _) ag⟩
def uL{l:Nat}{x:AV}(h:x.plain=true):bf l x=true:=by
 cases x<;>first|exact h|(simp[AV.plain] at h;done)|(simp only[bf,AV.drop];exact h)|(simp[bf,AV.drop,AV.plain] at h ⊢;done)|skip
 rename_i f fs cs
 cases fs<;>cases cs<;>first|rfl|(simp[AV.plain] at h)
theorem N0(hW:a8 G base s.H gh w)(hF:FR L nt gh w a s){t:TypeId}(hT:Ln P t kt et ks ka va vz zv zero){xm xk:Operand}{ym yk:aE}{s':AS}
  (ho:o.op=.mapUpdate t xm xk xv\/o.op=.insert t xm xk xv) (hcm:av nt xm=some ym) (hck:av nt xk=some yk) (hcv:av nt xv=some yv)
  (he:tf s ks.length ka va vz ks (ym.addr G s.T) (yk.eval G s.T) (yv.eval G s.T)=some s') (hd:∀ k,o.dst=some k->k<nt) :
  ∃ v' br w',wS P a o w v' w'/\Out G base nt L gh w a s o.dst .undef (s'.bG yv) v' br w':=by
 have hm:=arg_val hW hF hcm;unfold tf at he;generalize hY:ym.addr G s.T=Y at hm he;cases Y<;>simp only at he<;>try (cases he;done)
 rename_i l;obtain⟨aZ,tU⟩:=VR.pQ (hm:VR gh s.H.length w (a.eval xm) (.mref l));split at he
 ·rename_i qo qm qp es hH
  simp only[au3] at he;obtain⟨kc,vw,vc,Yn,lZ⟩:=he;obtain⟨h0,iZ⟩:=al lZ;clear lZ;simp only[au6,iI,avf,avM] at h0;obtain⟨⟨⟨⟨⟨⟨⟨⟨hl,W3⟩,rfl⟩,rfl⟩,rfl⟩,zB⟩,hva⟩,abw⟩,abd⟩:=h0;simp only[au2] at iZ;obtain⟨oi,hf,rfl⟩:=iZ;have amF:aN (yk.eval G s.T)=true:=by rw[<- kX];exact jV vw
  have amG:aN (yv.eval G s.T)=true:=jV Yn;have yL:=cU hW hF hck rfl amF;obtain⟨oz,tT,Bm,HD,Wn,oJ⟩:=rE hW hF hcv amG (.hs l (oi.getD es.length)) ag;have hρ:oz.ρ l=gh.ρ l:=Wn.ρ l aZ;have hk:=yL.mono Wn (Nat.le_refl _);obtain⟨⟨hκ,hS,E,ck,f,hb,hE,h1,h2⟩,ft⟩:=tT.more l _ hH;obtain⟨E2,Xt,kO,hR⟩:=DG (tT.more l _ hH).1;have hEE:E2=E/\Xt=ck:=by
   grind
  obtain⟨rfl,rfl⟩:=hEE;obtain⟨WY,X7⟩:=G7 hk vw;have js:∃ fv:Nat->Value,a.eval xv=uf va vc.length fv/\∀ (j:Nat) (x:AV),(cond va (vc.map AV.drop) vc)[j]?=some x->(fv j).oneCell'=true/\(va=true->VR oz s.H.length w (fv j) x)/\CR oz s.H.length w (.hs l (oi.getD es.length)) (fv j) x:=by
   cases aiR:va with
   | true =>
    have Lh:(yv.eval G s.T).isAgg=true:=by rw[<- hva,aiR]
    have Ua:VR oz s.H.length w (a.eval xv) (yv.eval G s.T):=by
     rcases oJ with h|⟨e,h,_⟩
     ·exact h
     ·rw[h] at Lh;cases Lh
    obtain⟨Ym,RF⟩:=G7 Ua Yn;rw[Lh] at Ym;refine⟨_,Ym,fun j x hj=>?_⟩
    simp only[cond_true,List.getElem?_map,au2] at hj;obtain⟨y,hy,rfl⟩:=hj;obtain⟨m1,m2⟩:=RF j y hy;exact⟨m2,fun _=>m1.dropped,.inl m1.dropped⟩
   | false =>
    have Lh:(yv.eval G s.T).isAgg=false:=by rw[<- hva,aiR]
    have anH:vc=[yv.eval G s.T]:=by
     generalize yv.eval G s.T=V at Yn Lh
     cases V<;>first|(cases Lh;done)|(injection Yn with Yn;exact Yn.symm)|(cases Yn;done)
    refine⟨fun _=>a.eval xv,by simp[uf],fun j x hj=>?_⟩
    rw[anH] at hj;cases j with
    | succ j=>simp at hj
    | zero =>
     simp at hj;subst hj;refine⟨?_,(fun h=>by cases h),oJ⟩
     rcases oJ with h|⟨e,_,hp,_⟩
     ·exact h.gb (fun cs e=>by rw[e] at Lh;cases Lh) (fun cs e=>by rw[e] at Yn;cases Yn)
     ·exact hp.gb
  obtain⟨fv,hvv,Yo⟩:=js;have Gl:(cond va (vc.map AV.drop) vc).length=vc.length:=by cases va<;>simp
  have anJ:va=false->(cond va (vc.map AV.drop) vc).length=1:=fun h=>by rw[Gl,W3];exact hT.vz1 h
  have dO:=V2 (vv:=a.eval xv) hT hk vw hl zB hb hR hf;have amW:a.eval xk=uf ka ks.length (fun j=>(a.eval xk).cells.getD j undef):=by rw[zB,<- hl];exact WY
  have hMA:=afV (n:=s.H.length) (l:=l) (fk:=fun j=>(a.eval xk).cells.getD j undef) (fv:=fv) (vc:=cond va (vc.map AV.drop) vc) (o:=oi) tT hκ hS hb hE h1 h2 hl (fun h=>hT.key.kz h) anJ
   (fun j x hj=>(X7 j x hj).1.mh (ava.1 abd x (avb hj))) (fun i hi=>by subst hi;exact BO hf) Yo
  rw[Gl,<- amW,<- hvv] at hMA;have Au:=Kh (E':=(oV E2 Xt oi (a.eval xk) (a.eval xv)).1) (ck':=(oV E2 Xt oi (a.eval xk) (a.eval xv)).2) tT hb hS s.H.length;rw[hκ] at Au;have Tv:((wj es oi (kc++cond va (vc.map AV.drop) vc)).all fun r=>r.all (bf l))=true:=by
   have kZ:(kc++cond va (vc.map AV.drop) vc).all (bf l)=true:=by
    rw[aw',au6];refine⟨ava.2 fun x hx=>uL (ava.1 abd x hx),?_⟩
    cases va with
    | false=>exact abw
    | true =>
     refine ava.2 fun x hx=>?_
     obtain⟨y,hy,rfl⟩:=List.mem_map.1 hx;exact re (ava.1 abw y hy)
   refine ava.2 fun r hr=>?_
   cases oi with
   | none =>
    simp only[wj,au',avi] at hr
    rcases hr with hr|rfl
    ·exact ava.1 ft r hr
    ·exact kZ
   | some i =>
    simp only[wj] at hr
    rcases awO hr with hr|rfl
    ·exact ava.1 ft r hr
    ·exact kZ
  have kj:(xC w (oz.ρ l) (oV E2 Xt oi (a.eval xk) (a.eval xv)).1 (oV E2 Xt oi (a.eval xk) (a.eval xv)).2).heap.size=w.heap.size:=by simp[xC]
  have HG:=tT.B5 (o:=.map ks.length ka va (wj es oi (kc++cond va (vc.map AV.drop) vc))) Au aZ (by intro k hk;simp[hk]) (fun b o ho=>by rw[kj];exact tT.qa b o ho) (fun b hb=>by rw[kj];exact tT.ry b hb) (fun _ _ h=>by cases h) ⟨hMA,Tv⟩ (fun _ _ _ h=>.inl h)
  have hS:=jj s yv;have AT:Ext s.H.length oz w oz (xC w (oz.ρ l) (oV E2 Xt oi (a.eval xk) (a.eval xv)).1 (oV E2 Xt oi (a.eval xk) (a.eval xv)).2):=⟨Au.mono (fun r h=>by rw[h];simp[sw]),fun b hb=>hb⟩
  have JN:FR L nt oz _ a ((s.bG yv).iK ⟨s.H.set l (.map ks.length ka va (wj es oi (kc++cond va (vc.map AV.drop) vc))),l⟩):=Bm.grown (by rw[hS.1];exact Au) (fun i=>⟨ag,ag,ag⟩) (by rw[hS.1];simp)
  refine⟨undef,oz,xC w (oz.ρ l) (oV E2 Xt oi (a.eval xk) (a.eval xv)).1 (oV E2 Xt oi (a.eval xk) (a.eval xv)).2,.inr ⟨?_,rfl⟩,?_⟩;rotate_left
  ·rw[As]
   exact Out.skip (s1:=(s.bG yv).iK ⟨s.H.set l (.map ks.length ka va (wj es oi (kc++cond va (vc.map AV.drop) vc))),l⟩) HG JN (HD.trans AT (Nat.le_refl _)) hd
  ·rcases ho with ho|ho<;>simp[execOp,ho,tU,<- hρ,dO]
 ·cases he
end
end
section
section
variable {P:Program}{G:Nat->List AV}{base nt:Nat}{L:List Nat}{gh:Gh}{w w' : World}{a:Act}{s:AS}{H:ae}
def Ip{c:Call}{t:TypeId}(ho:o.op=.call c)(jM:c.callee=.builtin .len)(gm:c.args.toList=[x])(mW:c.argTypes.toList=[t])
  (dO:(Builtin.len_ #[t] o.type #[a.eval x]).run P w=.ok v w'):(execOp a.eval o).run P w=.ok (.value v) w':=by
 have e1:c.args=#[x]:=by apply aw1;simpa using gm
 have e2:c.argTypes=#[t]:=by apply aw1;simpa using mW
 unfold execOp;simp only[ho,resolve,jM,e1,e2,invoke,builtin,Sem.run_bind,Sem.run_pure,Result.andThen_ok,aw3,avm,avN,dO]
def YP(hW:a8 G base s.H gh w)(hF:FR L nt gh w a s)(hc:av nt x=some y):(y.addr G s.T=.kA->a.eval x=.map none) /\
  (∀ kz ka va es,y.addr G s.T=.je kz ka va es->PR gh.S w (a.eval x) (.je kz ka va es))/\∀ l,y.addr G s.T=.mref l->l<s.H.length/\a.eval x=.map (some (gh.ρ l)):=by
 have hm:=arg_val hW hF hc;refine⟨fun h=>?_,fun kz ka va es h=>?_,fun l h=>?_⟩
 ·rw[h] at hm
  generalize a.eval x=V at hm;cases (hm:VR gh s.H.length w V .kA) with
  | plain _ _ h=>cases h;rfl
 ·rw[h] at hm
  generalize a.eval x=V at hm;cases (hm:VR gh s.H.length w V (.je _ _ _ _)) with
  | plain _ _ h=>exact h
 ·rw[h] at hm
  exact VR.pQ hm
def Tq(hW:a8 G base s.H gh w)(hF:FR L nt gh w a s)(hc:av nt x=some y){kz:Nat}(h:y.addr G s.T=.mz kz ka va es):PR gh.S w (a.eval x) (.mz kz ka va es):=by
 have hm:=arg_val hW hF hc;rw[h] at hm;generalize a.eval x=V at hm;cases (hm:VR gh s.H.length w V (.mz _ _ _ _)) with
 | plain _ _ h=>exact h
end
end
end Go.Abs
end
