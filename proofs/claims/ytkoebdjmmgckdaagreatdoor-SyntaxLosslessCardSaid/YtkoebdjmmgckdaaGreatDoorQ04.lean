/-
  A part of the proof of SyntaxLossless: AbsOps10, AbsOps11, AbsOps12, AbsCall, AbsMap1, AbsMap2, AbsMap3, AbsMap4, AbsMap5.
-/
import Derived.Deep.Upon
import Derived.Lib.FrozenHead
import Derived.Test.YtkoebdjmmgckdaaGreatDoorQ03
set_option linter.unusedSimpArgs false
set_option linter.unusedVariables false
set_option linter.defProp false
noncomputable section
namespace Go.Abs
variable {k r:AV}{E':Array MapEntry}{C C':Array Value}{em ka va:Bool}{a8:Gh}{E F es f:List (List AV)}{cs kc vs zero:List AV}{ks:List CK}{news:List Value}{b bytes ck ck' l off sCap sLen sz vz:Nat}{fr:Nat × Nat}{S:Nat->Nat->Prop}{g:Nat->Value}{q:Nat->bF}{o:Oper}{x xv:Operand}{s':Option AS}{ch:Option fw}{e et kt tx ty u:TypeId}{V X kv v z zv:Value}{y yv:aI}{p:bF}{cf:fX}
section
section
variable {P:Program}{G:Nat->List AV}{base nt:Nat}{L:List Nat}{gh:Gh}{w w' : World}{a:Act}{s:AS}{H:aa}
theorem rE(hW:aY G base s.H gh w)(hF:FR L nt gh w a s)(hc:au nt x=some y)(hf:aO (y.eval G s.T)=true)(p:bF)(hp:p≠.outer) :
  ∃ a8,aY G base s.H a8 w/\FR L nt a8 w a (s.cN y)/\Ext s.H.length gh w a8 w/\Step (fun r=>∃ t,r=.sl t) s.H.length gh w a8 w/\CR a8 s.H.length w p (a.eval x) (y.eval G s.T):=by
 have gl:=fun b hb=>hW.cg (gh:=gh) b hb
 have stay:s.cN y=s->VR gh s.H.length w (a.eval x) (y.eval G s.T)->∃ a8,aY G base s.H a8 w/\FR L nt a8 w a (s.cN y)/\Ext s.H.length gh w a8 w/\Step (fun r=>∃ t,r=.sl t) s.H.length gh w a8 w/\CR a8 s.H.length w p (a.eval x) (y.eval G s.T):=by
  intro h1 h2;rw[h1];exact⟨gh,hW,hF,Ext.refl _ _ _ gl,Step.refl _ _ _ _ gl,.inl h2⟩
 cases y with
 | tmp t =>
  obtain⟨rfl,ht⟩:=kI hc;have hd:=cO hW hF hc rfl hf;simp only[aI.eval] at hf hd stay ⊢;cases hT:s.T t with
  | slice e own =>
   cases own with
   | false =>
    rw[hT] at hd stay;exact stay (by simp[AS.cN,hT]) hd
   | true =>
    obtain⟨a8,h1,h2,h3,h4,h5⟩:=zF hW hF ht hT p hp;refine⟨a8,h1,?_,h3,h4.mono (fun r h=>⟨t,h⟩),h5⟩
    simpa [AS.cN,hT] using h2
  | _ =>
   rw[hT] at hd stay;exact stay (by simp[AS.cN,hT]) hd
 | yn v =>
  refine stay rfl ?_;cases x with
  | tmp k =>
   simp only[au] at hc
   grind
  | const u =>
   simp only[au,aw0] at hc;obtain⟨z,hz,h⟩:=hc;injection h with h
   subst h;exact kL hz
  | global g=>simp[au] at hc
  | func f=>simp[au] at hc
 | aX g =>
  refine stay rfl ?_;have:=cO hW hF hc rfl hf
  exact this
 | fn f =>
  refine stay rfl ?_;have:=cO hW hF hc rfl hf
  exact this
theorem Xj{b:Nat} : ({ S:=fun b' o=>gh.S b' o\/(b'=b/\(fun _=>False) o),κ:=fun b'=>if b'=b then gh.κ b else gh.κ b',ρ:=gh.ρ } : Gh)=gh:=by
 obtain⟨S,κ,ρ⟩:=gh
 congr 1
 ·funext b' o
  simp
 ·funext b'
  grind
def nV(hW:aY G base H gh w)(hb:w.heap[b]?=some (.cells C ty fr))(j7:C'.size=C.size)(cZ:∀ o,gh.S b o->C'[o]?=C[o]?)(n:Nat) :
  Step (fun r=>r=gh.κ b) n gh w gh (w.setRow b C'):=by
 have h:=sq hW hb j7 (fun _=>False) cZ (gh.κ b) n
 rw[Xj] at h;exact h
def Fq(hW:aY G base H gh w)(hb:w.heap[b]?=some (.cells C ty fr))(j7:C'.size=C.size)(cZ:∀ o,gh.S b o->C'[o]?=C[o]?)(h0:gh.κ b≠.none)(h1:gh.κ b≠.outer)(n:Nat) :
  Ext n gh w gh (w.setRow b C') :=
 ⟨(nV hW hb j7 cZ n).mono (fun r h=>by rw[h];exact⟨h0,h1⟩),fun _ h=>h⟩
def fQ(C:Array Value)(off:Nat)(D:Array Value):Array Value:=(C.toList.take off++D.toList++C.toList.drop (off+D.toList.length)).toArray
theorem k9{D:Array Value}(h:off+D.size<=C.size)(j:Nat):(fQ C off D)[j]?=if off<=j/\j<off+D.size then D[j-off]? else C[j]?:=by
 have apQ:min off C.size=off:=af;unfold fQ
 grind
def dF{D:Array Value}(h:off+D.size<=C.size):(fQ C off D).size=C.size:=by
 unfold fQ;simp;omega
def BQ{t:TypeId}(hs:fe P t=some sz)(hb:w.heap[b]?=some (.cells C ty (0,0)))(hv:v.cells.size=sz)(gH:off+sz<=C.size)(gV:∀ u∈v.cells.toList,u.oneCell'=true) :
  (Instr.storeAt t (.pointer (some ⟨b,off,none⟩)) v).run P w=.ok () (w.setRow b (fQ C off v.cells)):=by
 have h:=run_storeCells_at P b off ty v.cells.toList 0 C w hb df gV;simp only[axZ] at h;simp[Instr.storeAt,Instr.sureAddr,storeVar,fa hs,hv,h,fQ]
def Aq(hW:aY G base H gh w){n:Nat}(hB:iL gh n w b p q cs){t:TypeId}(hs:fe P t=some sz)(Gk:vs.length=sz)(mC:off+sz<=cs.length)
  (hv:v.cells.size=sz) (dh:∀ (j:Nat) (u:Value) (x:AV),v.cells[j]?=some u->vs[j]?=some x->u.oneCell'=true/\CR gh n w (q (off+j)) u x) (hq:∀ j,q j≠p) (hp:p≠.none/\p≠.outer) (m:Nat) :
  ∃ w',(Instr.storeAt t (.pointer (some ⟨b,off,none⟩)) v).run P w=.ok () w'/\Step (fun r=>r=p) m gh w gh w'/\Ext m gh w gh w'/\w'.heap.size=w.heap.size/\iL gh n w' b p q (putAt cs off vs):=by
 obtain⟨hκ,hS,C,ty,hb,hC,iz⟩:=hB;have mS:∀ o,gh.S b o->(fQ C off v.cells)[o]?=C[o]?:=fun o ho=>(hS o ho).elim
 have PH:(fQ C off v.cells).size=C.size:=dF af;have st:=nV hW hb PH mS m;have stn:=nV hW hb PH mS n;have hE:=Fq hW hb PH mS (by rw[hκ];exact hp.1) (by rw[hκ];exact hp.2) m
 rw[hκ] at st stn;have gH:off+v.cells.size<=C.size:=af;refine⟨_,BQ hs hb hv af ?_,st,hE,ae,hκ,hS,_,ty,setRow_heap w b C _ ty _ hb,by rw[dF gH,sn af];exact hC,fun j u x G3 B5=>?_⟩
 ·intro u hu
  obtain⟨j,hj⟩:=axu hu;have B4:v.cells[j]?=some u:=cJ hj;have aP:j<vs.length:=by rw[Gk,<- hv];exact (axb.1 B4).1
  exact (dh j u _ B4 (aw3 aP)).1
 ·rw[k9 gH] at G3
  rw[wi af] at B5;have e1:v.cells.size=vs.length:=af;rw[e1] at G3;split at G3
  ·rename_i hc
   rw[if_pos hc] at B5;obtain⟨k1,k2⟩:=dh _ u x G3 B5;rw[show off+(j-off)=j by omega] at k2
   exact⟨k1,k2.mono stn (Nat.le_refl _) (hq j)⟩
  ·rename_i hc
   rw[if_neg hc] at B5;obtain⟨k1,k2⟩:=iz j u x G3 B5;exact⟨k1,k2.mono stn (Nat.le_refl _) (hq j)⟩
def yF{n:Nat}{x:AV}(h:CR gh n w (q off) v x)(hc:x.cells=some vs) :
  v.cells.size=vs.length/\∀ (j:Nat) (u:Value) (y:AV),v.cells[j]?=some u->vs[j]?=some y->u.oneCell'=true/\CR gh n w (q (off+j)) u y:=by
 rcases h with h|⟨e,rfl,Nn,hO⟩
 ·have hr:=vF h hc
  exact⟨hr.1,fun j u y hu hy=>⟨(hr.2 j u y hu hy).2,.inl (hr.2 j u y hu hy).1⟩⟩
 ·have e1:vs=[.slice e true]:=by simpa [AV.cells] using hc.symm
  subst e1;have gV:=Nn.fJ;have:v.cells=#[v]:=by obtain⟨b,cap,_,_,_,_,_,rfl,_⟩:=hO;rfl
  rw[this];refine⟨rfl,fun j u y hu hy=>?_⟩
  cases j with
  | zero=>simp at hu hy;subst hu hy;exact⟨gV,.inr ⟨e,rfl,Nn,hO⟩⟩
  | succ j=>simp at hu
def jQ{x:AV}(h:x.cells=some vs):aO x=true:=by cases x<;>first|rfl|cases h
def iZ(s:AS)(y:aI):(s.cN y).H=s.H/\(s.cN y).gen=s.gen/\(s.cN y).lo=s.lo:=by
 cases y with
 | tmp t=>simp only[AS.cN];split<;>exact⟨rfl,rfl,rfl⟩
 | _=>exact⟨rfl,rfl,rfl⟩
theorem Qu(s:AS)(y:aI)(b:Nat)(h:∀ e,s.T b≠.slice e true):(s.cN y).T b=s.T b:=by
 cases y<;>simp only[AS.cN]
 rename_i t;split
 ·rename_i e hT
  by_cases hb:b=t
  ·grind
  ·simp[AS.cc,kZ,hb]
 ·rfl
theorem sy(s:AS)(t:Nat)(h:∀ e,s.T t≠.slice e true):s.cN (.tmp t)=s:=by
 simp only[AS.cN]
def wx(s:AS)(t:Nat){e:List (List AV)}(h:s.T t=.slice e true):s.cN (.tmp t)=s.cc t (.slice e false):=by
 simp only[AS.cN,h]
theorem FE(s:AS)(y:aI)(b:Nat)(X:AV)(h:∀ e,s.T b≠.slice e true)(hX:∀ e,X≠.slice e true):(s.cc b X).cN y=(s.cN y).cc b X:=by
 cases y<;>try rfl
 rename_i t
 by_cases hb:t=b
 ·subst hb
  rw[sy s t h,sy _ t (by simpa [AS.cc,kZ] using hX)]
 ·have e1:(s.cc b X).T t=s.T t:=by simp[AS.cc,kZ,hb]
  by_cases ho:∃ e,s.T t=.slice e true
  ·obtain⟨e,ho⟩:=ho
   rw[wx s t ho,wx (s.cc b X) t (by rw[e1,ho])]
   simp only[AS.cc]
   congr 1
   funext k
   grind [kZ]
  ·grind [sy]
def A4(s:AS)(y:aI)(c:fw):(s.iw c).cN y=(s.cN y).iw c:=by
 cases y<;>simp only[AS.cN]
 rename_i t
 show (match s.T t with|.slice e true=>(s.iw c).cc t (.slice e false)|_=>s.iw c)=_
 cases hT:s.T t<;>try rfl
 rename_i e own;cases own<;>rfl
def Out.skip{s1:AS}{d:Option Nat}(hW:aY G base s1.H a8 w')(hF:FR L nt a8 w' a s1)(hE:Ext s.H.length gh w a8 w')(hd:∀ k,d=some k->k<nt):Out G base nt L gh w a s d .undef s1 undef a8 w' :=
 Out.of (gen':=s1.gen) hW hF hE (Nat.le_refl _) hd (.inl rfl) (fun k hk=>.inl VR.undef)
theorem Su{f:AV->Bool}(h1:cs.all f=true)(h2:vs.all f=true):(putAt cs off vs).all f=true:=by
 refine aw8.2 fun x hx=>?_
 unfold putAt at hx
 grind
def Uz(hW:aY G base s.H gh w)(hF:FR L nt gh w a s){t:TypeId}{xa:Operand}{ya:aI}{s':AS}(ho:o.op=.store t xa xv)(Py:au nt xa=some ya)(hcv:au nt xv=some yv)(hs:fe P t=some sz)
  (he:aW s sz (ya.addr G s.T) (yv.eval G s.T)=some s') (hd:∀ k,o.dst=some k->k<nt) :
  ∃ v' a8 w',xr P a o w v' w'/\Out G base nt L gh w a s o.dst .undef (s'.cN yv) v' a8 w':=by
 have ha:=arg_val hW hF Py;unfold aW at he;split at he
 ·cases he
 rename_i vs Gk;obtain⟨hlen,he⟩:=ay he;have hlen:vs.length=sz:=by simpa [im] using hlen
 have KY:=jQ Gk;generalize hY:ya.addr G s.T=Y at ha he;cases Y<;>simp only at he<;>try (cases he;done)
 case ref loc off =>
  obtain⟨aP,ug⟩:=VR.kq (ha:VR gh s.H.length w (a.eval xa) (.ref loc off));split at he
  ·rename_i Ys cs hH
   obtain⟨h0,he⟩:=ay he;injection he with he
   subst he;simp only[aw4,axv] at h0;obtain⟨oK,uf,BY,Iz,XH,oT⟩:=rE hW hF hcv KY (.hs loc off) ae;have hρ:=XH.ρ loc aP;obtain⟨j7,dh⟩:=yF (q:=fun j=>.hs loc j) oT Gk
   obtain⟨w',dI,A6,Bz,pZ,hB⟩:=Aq (P:=P) uf (uf.boxes loc _ cs hH) hs hlen h0.1 af dh ae ae s.H.length;have IB:=uf.OE A6 hH (by intro l hl;simp[hl]) (fun b o ho=>by rw[pZ];exact uf.qj b o ho) (fun b hb=>by rw[pZ];exact uf.ru b hb) hB (Su (uf.refs loc _ cs hH) h0.2) (fun _ _ h=>h) (sn af)
   have hS:=iZ s yv;have KO:FR L nt oK w' a ((s.cN yv).iw ⟨s.H.set loc (.box Ys (putAt cs off vs)),loc⟩):=BY.grown (by rw[hS.1];exact A6) (fun i=>⟨ae,ae,ae⟩) (by rw[hS.1];simp)
   refine⟨undef,oK,w',.inr ⟨?_,rfl⟩,?_⟩
   ·simp[execOp,ho,ug,<- hρ,dI]
   ·rw[A4]
    exact Out.skip (s1:=(s.cN yv).iw ⟨s.H.set loc (.box Ys (putAt cs off vs)),loc⟩) IB KO (Iz.trans Bz (Nat.le_refl _)) hd
  ·rename_i cs hH
   obtain⟨h0,he⟩:=ay he;injection he with he
   subst he;simp only[aw4,axv] at h0;obtain⟨oK,uf,BY,Iz,XH,oT⟩:=rE hW hF hcv KY (.hs loc off) ae;have hρ:=XH.ρ loc aP;obtain⟨j7,dh⟩:=yF (q:=fun j=>.hs loc j) oT Gk
   obtain⟨w',dI,A6,Bz,pZ,hB⟩:=Aq (P:=P) uf (uf.more loc _ hH:iL oK s.H.length w (oK.ρ loc) (.hb loc) (fun j=>.hs loc j) cs) hs hlen h0.1 af dh ae ae s.H.length
   have IB:aY G base (s.H.set loc (.bR (putAt cs off vs))) oK w':=uf.CN A6 aP (by intro l hl;simp[hl]) (fun b o ho=>by rw[pZ];exact uf.qj b o ho) (fun b hb=>by rw[pZ];exact uf.ru b hb) (fun _ _ h=>by cases h) hB (fun _ _ _ h=>.inl h)
   have hS:=iZ s yv;have KO:FR L nt oK w' a ((s.cN yv).iw ⟨s.H.set loc (.bR (putAt cs off vs)),loc⟩):=BY.grown (by rw[hS.1];exact A6) (fun i=>⟨ae,ae,ae⟩) (by rw[hS.1];simp)
   refine⟨undef,oK,w',.inr ⟨?_,rfl⟩,?_⟩
   ·simp[execOp,ho,ug,<- hρ,dI]
   ·rw[A4]
    exact Out.skip (s1:=(s.cN yv).iw ⟨s.H.set loc (.bR (putAt cs off vs)),loc⟩) IB KO (Iz.trans Bz (Nat.le_refl _)) hd
  ·cases he
 case lref b g off =>
  obtain⟨hb,S5,hr⟩:=(ha:_/\_/\_);split at he
  ·rename_i g' cs hT
   obtain⟨h0,he⟩:=ay he;injection he with he
   subst he;simp only[aw4,axv,im,aw'] at h0;obtain⟨⟨rfl,h0⟩,_⟩:=h0;obtain⟨k,hk,_⟩:=zQ hF hb hT;have ug:=hr (by rw[hT];rfl) k hk
   obtain⟨oK,uf,BY,Iz,XH,oT⟩:=rE hW hF hcv KY (.sc b off) ae;have hS:=iZ s yv;have Dz:(s.cN yv).T b=.lbox g cs:=by rw[Qu _ _ _ (by rw[hT];simp),hT]
   obtain⟨k',ui,hB1⟩:=zQ BY hb Dz;have Nv:k'=k:=by rw[hk] at ui;injection ui with h;injection h with h;injection h with h;exact h.symm
   subst Nv;rw[hS.1] at hB1;obtain⟨j7,dh⟩:=yF (q:=fun j=>.sc b j) oT Gk
   obtain⟨w',dI,A6,Bz,pZ,hB⟩:=Aq (P:=P) uf hB1 hs hlen h0 af dh ae ae s.H.length;have IB:=uf.step A6 ae (fun b o ho=>by rw[pZ];exact uf.qj b o ho) (fun b hb=>by rw[pZ];exact uf.ru b hb) (fun _ _ _ h=>.inl h)
   have KO:FR L nt oK w' a ((s.cN yv).cc b (.lbox g (putAt cs off vs))):=by
    refine BY.cc (H':=(s.cN yv).H) (lo':=(s.cN yv).lo) (by rw[hS.1];exact A6) (Nat.le_refl _) (fun i hi=>⟨cJ hi,ae,ae⟩) (.inl ⟨hb,by rw[Dz];rfl⟩) (fun _=>⟨?_,k',hk,?_⟩)
    ·have h:=BY.slot b hb
     rw[Dz] at h;exact h.1
    ·rw[hS.1];exact hB
   refine⟨undef,oK,w',.inr ⟨?_,rfl⟩,?_⟩
   ·simp[execOp,ho,ug,dI]
   ·rw[FE _ _ _ _ (by rw[hT];simp) ae]
    exact Out.skip (s1:=(s.cN yv).cc b (.lbox g (putAt cs off vs))) (by show aY G base (s.cN yv).H oK w';rw[hS.1];exact IB) KO (Iz.trans Bz (Nat.le_refl _)) hd
  ·cases he
 case eref b g i z off =>
  obtain⟨hb,S5,hr⟩:=(ha:_/\_/\_);split at he
  ·rename_i g' e hT
   obtain⟨h0,lJ⟩:=ay he;have KZ:g=g':=by simpa [im] using h0
   clear he;subst KZ;simp only[aw1] at lJ;obtain⟨r,NF,iX⟩:=lJ;obtain⟨h1,he3⟩:=ay iX;injection he3 with he3
   subst he3;simp only[aw4,axv,im,aw'] at h1;obtain⟨⟨hrz,mC⟩,gI⟩:=h1;obtain⟨oK,uf,BY,Iz,XH,oT⟩:=rE hW hF hcv KY .none ae;have hS:=iZ s yv;have Dz:(s.cN yv).T b=.lsl g e:=by rw[Qu _ _ _ (by rw[hT];simp),hT]
   obtain⟨ad,cap,jn,bQ⟩:=qm BY hb Dz
   rcases bQ with ⟨rfl,_⟩|⟨k,C,ty,lq,afB,rfl,hκ,hS1,JL,hC,hl,B9,iz⟩
   ·simp at NF
   have ug:=hr (by rw[hT];rfl) k _ _ jn
   have Yl:lq=z:=by rw[<- hrz,B9 i r NF]
   subst Yl;have afs:=(aw5.1 NF).1;obtain⟨j7,dh⟩:=yF (q:=fun _=>.none) (off:=0) oT Gk
   have akZ:∀ (j:Nat) (x:AV),(vs.map AV.drop)[j]?=some x->∃ u,(a.eval xv).cells[j]?=some u/\PR oK.S w u x:=by
    intro j x hx;simp only[List.getElem?_map,aw0] at hx;obtain⟨y,hy,rfl⟩:=hx;have hj:j<(a.eval xv).cells.size:=by rw[j7];exact (aw5.1 hy).1
    have hu:=axj hj;refine⟨_,hu,(dh j _ y hu hy).2.dropped.me (aw8.1 gI _ (List.mem_map.2 ⟨y,axc hy,rfl⟩))⟩
   have gH:i*lq+off+(a.eval xv).cells.size<=C.size:=by
    have h2:(i+1)*lq<=e.length*lq:=axg _ afs;have h3:e.length*lq<=cap*lq:=axg _ hl;rw[axT] at h2;omega
   have mS:∀ o,oK.S k o->(fQ C (i*lq+off) (a.eval xv).cells)[o]?=C[o]?:=fun o ho=>(hS1 o ho).elim
   have A6:=nV uf JL (dF gH) mS s.H.length;have Bz:=Fq uf JL (dF gH) mS (by rw[hκ];simp) (by rw[hκ];simp) s.H.length
   rw[hκ] at A6;have dI:=BQ (P:=P) (w:=w) (off:=i*lq+off) hs JL (v:=a.eval xv) af af (fun u hu=>by
    obtain⟨j,hj⟩:=axu hu;have B4:(a.eval xv).cells[j]?=some u:=cJ hj;have aP:j<vs.length:=by rw[<- j7];exact (axb.1 B4).1
    exact (dh j u _ B4 (aw3 aP)).1)
   have IB:=uf.step A6 ae (fun b o ho=>by simpa using uf.qj b o ho) (fun b hb=>by simpa using uf.ru b hb) (fun _ _ _ h=>.inl h)
   have hds:off+(vs.map AV.drop).length<=r.length:=df;have KO:FR L nt oK (w.setRow k (fQ C (i*lq+off) (a.eval xv).cells)) a ((s.cN yv).cc b (.lsl g (e.set i (putAt r off (vs.map AV.drop))))):=by
    refine BY.cc (H':=(s.cN yv).H) (lo':=(s.cN yv).lo) (by rw[hS.1];exact A6) (Nat.le_refl _) (fun i hi=>⟨cJ hi,ae,ae⟩) (.inl ⟨hb,by rw[Dz];rfl⟩) (fun _=>⟨?_,?_⟩)
    ·have h:=BY.slot b hb
     rw[Dz] at h;exact h.1
    ·refine⟨some ⟨k,0,none⟩,cap,cJ jn,.inr ⟨k,_,ty,lq,(by intro h0;have:=ayj List.length h0;simp at this;exact afB this),rfl,hκ,hS1,setRow_heap w k C _ ty _ JL,by rw[dF gH,hC],cJ hl,?_,?_⟩⟩
     ·intro i' r' JP
      rw[axI] at JP;split at JP
      ·rename_i hii
       injection JP with JP
       subst JP;rw[sn hds];exact hrz
      ·exact B9 i' r' JP
     ·intro i' j r' x JP hj
      rw[k9 gH];rw[axI] at JP;split at JP
      ·rename_i hii
       subst hii;injection JP with JP
       subst JP;rw[wi hds] at hj;have Gg:(vs.map AV.drop).length=(a.eval xv).cells.size:=by simp[j7]
       rw[Gg] at hj
       by_cases hc:off<=j/\j<off+(a.eval xv).cells.size
       ·rw[if_pos hc] at hj
        rw[if_pos af];obtain⟨u,hu,hp⟩:=akZ _ x hj;refine⟨u,?_,hp.mono A6.S A6.cell A6.mp⟩;rw[show i*lq+j-(i*lq+off)=j-off by omega];exact hu
       ·rw[if_neg hc] at hj
        rw[if_neg af];obtain⟨u,hu,hp⟩:=iz i j r x NF hj;exact⟨u,hu,hp.mono A6.S A6.cell A6.mp⟩
      ·rename_i hii
       have uY:j<lq:=by rw[<- B9 i' r' JP];exact (aw5.1 hj).1
       have da:¬ (i*lq+off<=i' * lq+j/\i' * lq+j<i*lq+off+(a.eval xv).cells.size):=by
        rintro ⟨c1,c2⟩
        have:i=i':=by
         rcases azb i i' with h'|h'|h'
         ·have:(i+1)*lq<=i' * lq:=axg _ h'
          rw[axT] at this;omega
         ·exact h'
         ·have:(i' + 1)*lq<=i*lq:=axg _ h'
          rw[axT] at this;omega
        exact hii this
       rw[if_neg da];obtain⟨u,hu,hp⟩:=iz i' j r' x JP hj;exact⟨u,hu,hp.mono A6.S A6.cell A6.mp⟩
   refine⟨undef,oK,w.setRow k (fQ C (i*lq+off) (a.eval xv).cells),.inr ⟨?_,rfl⟩,?_⟩
   ·simp[execOp,ho,ug,dI]
   ·rw[FE _ _ _ _ (by rw[hT];simp) ae]
    exact Out.skip (s1:=(s.cN yv).cc b (.lsl g (e.set i (putAt r off (vs.map AV.drop))))) (by show aY G base (s.cN yv).H oK _;rw[hS.1];exact IB) KO (Iz.trans Bz (Nat.le_refl _)) hd
  ·cases he
end
end
section
section
variable {P:Program}{G:Nat->List AV}{base nt:Nat}{L:List Nat}{gh:Gh}{w w' : World}{a:Act}{s:AS}{H:aa}
def Nr(h:fZ sz f=true){r:List AV}(hr:f[0]?=some r):r.length=sz:=by
 unfold fZ at h;cases f with
 | nil=>simp at hr
 | cons q f=>simp at hr;subst hr;simpa [im] using h
def FP{lq:Nat}(h:fZ sz f=true)(bQ:∀ (i:Nat) (r:List AV),f[i]?=some r->r.length=lq)(da:f≠[]):lq=sz:=by
 cases f with
 | nil=>exact absurd rfl da
 | cons q f=>rw[<- bQ 0 q rfl];exact Nr h rfl
theorem A5(h:PR S w V (.slice f false))(hk:(∃ e',P.underlying tx=some (.slice e'))\/P.underlying tx=some .string)(hh:fZ sz f=true) :
  ∃ news:List Value,Src P sz tx V f.length news w/\jq S w sz news.toArray f /\
   ((V=.slice none 0 0/\f=[])\/∃ b o cap,V=.slice (some ⟨b,o,none⟩) f.length cap/\f.length<=cap/\∀ j,j<f.length*sz->S b (o+j)/\w.cell? ⟨b,o+j,none⟩=news[j]?):=by
 cases h with
 | dr=>exact⟨[],⟨hk,fun _=>rfl,run_firstCells_none w sz 0 0 0,run_firstCells_none w.drew sz 0 0 0,ae,fun _ h=>by cases h⟩,⟨ae,fun i r h=>by simp at h,fun i j r x h=>by simp at h⟩,.inl ⟨rfl,rfl⟩⟩
 | slice b o n cap lq _ fn hn kQ bQ cZ dh =>
  subst hn;have j7:f≠[]->lq=sz:=fun da=>FP hh bQ da
  let news:List Value:=(List.range (f.length*sz)).map fun k=>(w.cell? ⟨b,o+k,none⟩).getD undef
  have hlen:news.length=f.length*sz:=by simp[news]
  have key:∀ k,k<f.length*sz->∃ u,news[k]?=some u/\w.cell? ⟨b,o+k,none⟩=some u/\u.oneCell'=true/\S b (o+k)/\∀ r x,f[k / sz]?=some r->r[k % sz]?=some x->PR S w u x:=by
   intro k hk;obtain⟨h1,h2,h3⟩:=vx hk;have da:f≠[]:=by rintro rfl;simp at h1
   have hr:=aw3 h1;have hlr:f[k / sz].length=sz:=by rw[bQ _ _ hr,j7 da]
   have hx:=aw3 (show k % sz<f[k / sz].length by omega)
   grind
  have ac4:∀ j u,news[j]?=some u->w.cell? ((⟨b,o,none⟩:Addr).add j)=some u:=by
   grind [addr_add]
  refine⟨news,⟨hk,fun _=>rfl,run_firstCells_some w sz _ ⟨b,o,none⟩ f.length cap news hlen ac4,run_firstCells_some w.drew sz _ ⟨b,o,none⟩ f.length cap news hlen (cJ ac4),hlen,fun u hu=>?_⟩,⟨by simp[hlen],fun i r hr=>?_,fun i j r x hi hj=>?_⟩,.inr ⟨b,o,cap,rfl,kQ,fun j hj=>?_⟩⟩
  ·grind
  ·grind
  ·have da:f≠[]:=by rintro rfl;simp at hi
   grind [x4]
  ·grind
theorem abL{q:ByteArray}{l:List UInt8}(hq:q.data.toList=l)(hk:(∃ e',P.underlying tx=some (.slice e'))\/P.underlying tx=some .string) :
  ∃ news:List Value,Src P 1 tx (.string q) l.length news w/\jq S w 1 news.toArray (l.map fun (b:UInt8)=>[AV.int .u8 b.toNat]):=by
 subst hq;have hl:q.data.toList.length=q.size:=ae;refine⟨byteCells q,?_,by simp[byteCells],fun i r hr=>?_,fun i j r x hi hj=>?_⟩
 ·rw[hl]
  exact⟨hk,fun _=>rfl,firstCells_string q w,firstCells_string q w.drew,by rw[byteCells_length,azn],fun u hu=>by
   obtain⟨_,_,rfl⟩:=List.mem_map.1 hu;rfl⟩
 ·grind
 ·simp only[List.getElem?_map,aw0] at hi
  obtain⟨y,hy,rfl⟩:=hi;cases j with
  | succ j=>simp at hj
  | zero =>
   simp only[axl,aw2] at hj;subst hj;refine⟨.int .u8 y.toNat,?_,.int _ _⟩;simp only[byteCells,axE,List.getElem?_map,azn,axZ,hy,axa]
theorem jq.append{A B:List Value}(h1:jq S w sz A.toArray E)(h2:jq S w sz B.toArray F):jq S w sz (A++B).toArray (E++F):=by
 have hA:A.length=E.length*sz:=cJ h1.1;have hB:B.length=F.length*sz:=cJ h2.1;refine⟨by simp[hA,hB,axT],fun i r hi=>?_,fun i j r x hi hj=>?_⟩
 ·rw[axY] at hi
  split at hi
  ·exact h1.2.1 i r hi
  ·exact h2.2.1 _ r hi
 ·rw[axY] at hi
  split at hi
  ·obtain⟨v,hv,hp⟩:=h1.2.2 i j r x hi hj
   grind
  ·rename_i RI
   obtain⟨v,hv,hp⟩:=h2.2.2 _ j r x hi hj;refine⟨v,?_,hp⟩;simp only[axE] at hv ⊢;have e1:i*sz=E.length*sz+(i-E.length)*sz:=by rw[<- axT];congr 1;omega
   grind
def jq.ari{S':Nat->Nat->Prop}{A:Array Value}(h:jq S w sz A E)(hS:∀ b o,S b o->S' b o)(hc:∀ b o,S b o->w'.cell? ⟨b,o,none⟩=w.cell? ⟨b,o,none⟩)(hm:∀ b E ck,S b 0->w.heap[b]?=some (.map E ck)->w'.heap[b]?=some (.map E ck))
  (hb:w'.heap[b]?=some (.cells C' ty fr)) (hA:∀ j,j<A.size->C'[j]?=A[j]?) (hq:∀ j,j<E.length*sz->S' b j) (cap:Nat) (kQ:E.length<=cap):PR S' w' (.slice (some ⟨b,0,none⟩) E.length cap) (.slice E false):=by
 have key:∀ (i j:Nat) (r:List AV) (x:AV),E[i]?=some r->r[j]?=some x->∃ v,A[i*sz+j]?=some v/\PR S w v x/\i*sz+j<A.size/\A.getD (i*sz+j) undef=v:=by
  intro i j r x hi hj;obtain⟨v,hv,cu⟩:=h.2.2 i j r x hi hj;have aP:=(axb.1 hv).1
  simp_all
 refine .slice b 0 E.length cap sz E (fun i j=>A.getD (i*sz+j) undef) rfl kQ h.2.1 ?_ ?_
 ·intro i j r x hi hj
  obtain⟨v,hv,cu,aP,hg⟩:=key i j r x hi hj;rw[axC,hg];refine⟨hq _ (by rw[<- h.1];exact aP),?_,cu.fJ⟩
  rw[cell_of_row w' b _ C' ty fr hb,hA _ aP,hv]
 ·intro i j r x hi hj
  obtain⟨v,hv,cu,aP,hg⟩:=key i j r x hi hj;rw[hg];exact cu.mono hS hc hm
structure Bh (P:Program) (t e:TypeId) (sz bytes:Nat):Prop where
 ht:P.underlying t=some (.slice e)
 hi:∃ i z,P.info? e=some i/\i.zero=some z/\i.size=sz/\i.bytes=bytes/\z.cells.size=sz
 pos:0<sz
theorem grow{t:TypeId}(hT:Bh P t e sz bytes){ao:Option Addr}{n:Nat}{olds:List Value}{x:Value}(hold:(Builtin.firstCells sz sLen (.slice ao sLen sCap)).run P w.drew=.ok olds.toArray w.drew)
  (hol:olds.length=sLen*sz) (hs:Src P sz tx x n news w) (hg:sCap<sLen+n) (h63:sLen+n<=70368744177664) (hby:(sLen+n)*bytes<=70368744177664) :
  ∃ yE C' ,(Builtin.append_ #[t,tx] ty #[.slice ao sLen sCap,x]).run P w=.ok (.slice (some ⟨w.heap.size,0,none⟩) (sLen+n) yE) (w.drew.alloc (.cells C' e))/\sLen+n<=yE/\C'.size=yE*sz/\∀ j,j<(olds++news).toArray.size->C'[j]?=(olds++news).toArray[j]?:=by
 obtain⟨i,z,hi,hz,rfl,rfl,hzs⟩:=hT.hi;have h:=run_append_grow_src (P:=P) w t tx ty e i z hT.ht hi hz ao sLen sCap olds hold x n news hs hg af (growslice_fits hg af);have kQ:=grownCap_ge w (sLen+n) sCap e;refine⟨_,_,h,kQ,?_,fun j hj=>?_⟩
 ·rw[Array.size_append,size_zeroCells,hzs]
  simp only[aym,List.length_append,hol,hs.newsLen];rw[<- axT,<- axT]
  congr 1;omega
 ·grind
def room{t e2:TypeId}(hT:Bh P t e sz bytes){n:Nat}{x:Value}(hs:Src P sz tx x n news w)(hb:w.heap[b]?=some (.cells C e2 fr))(KY:fr.2<=sLen*sz)
  (pY:sLen+n<=sCap) (gH:sLen*sz+news.length<=C.size) :
  (Builtin.append_ #[t,tx] ty #[.slice (some ⟨b,0,none⟩) sLen sCap,x]).run P w=.ok (.slice (some ⟨b,0,none⟩) (sLen+n) sCap) (w.setRow b (fQ C (sLen*sz) news.toArray)):=by
 obtain⟨i,z,hi,hz,rfl,rfl,hzs⟩:=hT.hi;have gP:=run_storeCells_atF P b (sLen*i.size) e2 fr news 0 C w hb (cJ KY) (cJ gH) hs.one;simp only[axZ] at gP
 rcases hs.kind with ⟨e',hk⟩|hk<;>simp[Builtin.append_,run_underlying hT.ht,run_underlying hk,sizeOf,typeInfo,hi,hs.len,pY,hs.cells,Addr.add_lit,gP,fQ]
def CR.given(hW:aY G base s.H gh w)(hF:FR L nt gh w a s){e:List (List AV)}{own:Bool}(h:CR gh s.H.length w .ret v (.slice e own))(p:bF)(hp:p≠.outer) :
  ∃ a8,aY G base s.H a8 w/\FR L nt a8 w a s/\Ext s.H.length gh w a8 w/\CR a8 s.H.length w p v (.slice e own):=by
 have gl:=fun b hb=>hW.cg (gh:=gh) b hb
 rcases h with hv|⟨e',heq,Nn,b,cap,C,ty,lo,hi,sz,jn,hk,he,hb,hC,hr,hl,hh,hS⟩
 ·exact⟨gh,hW,hF,Ext.refl _ _ _ gl,.inl hv⟩
 ·injection heq with h1 h2
  subst h1 h2;have aP:b<w.heap.size:=(axb.1 hb).1;have st:=mQ hW aP p s.H.length;rw[hk] at st;have hn:gh.κ b≠.none:=by rw[hk];simp
  exact⟨gh.uo b p,Nl hW aP p hn (by rw[hk];simp),hF.grown (H':=s.H) (lo':=s.lo) st (fun i=>⟨ae,ae,ae⟩) (Nat.le_refl _),yU hW aP hp hn (by rw[hk];simp) _,.inr ⟨e,rfl,Nn,b,cap,C,ty,lo,hi,sz,jn,by simp[Gh.uo],he,hb,hC,hr,hl,hh,hS⟩⟩
def MU{n:Nat}{x:Value}(h:Src P sz tx x n news w):(Builtin.firstCells sz n x).run P w.drew=.ok news.toArray w.drew:=h.cellsD
theorem ML(hW:aY G base s.H gh w)(hF:FR L nt gh w a s){t:TypeId}(hT:Bh P t e sz bytes)
  (h:CR gh s.H.length w .ret V (.slice E true)) (hs:Src P sz tx X F.length news w) (dj:jq gh.S w sz news.toArray F) (gH:cn sz bytes E F=true) {isB:Bool} (ri:mK isB (E++F)=true) (Vb:isB=true->e=je) (da:F≠[]) (p:bF) (hp:p≠.outer) :
  ∃ v' a8 w',(Builtin.append_ #[t,tx] ty #[V,X]).run P w=.ok v' w'/\aY G base s.H a8 w'/\FR L nt a8 w' a s/\Ext s.H.length gh w a8 w'/\CR a8 s.H.length w' p v' (.slice (E++F) true):=by
 simp only[cn,aw4,axv] at gH;obtain⟨⟨⟨JF,kG⟩,hE⟩,_⟩:=gH;have hFl:0<F.length:=ayn.2 da;have Nn:PR gh.S w V (.slice E false):=by
  rcases h with h|⟨e',heq,Nn,_⟩
  ·exact (VR.dropped h).jx
  ·grind
 obtain⟨olds,Vv,hrV,NG⟩:=A5 (P:=P) (tx:=t) (sz:=sz) Nn (.inl ⟨_,hT.ht⟩) hE;have hol:olds.length=E.length*sz:=Vv.newsLen;have dQ:=hrV.append dj;have new:∀ ao cap,V=.slice ao E.length cap->cap<E.length+F.length->∃ v' a8 w',(Builtin.append_ #[t,tx] ty #[V,X]).run P w=.ok v' w'/\aY G base s.H a8 w'/\FR L nt a8 w' a s/\Ext s.H.length gh w a8 w'/\CR a8 s.H.length w' p v' (.slice (E++F) true):=by
  intro ao cap hV aP;subst hV;obtain⟨yE,C',dI,kQ,RC,vb⟩:=grow (P:=P) (ty:=ty) hT (MU Vv) hol hs aP kG JF;have oU:fy w (w.drew.alloc (.cells C' e)) (.cells C' e):=.drew w _;have st:=jd hW oU hp (fun o=>o<(E++F).length*sz) s.H.length
  have n9:=hW.alloc oU hp (fun o=>o<(E++F).length*sz) (fun k m hk hc=>by
   rw[cell_of_row _ _ k _ _ _ oU.new,vb k (by rw[dQ.1];exact hk)] at hc
   have:=qi dQ ri Vb hk hc
   subst this;exact⟨C',(0,0),oU.new⟩)
  have cu:=dQ.slice (gh:=gh) rfl oU (p:=p) hW.qj vb (q:=fun o=>o<(E++F).length*sz) (fun j hj=>hj) yE (by rw[List.length_append];exact kQ)
  refine⟨_,_,_,dI,n9,hF.grown (H':=s.H) (lo':=s.lo) st (fun i=>⟨id,id,fun _=>id⟩) (Nat.le_refl _),po hW oU hp _ _,.inr ⟨E++F,rfl,?_,?_⟩⟩
  ·grind
  ·refine⟨w.heap.size,yE,C',e,0,0,sz,by rw[List.length_append],by simp[Gh.alloc],by simp[da],oU.new,RC,dQ.2.1,by rw[List.length_append];exact kQ,axh _,?_⟩
   rintro o ho (hs|⟨_,hs⟩)
   ·have:=hW.qj _ _ hs;omega
   ·omega
 rcases h with h|⟨e',heq,_,b,cap,C,oI,lo,hi,lq,jn,hk,he,hb,hC,hr,hl,hh,hS⟩
 ·cases h with
  | plain _ _ h=>cases h
  | full ao k _ h =>
   grind
 ·injection heq with h1
  subst h1
  by_cases aP:cap<E.length+F.length
  ·exact new _ cap jn aP
  ·subst jn
   have j7:lq=sz:=FP hE hr he;subst j7;have pY:E.length+F.length<=cap:=af;have gH:E.length*lq+news.length<=C.size:=by rw[hs.newsLen,hC,<- axT];exact axg _ pY
   have dI:=room (P:=P) (ty:=ty) hT hs hb hh pY gH;have lY:E.length*lq+news.toArray.size<=C.size:=cJ gH;have hold:∀ o,gh.S b o->(fQ C (E.length*lq) news.toArray)[o]?=C[o]?:=by
    grind [k9]
   have st:=sq hW hb (dF lY) (fun o=>o<(E++F).length*lq) hold p s.H.length
   have hn:gh.κ b≠.none:=by rw[hk];simp
   have hE':=CM hW hb (dF lY) (fun o=>o<(E++F).length*lq) hold hp hn (by rw[hk];simp) s.H.length
   have ZO:∀ j,j<(olds++news).toArray.size->(fQ C (E.length*lq) news.toArray)[j]?=(olds++news).toArray[j]?:=by
    intro j hj;have auJ:news.length=F.length*lq:=hs.newsLen;simp only[aym,List.length_append] at hj;rw[k9 lY];simp only[axE,aym];rw[axY];split
    ·rw[if_neg af,hol]
    ·rename_i mS
     have B4:j<E.length*lq:=af;rw[if_pos af]
     rcases NG with ⟨_,Mq⟩|⟨b2,o2,ajq,hV2,_,xL⟩
     ·exact absurd Mq he
     ·injection hV2 with h1 h2 h3
      injection h1 with h1
      injection h1 with h1 h4
      subst h1 h4;have:=(xL j B4).2
      rw[axC,cell_of_row w b j C oI _ hb] at this;exact this
   have RT:∀ k m,k<(E++F).length*lq->(fQ C (E.length*lq) news.toArray)[k]?=some (.int .u8 m)->oI=je:=by
    intro k m hk hc;rw[ZO k (by rw[dQ.1];exact hk)] at hc
    refine qi dQ ri (fun hB=>?_) hk hc
    subst hB;cases E with
    | nil=>exact absurd rfl he
    | cons r0 E0 =>
     have Vt:∃ m0,r0=[.int .u8 m0]:=by
      have:oq (r0 :: E0++F)=true:=ri
      simp only[oq,axN,List.all_cons,aw4] at this;have h1:=this.1;split at h1
      ·exact⟨_,rfl⟩
      ·cases h1
     obtain⟨m0,rfl⟩:=Vt
     rcases NG with ⟨_,Mq⟩|⟨b2,o2,ajq,hV2,_,xL⟩
     ·cases Mq
     ·injection hV2 with h1 h2 h3
      injection h1 with h1
      injection h1 with h1 h4
      subst h1 h4;have h5:=hr 0 _ rfl;simp only[aya] at h5;obtain⟨v,hv,hp⟩:=hrV.2.2 0 0 _ _ rfl rfl;cases hp;simp only[axE,ay',axC] at hv;have h6:=xL 0 df;rw[axC,hv] at h6;obtain⟨C2,fr2,h7⟩:=hW.bytes _ _ _ h6.1 h6.2;rw[hb] at h7;injection h7 with h7
      injection h7
   have n9:=Qp hW hb (dF lY) (fun o=>o<(E++F).length*lq) hold RT p hn (by rw[hk];simp)
   have FF:=st;rw[hk] at st;have u9:news.length=F.length*lq:=hs.newsLen;refine⟨_,_,_,dI,n9,hF.grown (H':=s.H) (lo':=s.lo) st (fun i=>⟨ae,ae,ae⟩) (Nat.le_refl _),hE',.inr ⟨E++F,rfl,?_,?_⟩⟩
   ·rw[<- List.length_append]
    refine dQ.ari st.S st.cell st.mp (setRow_heap w b C _ oI _ hb) (fun j hj=>?_) (fun j hj=>.inr ⟨rfl,hj⟩) cap (by rw[List.length_append];exact pY)
    simp only[aym,List.length_append] at hj;rw[k9 lY];simp only[axE,aym];rw[axY];split
    ·rw[if_neg af,hol]
    ·rename_i mS
     have B4:j<E.length*lq:=af;rw[if_pos af]
     rcases NG with ⟨_,Mq⟩|⟨b2,o2,ajq,hV2,_,xL⟩
     ·exact absurd Mq he
     ·injection hV2 with h1 h2 h3
      injection h1 with h1
      injection h1 with h1 h4
      subst h1 h4;have:=(xL j B4).2
      rw[axC,cell_of_row w b j C oI _ hb] at this;exact this
   ·refine⟨b,cap,_,oI,lo,hi,lq,by rw[List.length_append],ae,by simp[he],setRow_heap w b C _ oI _ hb,by rw[dF lY,hC],dQ.2.1,by rw[List.length_append];exact pY,?_,?_⟩
    ·rw[List.length_append,axT];exact axx hh (Nat.le_add_right _ _)
    ·rintro o ho (wY|⟨_,wY⟩)
     ·exact hS o (by rw[List.length_append,axT] at ho;omega) wY
     ·omega
end
end
section
section
variable {P:Program}{G:Nat->List AV}{base nt:Nat}{L:List Nat}{gh:Gh}{w w' : World}{a:Act}{s:AS}{H:aa}
theorem QU(hW:aY G base s.H gh w)(hF:FR L nt gh w a s){t:TypeId}(hT:Bh P t e sz bytes){t0:Nat}
  (h:uD gh w (.bx t0) (gv a t0) E) (hs:Src P sz tx X F.length news w) (dj:jq gh.S w sz news.toArray F) (gH:cn sz bytes E F=true) (d:Option Nat) :
  ∃ v' a8 w',(Builtin.append_ #[t,tx] ty #[gv a t0,X]).run P w=.ok v' w'/\aY G base s.H a8 w'/\FR L nt a8 w' a (s.cc t0 .any)/\Ext s.H.length gh w a8 w'/\uD a8 w' (Q0 d) v' (E++F):=by
 simp only[cn,aw4,axv] at gH;obtain⟨⟨⟨JF,kG⟩,hE⟩,hFo⟩:=gH;have gl:=fun b hb=>hW.cg (gh:=gh) b hb
 have hdo:=yC d;obtain⟨i,z,hi,_,rfl,_⟩:=hT.hi;have gV:(gv a t0).oneCell'=true:=by obtain⟨ad,cap,hv,_⟩:=h;rw[hv];rfl
 have akh:∀ {a8:Gh} {w' : World} {n gen:Nat} {T:az},SR a8 n nt w' T gen (gv a) t0 (gv a t0) .any:=fun {_ _ _ _ _}=>(.inl (.plain _ _ (.any _ gV)):CR _ _ _ _ _ _)
 have stay:FR L nt gh w a (s.cc t0 .any):=hF.cc (touch:=fun _=>False) (H':=s.H) (lo':=s.lo) (Step.refl _ _ _ _ gl) (Nat.le_refl _) (fun i _=>⟨id,id,fun _=>id⟩) (.inr rfl) (fun _=>akh)
 have new:∀ ao cap olds,gv a t0=.slice ao E.length cap->cap<E.length+F.length->Src P i.size t (.slice ao E.length cap) E.length olds w->jq gh.S w i.size olds.toArray E ->
   ∃ v' a8 w',(Builtin.append_ #[t,tx] ty #[gv a t0,X]).run P w=.ok v' w'/\aY G base s.H a8 w'/\FR L nt a8 w' a (s.cc t0 .any)/\Ext s.H.length gh w a8 w'/\uD a8 w' (Q0 d) v' (E++F):=by
  intro ao cap olds hV aP Vv hrV;obtain⟨yE,C',dI,kQ,RC,vb⟩:=grow (P:=P) (ty:=ty) hT Vv.cellsD Vv.newsLen hs aP kG JF;have dQ:=hrV.append dj;have oU:fy w (w.drew.alloc (.cells C' e)) (.cells C' e):=.drew w _;have st:=jd hW oU hdo (fun _=>False) s.H.length
  have n9:=hW.alloc oU hdo (fun _=>False) (fun _ _ h=>h.elim)
  rw[hV];have KN:FR L nt (gh.alloc w.heap.size (Q0 d) fun _=>False) (w.drew.alloc (.cells C' e)) a (s.cc t0 .any) :=
   stay.grown (H':=s.H) (lo':=s.lo) st (fun i=>⟨id,id,fun _=>id⟩) (Nat.le_refl _)
  refine⟨_,_,_,dI,n9,KN,po hW oU hdo _ _,some ⟨w.heap.size,0,none⟩,yE,by rw[List.length_append],.inr ⟨w.heap.size,C',e,i.size,?_,rfl,by simp[Gh.alloc],?_,oU.new,RC,by rw[List.length_append];exact kQ,dQ.2.1,?_⟩⟩
  ·intro h0
   simp_all
  ·rintro o (ho|⟨_,ho⟩)
   ·have:=hW.qj _ o ho;omega
   ·exact ho
  ·intro k j r x hk hj
   obtain⟨v,hv,hp⟩:=dQ.2.2 k j r x hk hj;refine⟨v,?_,hp.mono st.S st.cell st.mp⟩
   grind
 obtain⟨ao,cap,hV,⟨rfl,akm,K9⟩|⟨b,C,oI,lq,da,ha,hk,hS,hb,hC,hl,hr,iz⟩⟩:=h
 ·subst akm
  have Vv:Src P i.size t (.slice ao 0 0) 0 [] w:=by
   refine⟨.inl ⟨_,hT.ht⟩,fun _=>rfl,?_,?_,ae,fun _ h=>by cases h⟩
   ·cases ao with
    | none=>exact run_firstCells_none w _ 0 0 0
    | some ad=>exact run_firstCells_some w _ 0 ad 0 0 [] ae (fun j v h=>by simp at h)
   ·cases ao with
    | none=>exact run_firstCells_none w.drew _ 0 0 0
    | some ad=>exact run_firstCells_some w.drew _ 0 ad 0 0 [] ae (fun j v h=>by simp at h)
  cases F with
  | nil =>
   have hn:news=[]:=by have:=hs.newsLen;simp at this;exact this
   subst hn;refine⟨_,gh,w,?_,hW,stay,Ext.refl _ _ _ gl,ao,0,rfl,.inl ⟨rfl,rfl,K9⟩⟩;rw[hV];exact run_append_nothing w t tx ty e i hT.ht hi ao 0 0 (Nat.le_refl _) X hs
  | cons f F=>exact new ao 0 [] hV ae Vv ⟨ae,fun i r h=>by simp at h,fun i j r x h=>by simp at h⟩
 ·subst ha
  have j7:lq=i.size:=FP hE hr da;subst j7;have hEC:E.length*i.size<=C.size:=by rw[hC];exact axg _ hl
  have y6:(C.toList.take (E.length*i.size)).length=E.length*i.size:=df;have hrV:jq gh.S w i.size (C.toList.take (E.length*i.size)).toArray E:=by
   refine⟨df,hr,fun k j r x hk hj=>?_⟩
   grind [x4]
  have Vl:∀ u∈C.toList.take (E.length*i.size),u.oneCell'=true:=by
   intro u hu;obtain⟨k,hk⟩:=axu hu;have aP:k<E.length*i.size:=by rw[<- y6];exact (aw5.1 hk).1
   obtain⟨h1,h2,h3⟩:=vx aP;have Vt:=aw3 h1;have CC:=aw3 (show k % i.size<E[k / i.size].length by rw[hr _ _ Vt];exact h2)
   obtain⟨u',IM,hp⟩:=hrV.2.2 _ _ _ _ Vt CC;rw[h3] at IM;simp only[axE] at IM;rw[hk] at IM;injection IM with IM
   subst IM;exact hp.fJ
  have cZ:∀ j u,(C.toList.take (E.length*i.size))[j]?=some u->w.cell? ((⟨b,0,none⟩:Addr).add j)=some u:=by
   intro j u hj;rw[addr_add,axC,cell_of_row w b j C oI _ hb];rw[List.getElem?_take] at hj;split at hj
   ·simpa using hj
   ·cases hj
  have Vv:Src P i.size t (.slice (some ⟨b,0,none⟩) E.length cap) E.length (C.toList.take (E.length*i.size)) w:=.ofSlice w hT.ht ⟨b,0,none⟩ E.length cap _ y6 cZ Vl
  by_cases aP:cap<E.length+F.length
  ·exact new _ cap _ hV aP Vv hrV
  ·have pY:E.length+F.length<=cap:=af
   have gH:E.length*i.size+news.length<=C.size:=by rw[hs.newsLen,hC,<- axT];exact axg _ pY
   have dI:=room (P:=P) (ty:=ty) hT hs hb (axh _) pY gH;have lY:E.length*i.size+news.toArray.size<=C.size:=cJ gH;have mS:∀ o,gh.S b o->(fQ C (E.length*i.size) news.toArray)[o]?=C[o]?:=fun o ho=>(hS o ho).elim
   have st:=sq hW hb (dF lY) (fun _=>False) mS (Q0 d) s.H.length
   have hn:gh.κ b≠.none:=by rw[hk];simp
   have hE':=CM hW hb (dF lY) (fun _=>False) mS hdo hn (by rw[hk];simp) s.H.length
   have n9:=Qp hW hb (dF lY) (fun _=>False) mS (fun _ _ h=>h.elim) (Q0 d) hn (by rw[hk];simp)
   rw[hk] at st;have KN:=hF.cc (t:=t0) (X:=.any) (H':=s.H) (lo':=s.lo) st (Nat.le_refl _) (fun i hi=>⟨cJ hi,ae,ae⟩) (.inr rfl) (fun _=>akh)
   rw[hV];have dQ:=hrV.append dj;refine⟨_,_,_,dI,n9,KN,hE',some ⟨b,0,none⟩,cap,by rw[List.length_append],.inr ⟨b,_,oI,i.size,by simp[da],rfl,ae,?_,setRow_heap w b C _ oI _ hb,by rw[dF lY,hC],by rw[List.length_append];exact pY,dQ.2.1,?_⟩⟩
   ·rintro o (ho|⟨_,ho⟩)
    ·exact hS o ho
    ·exact ho
   ·intro k j r x ui hj
    obtain⟨v,hv,hp⟩:=dQ.2.2 k j r x ui hj;refine⟨v,?_,hp.mono st.S st.cell st.mp⟩;rw[k9 lY];simp only[axE,aym] at hv ⊢;rw[axY,y6] at hv;have u9:news.length=F.length*i.size:=hs.newsLen;split at hv
    ·rename_i h1
     rw[if_neg af];rw[List.getElem?_take,if_pos h1] at hv
     simpa using hv
    ·rename_i h1
     have h2:=(aw5.1 hv).1;rw[if_pos af];exact hv
def wy(hW:aY G base s.H gh w)(hF:FR L nt gh w a s)(hc:au nt x=some y)(he:dN sz (y.eval G s.T)=some f)(hh:fZ sz f=true)
  (hk:(∃ e',P.underlying tx=some (.slice e'))\/P.underlying tx=some .string):∃ news,Src P sz tx (a.eval x) f.length news w/\jq gh.S w sz news.toArray f:=by
 generalize hY:y.eval G s.T=Y at he;cases Y<;>simp only[dN] at he<;>try (cases he;done)
 ·rename_i l
  obtain⟨h0,h1⟩:=ay he;have h0:sz=1:=by simpa [im] using h0
  subst h0;injection h1 with h1
  subst h1;obtain⟨q,hq,hl⟩:=(cO hW hF hc hY rfl).ku;rw[hq,List.length_map];exact abL hl hk
 ·rename_i el own
  injection he with he
  subst he;obtain⟨news,h1,h2,_⟩:=A5 (P:=P) (tx:=tx) (sz:=sz) (cO hW hF hc hY rfl).jx hk hh;exact⟨news,h1,h2⟩
 ·injection he with he
  subst he;rw[(cO hW hF hc hY rfl).mT];obtain⟨news,h1,h2,_⟩:=A5 (P:=P) (tx:=tx) (sz:=sz) (PR.dr (S:=gh.S) (w:=w)) hk hh;exact⟨news,h1,h2⟩
def gQ{c:Call}{y:Operand}{t:TypeId}(ho:o.op=.call c)(jG:c.callee=.builtin .append)(fL:c.args.toList=[x,y])(nx:c.argTypes.toList=[t,u])
  (dI:(Builtin.append_ #[t,u] o.type #[a.eval x,a.eval y]).run P w=.ok v w'):(execOp a.eval o).run P w=.ok (.value v) w':=by
 have e1:c.args=#[x,y]:=by apply ay0;simpa using fL
 have e2:c.argTypes=#[t,u]:=by apply ay0;simpa using nx
 unfold execOp;simp only[ho,resolve,jG,e1,e2,invoke,builtin,Sem.run_bind,Sem.run_pure,Result.andThen_ok,ay1,axe,axB,dI]
def Md{e:List (List AV)}(h:PR S w V (.slice e false)):∃ ao cap,V=.slice ao e.length cap/\e.length<=cap:=by
 cases h with
 | dr=>exact⟨none,0,rfl,Nat.le_refl _⟩
 | slice b o n cap sz _ _ hn kQ=>subst hn;exact⟨_,cap,rfl,kQ⟩
theorem Rl(hW:aY G base s.H gh w)(hF:FR L nt gh w a s){c:Call}{y:Operand}{t:TypeId}{yx yy:aI}{isB wr:Bool}{z:AV}
  (ho:o.op=.call c) (jG:c.callee=.builtin .append) (fL:c.args.toList=[x,y]) (nx:c.argTypes.toList=[t,u]) (hT:Bh P t e sz bytes) (Vb:isB=true->e=je) (hu:(∃ e',P.underlying u=some (.slice e'))\/P.underlying u=some .string)
  (jf:au nt x=some yx) (FX:au nt y=some yy) (he:fO G s isB wr sz bytes yx yy=some (z,s')) (hd:∀ k,o.dst=some k->k<nt) (hL:wr=true->∀ k,o.dst=some k->k∈L) :
  ∃ v' a8 w',xr P a o w v' w'/\Out G base nt L gh w a s o.dst z (s'.getD s) v' a8 w':=by
 have gl:=fun b hb=>hW.cg (gh:=gh) b hb
 have core:∀ (s1:AS) (oK:Gh) (el:List (List AV)) (own:Bool),s1.H=s.H->aY G base s1.H oK w->FR L nt oK w a s1->Ext s.H.length gh w oK w->(∀ b o,gh.S b o->oK.S b o) ->
   CR oK s1.H.length w .ret (a.eval x) (.slice el own)->aC isB sz bytes (.slice el own) (yy.eval G s.T)=some z ->
   ∃ v' a8 w',xr P a o w v' w'/\Out G base nt L gh w a s o.dst z s1 v' a8 w':=by
  intro s1 oK el own hH uf BY Iz K6 oT wD;simp only[aC,aw1] at wD;obtain⟨f,hf,wD⟩:=wD;cases f with
  | nil =>
   simp only[aw2] at wD;subst wD;obtain⟨news,hs,hr⟩:=wy (P:=P) hW hF FX hf rfl hu;have hn:news=[]:=by have:=hs.newsLen;simp at this;exact this
   subst hn;obtain⟨gh2,IB,KO,Bz,UU⟩:=oT.given uf BY (XD o.dst) (qU _);obtain⟨ao,cap,hV,hle⟩:=Md (w:=w) (oT.dropped).jx;obtain⟨i,z,hi,_,rfl,_⟩:=hT.hi;refine⟨a.eval x,gh2,w,.inl (gQ ho jG fL nx ?_),Out.of (s1:=s1) (gen':=s1.gen) IB KO (Iz.trans Bz (by rw[hH];exact Nat.le_refl _)) (Nat.le_refl _) hd (.inl rfl) (fun k hk=>?_)⟩
   ·rw[hV]
    exact run_append_nothing w t u o.type e i hT.ht hi ao _ cap hle _ hs
   ·rw[hk] at UU
    exact UU
  | cons f0 fr =>
   obtain⟨h0,wD⟩:=ay wD;injection wD with wD
   subst wD;simp only[aw4] at h0;obtain⟨⟨rfl,gH⟩,ri⟩:=h0;have hh:fZ sz (f0 :: fr)=true:=by simp only[cn,aw4] at gH;exact gH.2
   obtain⟨news,hs,hr⟩:=wy (P:=P) hW hF FX hf hh hu;have B8:jq oK.S w sz news.toArray (f0 :: fr):=⟨hr.1,hr.2.1,fun i j r x hi hj=>by
    obtain⟨v,hv,hp⟩:=hr.2.2 i j r x hi hj;exact⟨v,hv,hp.mono K6 (fun _ _ _=>rfl) (fun _ _ _ _ h=>h)⟩⟩
   obtain⟨v',gh2,w2,dI,IB,KO,Bz,UU⟩:=ML (P:=P) (ty:=o.type) uf BY hT oT hs B8 gH ri Vb ae (XD o.dst) (qU _);refine⟨v',gh2,w2,.inl (gQ ho jG fL nx dI),Out.of (s1:=s1) (gen':=s1.gen) IB KO (Iz.trans Bz (by rw[hH];exact Nat.le_refl _)) (Nat.le_refl _) hd (.inl rfl) (fun k hk=>?_)⟩
   rw[hk] at UU;exact UU
 have ad5:∀ (t0:Nat) (el f:List (List AV)),x=.tmp t0->t0<nt->uD gh w (.bx t0) (gv a t0) el->dN sz (yy.eval G s.T)=some f->cn sz bytes el f=true->wr=true ->
   ∃ v' a8 w',xr P a o w v' w'/\Out G base nt L gh w a s o.dst (.lsl s.gen (el++f)) { s.cc t0 .any with gen:=s.gen+1 } v' a8 w':=by
  intro t0 el f hx ht bQ hf gH JS;have hh:fZ sz f=true:=by simp only[cn,aw4] at gH;exact gH.2
  obtain⟨news,hs,hr⟩:=wy (P:=P) hW hF FX hf hh hu;obtain⟨v',gh2,w2,dI,IB,KO,Bz,DH⟩:=QU (P:=P) (ty:=o.type) hW hF hT bQ hs hr gH o.dst;have hxe:a.eval x=gv a t0:=by rw[hx];rfl
  refine⟨v',gh2,w2,.inl (gQ ho jG fL nx (by rw[hxe];exact dI)),Out.of (s1:=s.cc t0 .any) (gen':=s.gen+1) IB KO Bz (Nat.le_succ _) hd (.inr ⟨⟨s.gen,Nat.le_refl _,rfl⟩,hL JS⟩) (fun k hk=>⟨ay4 _,?_⟩)⟩
  rw[hk] at DH;exact DH
 cases yx with
 | tmp t0 =>
  obtain⟨rfl,ht⟩:=kI jf;simp only[fO] at he;split at he
  ·rename_i g el o8
   simp only[oX] at he;obtain⟨f,hf,h0,he⟩:=he
   grind [qm]
  ·rename_i el own o8
   cases JS:wr with
   | true =>
    rw[JS] at he;simp only[cond_true,oX] at he;obtain⟨f,hf,h0,rfl,rfl⟩:=he;simp only[aw4,ayO] at h0;obtain⟨⟨rfl,rfl⟩,gH⟩:=h0;have oT:=Ib hF ht o8;have bQ:uD gh w (.bx t0) (gv a t0) []:=by
     rcases oT with h|⟨e',heq,_,b,cap,C,ty,lo,hi,lq,jn,hk,da,_⟩
     ·change VR gh s.H.length w (gv a t0) _ at h
      generalize gv a t0=V at h;cases h with
      | plain _ _ h=>cases h
      | full ao k _ h hz =>
       cases h with
       | dr=>exact⟨none,0,rfl,.inl ⟨rfl,rfl,fun ad h=>by cases h⟩⟩
       | slice b o _ _ lq _ _ hn =>
        simp at hn;subst hn;exact⟨_,0,rfl,.inl ⟨rfl,rfl,fun ad h=>⟨by injection h with h;subst h;rfl,trivial⟩⟩⟩
     ·injection heq with h1;subst h1;exact absurd rfl da
    exact ad5 t0 [] f rfl ht bQ hf gH JS
   | false =>
    rw[JS] at he;simp only[cond_false,aw0,aw6] at he;obtain⟨z',wD,rfl,rfl⟩:=he;obtain⟨oK,uf,BY,Iz,XH,oT⟩:=zF hW hF ht o8 .ret ae;exact core (s.cc t0 (.slice el false)) oK el own rfl uf BY Iz XH.S oT wD
  ·rename_i o8
   cases JS:wr with
   | true =>
    rw[JS] at he;simp only[cond_true,oX] at he;obtain⟨f,hf,h0,rfl,rfl⟩:=he;have hv:=(cO hW hF jf (show (aI.tmp t0).eval G s.T=.al from o8) rfl).mT
    exact ad5 t0 [] f rfl ht ⟨none,0,hv,.inl ⟨rfl,rfl,fun ad h=>by cases h⟩⟩ hf h0 JS
   | false =>
    rw[JS] at he;simp only[cond_false,aw0,aw6] at he;obtain⟨z',wD,rfl,rfl⟩:=he;have hv:=(cO hW hF jf (show (aI.tmp t0).eval G s.T=.al from o8) rfl).mT
    exact core s gh [] true rfl hW hF (Ext.refl _ _ _ gl) (fun _ _ h=>h) (.inl (by rw[hv];exact .full none 0 [] .dr trivial)) wD
  ·cases he
 | yn v =>
  simp only[fO] at he;cases JS:wr with
  | true=>rw[JS] at he;cases he
  | false =>
   rw[JS] at he;simp only[cond_false,aw0,aw6] at he;obtain⟨z',wD,rfl,rfl⟩:=he;simp only[aI.eval] at wD;cases v<;>simp only[aC] at wD<;>try (cases wD;done)
   rename_i el own;have hv:VR gh s.H.length w (a.eval x) (.slice el own):=by
    cases x with
    | tmp k =>
     simp only[au] at jf;rcases aye (Nat.blt k nt) with hb|hb<;>rw[hb] at jf<;>simp at jf
    | const u =>
     simp only[au,aw0] at jf;obtain⟨zz,hz,h⟩:=jf;injection h with h
     subst h;exact kL hz
    | global g=>simp[au] at jf
    | func f=>simp[au] at jf
   exact core s gh el own rfl hW hF (Ext.refl _ _ _ gl) (fun _ _ h=>h) (.inl hv) wD
 | aX g =>
  simp only[fO] at he;cases JS:wr with
  | true=>rw[JS] at he;cases he
  | false =>
   rw[JS] at he;simp[aI.eval,aC] at he
 | fn f =>
  simp only[fO] at he;cases JS:wr with
  | true=>rw[JS] at he;cases he
  | false =>
   rw[JS] at he;simp[aI.eval,aC] at he
end
end
section
def clean(gh:Gh):Prop:=∀ b,gh.κ b=.none\/gh.κ b=.outer\/(∃ l,gh.κ b=.hb l)\/(∃ l j,gh.κ b=.hs l j)\/∃ j,gh.κ b=.par j
def iV(p:bF):Prop:=(∃ l,p=.hb l)\/(∃ l j,p=.hs l j)\/∃ j,p=.par j
def qC(H:aa):Option fw->aa
 | none=>H
 | some c=>c.heap
structure pM (G:Nat->List AV) (base:Nat) (H:aa) (gh:Gh) (w:World) (r:AV) (c:Option fw) (v:Value) (a8:Gh) (w' : World):Prop where
 len:H.length<=(qC H c).length
 W:aY G base (qC H c) a8 w'
 st:Step iV H.length gh w a8 w'
 out:∀ b,a8.κ b=.outer->gh.κ b=.outer
 val:CR a8 (qC H c).length w' .ret v r
def jH(H:aa)(c:Option fw):Prop:=H.length<=(qC H c).length/\∀ c',c=some c'->c'.lo<=H.length/\∀ l,l<c'.lo->c'.heap[l]?=H[l]?
def jc(P:Program)(G:Nat->List AV)(cf:fX):Prop :=
 ∀ f args H r c,cf f args H=some (r,c)->(∃ fn,P.funcs[f]?=some fn/\fn.body.isSome=true/\fn.name≠ "runtime.NumGoroutine")/\jH H c /\
  ∀ (base:Nat) (gh:Gh) (w:World) (vs:Array Value),aY G base H gh w->clean gh->vs.size=args.length->(∀ (j:Nat) (v:Value) (x:AV),vs[j]?=some v->args[j]?=some x->CR gh H.length w (.par j) v x) ->
   Calls P f vs w fun e w'=>∃ v a8,e=.returned v/\pM G base H gh w r c v a8 w'
section
variable {P:Program}{G:Nat->List AV}{base nt:Nat}{L:List Nat}{gh:Gh}{w w' : World}{a:Act}{s:AS}{H:aa}
def gn:bF->Bool
 | .bx _|.sl _|.sc ..|.ret=>true
 | _=>false
def Gh.xO(gh:Gh):Gh:={ gh with κ:=fun b=>bif gn (gh.κ b) then .outer else gh.κ b }
def Nu(gh:Gh):clean gh.xO:=by
 intro b;simp only[Gh.xO];cases h:gh.κ b<;>simp[gn]
theorem G2(hW:aY G base H gh w)(n:Nat):Step (fun p=>gn p=true) n gh w gh.xO w:=by
 refine⟨fun _ _ h=>h,fun _ _ _=>rfl,Nat.le_refl _,rfl,rfl,rfl,fun b hb hn=>⟨.inl rfl,?_,fun _ h=>h⟩,fun b hb=>?_,fun _ _=>rfl,fun _ _ _ h=>h,fun _ _ _ _ h=>h⟩
 ·simp only[Gh.xO]
  grind
 ·simp only[Gh.xO,hW.fresh b hb]
  simp[gn]
def afp(hW:aY G base H gh w):aY G base H gh.xO w:=by
 refine hW.step (G2 hW H.length) (fun l=>⟨by simp[gn],by simp[gn]⟩) hW.qj (fun b hb=>hW.ru b fun h=>hb ?_) (fun _ _ _ h=>.inl h)
 simp[Gh.xO,h,gn]
def Gh.back(gh a8:Gh):Gh:={ a8 with κ:=fun b=>bif gn (gh.κ b) then gh.κ b else a8.κ b }
theorem TO(hW:aY G base H gh w){c:Option fw}(h:pM G base H gh.xO w r c v a8 w') :
  aY G base (qC H c) (gh.back a8) w'/\Step iV H.length gh w (gh.back a8) w'/\Ext H.length gh w (gh.back a8) w'/\CR (gh.back a8) (qC H c).length w' .ret v r:=by
 have RR:∀ b,gn (gh.κ b)=true->a8.κ b=.outer:=by
  intro b hb;have aP:b<w.heap.size:=(hW.ru b (by intro h0;rw[h0] at hb;cases hb)).2
  have:=(h.st.oo b aP (by simp[Gh.xO,hb,iV])).2.1
  rw[this];simp[Gh.xO,hb]
 have am4:Step (fun p=>p=.outer) (qC H c).length a8 w' (gh.back a8) w':=by
  refine⟨fun _ _ h=>h,fun _ _ _=>rfl,Nat.le_refl _,rfl,rfl,rfl,fun b hb hn=>⟨.inl rfl,?_,fun _ h=>h⟩,fun b hb=>?_,fun _ _=>rfl,fun _ _ _ h=>h,fun _ _ _ _ h=>h⟩
  ·simp only[Gh.back]
   grind
  ·simp only[Gh.back]
   have iG:w.heap.size<=b:=axx h.st.size hb;rw[hW.fresh b iG];simp only[gn,cond_false];exact h.st.fresh b iG
 have hlen:=h.len;have gP:Step iV H.length gh w (gh.back a8) w':=by
  refine⟨h.st.S,h.st.cell,h.st.size,h.st.os,h.st.tape,h.st.output,fun b hb hn=>?_,fun b hb=>?_,h.st.ρ,h.st.len,h.st.mp⟩
  ·cases hs:gn (gh.κ b) with
   | true =>
    have:=h.st.oo b hb (by simp[Gh.xO,hs,iV])
    exact⟨this.1,by simp[Gh.back,hs],this.2.2⟩
   | false =>
    have e1:gh.xO.κ b=gh.κ b:=by simp[Gh.xO,hs]
    have:=h.st.oo b hb (by rw[e1];exact hn)
    exact⟨this.1,by simp only[Gh.back,hs,cond_false];rw[this.2.1,e1],this.2.2⟩
  ·simp only[Gh.back]
   rw[hW.fresh b hb];simp only[gn,cond_false];exact h.st.fresh b hb
 refine⟨h.W.step am4 (fun l=>⟨ae,ae⟩) h.W.qj (fun b hb=>?_) (fun _ _ _ h=>.inl h),gP,⟨gP.mono (fun p hp=>?_),fun b hb=>?_⟩,h.val.mono am4 (Nat.le_refl _) ae⟩
 ·simp only[Gh.back] at hb
  cases hs:gn (gh.κ b) with
  | true =>
   have:=hW.ru b (by intro h0;rw[h0] at hs;cases hs)
   have:=h.st.size
   omega
  | false =>
   rw[hs] at hb;exact h.W.ru b hb
 ·rcases hp with ⟨l,rfl⟩|⟨l,j,rfl⟩|⟨j,rfl⟩<;>simp[sG]
 ·simp only[Gh.back] at hb
  cases hs:gn (gh.κ b) with
  | true =>
   grind
  | false =>
   rw[hs] at hb;have:=h.out b hb
   simpa [Gh.xO,hs] using this
def CR.aeZ(hW:aY G base s.H gh w)(hF:FR L nt gh w a s){x:AV}(h:CR gh s.H.length w .ret v x)(p:bF)(hp:p≠.outer) :
  ∃ a8,aY G base s.H a8 w/\FR L nt a8 w a s/\Ext s.H.length gh w a8 w/\CR a8 s.H.length w p v x:=by
 rcases h with h|⟨e,rfl,h⟩
 ·exact⟨gh,hW,hF,Ext.refl _ _ _ (fun b hb=>hW.cg b hb),.inl h⟩
 ·exact CR.given hW hF (.inr ⟨e,rfl,h⟩) p hp
def my{n:Nat}{x:AV}(h:VR gh n w v x.drop):VR gh n w v x.cU:=by
 cases x<;>first|exact h|skip
 rename_i cs;exact VR.Dg (h:VR gh n w v (.agg cs))
def Q2(uq:jc P G cf)(hW:aY G base s.H gh w)(hF:FR L nt gh w a s){f:FuncId}{vs:Array Value}{args:List AV}
  (he:cf f args s.H=some (r,ch)) (Gk:vs.size=args.length) (dh:∀ (j:Nat) (v:Value) (x:AV),vs[j]?=some v->args[j]?=some x->CR gh s.H.length w (.par j) v x)
  (dI:(∃ fn,P.funcs[f]?=some fn/\fn.body.isSome=true/\fn.name≠ "runtime.NumGoroutine")->(execOp a.eval o).run P w=.ok (.enter f vs) w) (hd:∀ k,o.dst=some k->k<nt) (K:Act->World->Prop) (Q:Exit->Act->World->Prop)
  (hK:∀ v' a8 w',Out G base nt L gh w a s o.dst r ((ch.map s.iw).getD s) v' a8 w'->K (a.put o.dst v') w'):o.wp P a w K Q:=by
 obtain⟨JJ,_,kj⟩:=uq f _ _ _ _ he;have gP:=G2 hW s.H.length;have hC:=kj base gh.xO w vs (afp hW) (Nu gh) Gk (fun j v x hv hx=>(dh j v x hv hx).mono gP (Nat.le_refl _) (by simp[gn]))
 unfold Oper.wp;rw[dI JJ,Oper.upon_enter];refine hC.mono ?_
 rintro e w2 ⟨v,a8,rfl,hR⟩
 obtain⟨IB,Vz,Bz,S9⟩:=TO hW hR;have acZ:=hR.len;have key:∀ s1:AS,s1.H=qC s.H ch->FR L nt (gh.back a8) w2 a s1->∃ gh3,Out G base nt L gh w a s o.dst r s1 v gh3 w2:=by
  intro s1 pH BY;obtain⟨gh3,hW3,hF3,hE3,hv3⟩:=CR.aeZ (by rw[pH];exact IB) BY (by rw[pH];exact S9) (XD o.dst) (qU _)
  refine⟨gh3,Out.of (s1:=s1) (gen':=s1.gen) hW3 hF3 (Bz.trans hE3 (by rw[pH];exact acZ)) (Nat.le_refl _) hd (.inl (ml hv3.aO)) (fun k hk=>?_)⟩
  rw[hk] at hv3;exact qo hv3.aO hv3
 cases ch with
 | none =>
  obtain⟨gh3,hO⟩:=key s rfl (hF.grown (H':=s.H) (lo':=s.lo) Vz (fun i=>⟨by simp[iV],by simp[iV],by simp[iV]⟩) (Nat.le_refl _))
  exact hK v gh3 w2 hO
 | some c' =>
  obtain⟨gh3,hO⟩:=key (s.iw c') rfl (hF.grown Vz (fun i=>⟨by simp[iV],by simp[iV],by simp[iV]⟩) acZ)
  exact hK v gh3 w2 hO
theorem Y5(uq:jc P G cf)(hW:aY G base s.H gh w)(hF:FR L nt gh w a s){c:Call}{fx:Operand}{yf:aI}{ys:List aI}{f:FuncId}{fs:List AV}
  (ho:o.op=.call c) (jG:c.callee=.value fx) (jf:au nt fx=some yf) (FX:kJ nt c.args.toList=some ys) (afn:yf.eval G s.T=.func (.func f) fs cs) (KY:(ys.map fun y=>y.addr G s.T).all aO=true)
  (he:cf f (fs++ys.map (fun y=>(y.addr G s.T).cU)++cs) s.H=some (r,ch)) (hd:∀ k,o.dst=some k->k<nt) (K:Act->World->Prop) (Q:Exit->Act->World->Prop)
  (hK:∀ v' a8 w',Out G base nt L gh w a s o.dst r ((ch.map s.iw).getD s) v' a8 w'->K (a.put o.dst v') w'):o.wp P a w K Q:=by
 have hfv:=cO hW hF jf afn rfl;obtain⟨us,ts,hfe,xN,mB,h1,h2⟩:=hfv.vd;have fL:=Ic hW hF FX KY;have hlen:=(nj FX).1
 let vs:Array Value:=us++c.args.map a.eval++ts
 have Gk:vs.size=(fs++ys.map (fun y=>(y.addr G s.T).cU)++cs).length:=by
  grind
 have dh:∀ (j:Nat) (v:Value) (x:AV),vs[j]?=some v->(fs++ys.map (fun y=>(y.addr G s.T).cU)++cs)[j]?=some x->VR gh s.H.length w v x:=by
  intro j v x hv hx;have S3:(c.args.map a.eval).size=ys.length:=cJ hlen;simp only[vs,Array.getElem?_append,Array.size_append] at hv;simp only[axY,List.length_append,List.length_map] at hx;rw[xN,S3] at hv;split at hv
  ·rename_i c1
   rw[if_pos c1] at hx;split at hv
   ·grind
   ·rename_i c2
    rw[if_neg c2] at hx;simp only[List.getElem?_map,aw0] at hx;obtain⟨y,hy,rfl⟩:=hx;refine my (fL (j-fs.length) v _ ?_ ?_)
    ·grind
    ·grind
  ·grind
 refine Q2 uq hW hF he Gk (fun j v x hv hx=>.inl (dh j v x hv hx)) ?_ hd K Q hK
 rintro ⟨fn,JJ,KR,rR⟩
 unfold execOp;cases hb:fn.body with
 | none=>rw[hb] at KR;cases KR
 | some code =>
  simp[ho,resolve,jG,hfe,Deferred.ofValue,invoke,callFunc,JJ,rR,hb,vs]
end
end
section
section
variable {P:Program}{G:Nat->List AV}{base nt:Nat}{L:List Nat}{gh:Gh}{w w' : World}{a:Act}{s:AS}{H:aa}
def JW(P:Program)(w:World)(d:Nat):Prop :=
 ∀ (t:TypeId) (ks:List CK),oS P d t=some ks->∀ (D o:Nat) (cs:Array Value) (em:Bool),d<=D->o+ks.length<=cs.size->∃ v,(part t cs o).run P w=.ok v w/\(Instr.checkKey em D t v).run P w=.ok () w
def yH{t:TypeId}{D:Nat}(h:P.underlying t=some .bool\/(∃ k,P.underlying t=some (.int k))\/P.underlying t=some .string):(Instr.checkKey em (D+1) t v).run P w=.ok () w:=by
 rcases h with h|⟨k,h⟩|h<;>simp[Instr.checkKey,run_underlying h]
def yG{d:Nat}(hd:JW P w d){D:Nat}(hD:d<=D){cs:Array Value} : ∀ (fs:List Go.Field) (q:Nat) (ks:List CK),qL (oS P d) fs q=some ks->q+ks.length<=cs.size ->
  Sem.run P (forIn fs PUnit.unit fun (f:Go.Field) (_:PUnit) =>
   if f.name≠ "_" then do
    let v <- part f.type cs f.offset
    Instr.checkKey em D f.type v
    pure (ForInStep.yield PUnit.unit)
   else pure (ForInStep.yield PUnit.unit)) w=.ok PUnit.unit w:=by
 intro fs
 induction fs with
 | nil=>intro q ks h1 h2;rfl
 | cons f fs ih =>
  intro q ks h1 h2;unfold qL at h1;simp only[oX] at h1;obtain⟨h3,kf,hkf,kr,hkr,rfl⟩:=h1;simp only[aw4,im,aw',bne_iff_ne] at h3;obtain⟨hof,tD⟩:=h3;rw[List.length_append] at h2;obtain⟨v,p1,p2⟩:=hd f.type kf hkf D q cs em hD af;have hr:=ih (q+kf.length) kr hkr af;rw[List.forIn_cons,if_pos tD,hof];simp only[Sem.run_bind,p1,p2,Result.andThen_ok,Sem.run_pure];exact hr
def GL:∀ d,JW P w d
 | 0=>fun t ks h=>by cases h
 | d+1=>by
  intro t ks h D o cs em hD iz;have h0:=h;unfold oS at h;cases hu:P.underlying t with
  | none=>rw[hu] at h;cases h
  | some dd =>
   rw[hu] at h;obtain⟨D,rfl⟩:∃ m,D=m+1:=⟨D-1,af⟩;have sc:ks.length=1->og P t=some false->(dd=.bool\/(∃ k,dd=.int k)\/dd=.string)->∃ v,(part t cs o).run P w=.ok v w/\(Instr.checkKey em (D+1) t v).run P w=.ok () w:=by
    intro h1 h2 h3;have hg:=h2;have hv:cs[o]?=some cs[o]:=axj af;refine⟨cs[o],by simp[part,jh hg,hv],yH ?_⟩
    rcases h3 with h3|⟨k,h3⟩|h3<;>subst h3
    ·exact .inl hu
    ·exact .inr (.inl ⟨k,hu⟩)
    ·exact .inr (.inr hu)
   cases dd<;>try (cases h;done)
   case bool=>injection h with h;subst h;exact sc rfl (oh hu rfl) (.inl rfl)
   case int kk=>injection h with h;subst h;exact sc rfl (oh hu rfl) (.inr (.inl ⟨kk,rfl⟩))
   case string=>injection h with h;subst h;exact sc rfl (oh hu rfl) (.inr (.inr rfl))
   case struct fs =>
    obtain⟨_,fU,sz,j7,hlen⟩:=tS h0 hu;have hg:og P t=some true:=by unfold og;rw[hu];rfl
    refine⟨.agg (cs.extract o (o+sz)),by simp[part,jh hg,fa j7],?_⟩
    have:=yG (GL d) (show d<=D by omega) (cs:=cs.extract o (o+sz)) (em:=em) fs.toList 0 ks fU df
    unfold Instr.checkKey;simp only[Sem.run_bind,run_underlying hu,Result.andThen_ok];rw[<- Array.forIn_toList,this];rfl
def wA{n:Nat}(h:VR gh n w v k)(hc:k.cells=some kc):(∃ C,v=.agg C/\k=.agg kc/\Row gh n w C kc)\/(kc=[k]/\v.oneCell'=true):=by
 have hr:=vF h hc;cases k
 case agg xs =>
  obtain⟨C,rfl,hs,gV,h⟩:=h.mo;injection hc with hc
  subst hc;exact .inl ⟨C,rfl,rfl,hs,h⟩
 case any=>cases hc
 case tuple=>cases hc
 case lbox=>cases hc
 case lref=>cases hc
 case lsl=>cases hc
 case lsr=>cases hc
 case eref=>cases hc
 case iter=>cases hc
 all_goals
  injection hc with hc
  subst hc;exact .inr ⟨rfl,h.fJ (by intro cs h;cases h) (by intro cs h;cases h)⟩
def Ao{n:Nat}(h:VR gh n w v k)(ha:true=k.isAgg):∃ C,v=.agg C:=by
 cases k<;>first|(cases ha;done)|skip
 obtain⟨C,rfl,_⟩:=h.mo;exact⟨C,rfl⟩
structure HZ (P:Program) (kt:TypeId) (ks:List CK) (ka:Bool):Prop where
 flat:oS P 8 kt=some ks
 agg:og P kt=some ka
theorem HZ.cases(h:HZ P kt ks ka):(ka=false/\((P.underlying kt=some .bool/\ks=[.b])\/(∃ k,P.underlying kt=some (.int k)/\ks=[.i])\/(P.underlying kt=some .string/\ks=[.s]))) \/
  (ka=true/\∃ fs,P.underlying kt=some (.struct fs)):=by
 have hf:=h.flat;have ha:=h.agg;unfold oS at hf;unfold og at ha;cases hu:P.underlying kt with
 | none=>rw[hu] at hf;cases hf
 | some dd =>
  rw[hu] at hf ha;cases dd<;>try (cases hf;done)
  case bool=>injection hf with hf;subst hf;simp at ha;exact .inl ⟨ha,.inl ⟨rfl,rfl⟩⟩
  case int k=>injection hf with hf;subst hf;simp at ha;exact .inl ⟨ha,.inr (.inl ⟨k,rfl,rfl⟩)⟩
  case string=>injection hf with hf;subst hf;simp at ha;exact .inl ⟨ha,.inr (.inr ⟨rfl,rfl⟩)⟩
  case struct fs=>simp at ha;exact .inr ⟨ha,fs,rfl⟩
def A2(hK:HZ P kt ks ka){n:Nat}(hk:VR gh n w kv k)(vL:k.cells=some kc)(hl:kc.length=ks.length)(Ab:ka=k.isAgg)(em:Bool) :
  (Instr.checkKey em 10000 kt kv).run P w=.ok () w:=by
 rcases hK.cases with ⟨rfl,h⟩|⟨rfl,fs,hu⟩
 ·refine yH ?_
  rcases h with ⟨h,_⟩|⟨k,h,_⟩|⟨h,_⟩
  ·exact .inl h
  ·exact .inr (.inl ⟨k,h⟩)
  ·exact .inr (.inr h)
 ·obtain⟨C,rfl⟩:=Ao hk Ab
  obtain⟨FZ,fU,sz,j7,hlen⟩:=tS hK.flat hu;have hC:C.size=kc.length:=by
   rcases wA hk vL with ⟨C',e,_,hr⟩|⟨_,h1⟩
   ·injection e with e;subst e;exact hr.1
   ·simp[Value.oneCell'] at h1
  have:=yG (GL (w:=w) (P:=P) 7) (show 7<=9999 by omega) (cs:=C) (em:=em) fs.toList 0 ks fU af
  unfold Instr.checkKey;simp only[Sem.run_bind,run_underlying hu,Result.andThen_ok];rw[<- Array.forIn_toList,this];rfl
def OT(S:Nat->Nat->Prop)(w:World)(kz:Nat)(ka:Bool)(v:Value)(r:List AV):Prop:=∃ f:Nat->Value,v=uy ka kz f/\∀ (j:Nat) (x:AV),r[j]?=some x->j<kz->PR S w (f j) x
def tg:∀ {k:List CK} {X Y:List AV} {b:Bool},cm k X Y=some b->k.length<=X.length/\k.length<=Y.length
 | [],X,Y,b,h=>⟨axh _,axh _⟩
 | c :: k,X,Y,b,h=>by
  cases c<;>cases X<;>try (cases h;done)
  all_goals (rename_i x X';cases x<;>try (cases h;done))
  all_goals (cases Y<;>try (cases h;done))
  all_goals (rename_i y Y';cases y<;>try (cases h;done))
  ·simp only[cm,aw0] at h
   obtain⟨b',hb,_⟩:=h;have:=tg hb
   simp;omega
  ·simp only[cm,oX] at h;obtain⟨_,b',hb,_⟩:=h
   have:=tg hb
   simp;omega
  ·simp only[cm,aw0] at h
   obtain⟨b',hb,_⟩:=h;have:=tg hb
   simp;omega
def R9(hK:HZ P kt ks ka){n:Nat}(hk:VR gh n w kv k)(vL:k.cells=some kc)(hl:kc.length=ks.length)(Ab:ka=k.isAgg)
  {v:Value} {r:List AV} (hv:OT gh.S w ks.length ka v r) {b:Bool} (he:cm ks kc r=some b) :
  (ka=true->(Op.equal kt kv v).run P w=.ok b w)/\(ka=false->∀ d,P.underlying kt=some d->Instr.sameNow d kv v=some b):=by
 obtain⟨f,rfl,hf⟩:=hv;have B9:=(tg he).2
 rcases hK.cases with ⟨rfl,h⟩|⟨rfl,fs,hu⟩
 ·refine⟨(fun h=>by cases h),fun _ d hd=>?_⟩
  have afv:kc=[k]:=by
   cases k<;>first|(cases Ab;done)|(injection vL with vL;exact vL.symm)|(cases vL;done)
  subst afv;have hv0:∀ x,r[0]?=some x->PR gh.S w (f 0) x:=fun x hx=>hf 0 x hx (by rcases h with ⟨_,h⟩|⟨_,_,h⟩|⟨_,h⟩<;>rw[h]<;>exact Nat.one_pos)
  show Instr.sameNow d kv (f 0)=some b
  cases r with
  | nil=>rcases h with ⟨_,h⟩|⟨_,_,h⟩|⟨_,h⟩<;>subst h<;>simp at B9
  | cons x r =>
   have hx:=hv0 x rfl
   rcases h with ⟨h,rfl⟩|⟨q,h,rfl⟩|⟨h,rfl⟩
   ·rw[h] at hd;injection hd with hd;subst hd
    cases k<;>try (cases he;done)
    cases x<;>try (cases he;done)
    obtain rfl:=hk.lZ;generalize f 0=u at hx;cases hx;simp[cm] at he;simp[Instr.sameNow,he]
   ·rw[h] at hd;injection hd with hd;subst hd
    cases k<;>try (cases he;done)
    cases x<;>try (cases he;done)
    obtain rfl:=hk.ko;generalize f 0=u at hx;cases hx;simp only[cm] at he;obtain⟨h0,he⟩:=ay he;simp at he h0;simp[Instr.sameNow,he,h0]
   ·rw[h] at hd;injection hd with hd;subst hd
    cases k<;>try (cases he;done)
    cases x<;>try (cases he;done)
    obtain⟨p,rfl,rfl⟩:=hk.ku;generalize f 0=u at hx;cases hx with
    | str q _ hq =>
     subst hq;simp[cm] at he;simp only[Instr.sameNow,aw2];rw[<- he]
     first|rfl|(show (p.data==q.data)=_;simp)
 ·obtain⟨C,rfl⟩:=Ao hk Ab
  refine⟨fun _=>?_,fun h=>by cases h⟩
  have hC:Row gh n w C kc:=by
   rcases wA hk vL with ⟨C',e,_,hr⟩|⟨_,h1⟩
   ·injection e with e;subst e;exact hr
   ·simp[Value.oneCell'] at h1
  have hD:Row gh n w (((List.range ks.length).map f).toArray) (r.take ks.length):=by
   refine⟨df,fun j u x hu hx=>?_⟩
   simp only[axE,List.getElem?_map,aw0] at hu;obtain⟨i,hi,rfl⟩:=hu;obtain⟨aP,hij⟩:=aw5.1 hi;simp at aP hij;subst hij;rw[List.getElem?_take,if_pos aP] at hx;exact .plain _ _ (hf _ x hx aP)
  have y3:cm ks kc (r.take ks.length)=some b:=by
   rw[<- he,<- qJ ks kc r ks.length (Nat.le_refl _),<- qJ ks kc (r.take ks.length) ks.length (Nat.le_refl _),azm,Nat.min_self]
  exact yg (AA 7) hK.flat hu (D:=9999) af (n:=n) hC hD y3
def yR{d:TypeDesc} : ∀ (l:List MapEntry) (es:List (List AV)) (i0:Nat) (o:Option Nat),l.length=es.length ->
  (∀ (i:Nat) (e:MapEntry) (r:List AV) (b:Bool),l[i]?=some e->es[i]?=some r->cm ks kc r=some b->Instr.sameNow d kv e.key=some b)->dC ks kc es=some o ->
  Instr.findNow d kv l i0=some (o.map fun i=>(i0+i,(l.getD i default).val))
 | [],[],i0,o,_,_,h=>by simp only[dC,aw2] at h;subst h;rfl
 | [],_ :: _,_,_,hl,_,_=>by simp at hl
 | _ :: _,[],_,_,hl,_,_=>by simp at hl
 | e :: l,r :: es,i0,o,hl,hq,h=>by
  simp only[dC,aw1] at h;obtain⟨b,hb,h⟩:=h;have h0:=hq 0 e r b rfl rfl hb;cases b with
  | true =>
   simp only[cond_true,aw2] at h;subst h;simp[Instr.findNow,h0]
  | false =>
   simp only[cond_false,aw0] at h;obtain⟨o',PF,rfl⟩:=h;have ih:=yR l es (i0+1) o' (cJ hl) (fun i e r b h1 h2 h3=>hq (i+1) e r b (cJ h1) (cJ h2) h3) PF
   simp only[Instr.findNow,h0,ih,ayZ];cases o' with
   | none=>rfl
   | some i=>simp[azr,azw 1 i]
def ud : ∀ (l:List MapEntry) (es:List (List AV)) (i0:Nat) (o:Option Nat),l.length=es.length ->
  (∀ (i:Nat) (e:MapEntry) (r:List AV) (b:Bool),l[i]?=some e->es[i]?=some r->cm ks kc r=some b->(Op.equal kt kv e.key).run P w=.ok b w)->dC ks kc es=some o ->
  (Instr.findAsking kt kv l i0).run P w=.ok (o.map fun i=>(i0+i,(l.getD i default).val)) w
 | [],[],i0,o,_,_,h=>by simp only[dC,aw2] at h;subst h;rfl
 | [],_ :: _,_,_,hl,_,_=>by simp at hl
 | _ :: _,[],_,_,hl,_,_=>by simp at hl
 | e :: l,r :: es,i0,o,hl,hq,h=>by
  simp only[dC,aw1] at h;obtain⟨b,hb,h⟩:=h;have h0:=hq 0 e r b rfl rfl hb;cases b with
  | true =>
   simp only[cond_true,aw2] at h;subst h;simp[Instr.findAsking,h0]
  | false =>
   simp only[cond_false,aw0] at h;obtain⟨o',PF,rfl⟩:=h;have ih:=ud l es (i0+1) o' (cJ hl) (fun i e r b h1 h2 h3=>hq (i+1) e r b (cJ h1) (cJ h2) h3) PF
   simp only[Instr.findAsking,Sem.run_bind,h0,Result.andThen_ok,ayg,azL,ih];cases o' with
   | none=>rfl
   | some i=>simp[azr,azw 1 i]
def Fx(hK:HZ P kt ks ka){n:Nat}(hk:VR gh n w kv k)(vL:k.cells=some kc)(hl:kc.length=ks.length)(Ab:ka=k.isAgg)
  {l:List MapEntry} {es:List (List AV)} (hlen:l.length=es.length) (bQ:∀ (i:Nat) (e:MapEntry) (r:List AV),l[i]?=some e->es[i]?=some r->OT gh.S w ks.length ka e.key r) {o:Option Nat} (hf:dC ks kc es=some o) :
  (Instr.findKey kt kv l).run P w=.ok (o.map fun i=>(i,(l.getD i default).val)) w:=by
 have hq:=fun (i:Nat) (e:MapEntry) (r:List AV) (b:Bool) (h1:l[i]?=some e) (h2:es[i]?=some r) (h3:cm ks kc r=some b)=>R9 hK hk vL hl Ab (bQ i e r h1 h2) h3
 rcases hK.cases with ⟨rfl,h⟩|⟨rfl,fs,hu⟩
 ·obtain⟨d,hd⟩:∃ d,P.underlying kt=some d:=by rcases h with ⟨h,_⟩|⟨_,h,_⟩|⟨h,_⟩<;>exact⟨_,h⟩
  have hn:=yR l es 0 o hlen (fun i e r b h1 h2 h3=>(hq i e r b h1 h2 h3).2 rfl d hd) hf
  simp only[axC] at hn;simp[Instr.findKey,run_underlying hd,hn]
 ·cases l with
  | nil =>
   cases es with
   | cons _ _=>simp at hlen
   | nil =>
    simp only[dC,aw2] at hf;subst hf;simp[Instr.findKey,run_underlying hu,Instr.findNow]
  | cons e l =>
   have hn:=ud (P:=P) (w:=w) (e :: l) es 0 o hlen (fun i e r b h1 h2 h3=>(hq i e r b h1 h2 h3).1 rfl) hf
   simp only[axC] at hn;simp[Instr.findKey,run_underlying hu,Instr.findNow,Instr.sameNow,hn]
end
end
section
section
variable {P:Program}{G:Nat->List AV}{base nt:Nat}{L:List Nat}{gh:Gh}{w w' : World}{a:Act}{s:AS}{H:aa}
def xY(w:World)(b:Nat)(E:Array MapEntry)(ck:Nat):World:={ w with heap:=w.heap.setIfInBounds b (Obj.map E ck) }
def L9{E:Array MapEntry}(hb:w.heap[b]?=some (.map E ck)):(xY w b E' ck').heap[b]?=some (.map E' ck'):=by
 have aP:b<w.heap.size:=(axb.1 hb).1;simp[xY,aP]
theorem pg{b':Nat}(h:b'≠b):(xY w b E' ck').heap[b']?=w.heap[b']?:=by
 simp[xY,ayk h]
def Fy{E:Array MapEntry}(hb:w.heap[b]?=some (.map E ck)):(setObj b (.map E' ck')).run P w=.ok () (xY w b E' ck'):=by
 simp[setObj,Sem.run,hb,xY]
theorem Lr(hW:aY G base H gh w){E:Array MapEntry}(hb:w.heap[b]?=some (.map E ck))(hS:∀ o,¬ gh.S b o)(n:Nat):Step (fun r=>r=gh.κ b) n gh w gh (xY w b E' ck'):=by
 have da:∀ b' o,gh.S b' o->b'≠b:=fun b' o h=>by rintro rfl;exact hS o h
 refine⟨fun _ _ h=>h,fun b' o h=>cell_of_heap (pg (da b' o h)),by simp[xY],rfl,rfl,rfl,fun b' iG hn=>?_,fun b' iG=>?_,fun _ _=>rfl,fun b' ty m hm=>?_,fun b' E1 c1 hs hm=>?_⟩
 ·have Gi:b'≠b:=by rintro rfl;exact hn rfl
  exact⟨.inl (pg Gi),rfl,fun _ h=>h⟩
 ·have:w.heap.size<=b':=by simpa [xY] using iG
  exact hW.cg b' this
 ·obtain⟨C,fr,h1,h2⟩:=hm
  have Gi:b'≠b:=by rintro rfl;rw[hb] at h1;cases h1
  exact⟨C,fr,by rw[pg Gi];exact h1,h2⟩
 ·grind [pg]
structure Mz (P:Program) (t kt et:TypeId) (ks:List CK) (ka va:Bool) (vz:Nat) (z:Value) (zero:List AV):Prop where
 ht:P.underlying t=some (.map kt et)
 key:HZ P kt ks ka
 vz1:va=false->vz=1
 hz:∃ i,P.info? et=some i/\i.zero=some z
 cells:dX z.cells.toList=some zero
 agg:Tu z=va
 len:zero.length=vz
def HZ.kz(h:HZ P kt ks ka)(hf:ka=false):ks.length=1:=by
 rcases h.cases with ⟨_,⟨_,h⟩|⟨_,_,h⟩|⟨_,h⟩⟩|⟨rfl,_⟩
 ·rw[h];rfl
 ·rw[h];rfl
 ·rw[h];rfl
 ·cases hf
def zC{t:TypeId}{m:List CK × Bool × Bool × List AV}(h:Sj P t=some m):∃ kt et z,Mz P t kt et m.1 m.2.1 m.2.2.1 m.2.2.2.length z m.2.2.2:=by
 unfold Sj at h;split at h
 ·rename_i kt et hu
  simp only[aw1] at h;obtain⟨ks,fU,ka,Ab,i,hi,z,hz,zero,hzc,h⟩:=h;obtain⟨h0,h⟩:=ay h;injection h with h
  subst h;refine⟨kt,et,z,hu,⟨fU,Ab⟩,fun hv=>?_,⟨i,hi,hz⟩,hzc,rfl,rfl⟩
  simp_all
 ·cases h
def Uy(hW:aY G base s.H gh w)(hF:FR L nt gh w a s){t:TypeId}(ho:o.op=.makeMap t none)(hd:∀ k,o.dst=some k->k<nt)(kz:Nat)(ka va:Bool) :
  ∃ v' a8 w',xr P a o w v' w'/\Out G base nt L gh w a s o.dst (.mref s.H.length) (s.iw ⟨s.H++[.map kz ka va []],s.H.length⟩) v' a8 w':=by
 have hp:=fy.alloc w (.map #[] 0);have hρ:(gh.bE w.heap.size s.H.length).ρ s.H.length=w.heap.size:=by simp[Gh.bE]
 have hv:VR (gh.bE w.heap.size s.H.length) (s.H++[bG.map kz ka va []]).length (w.alloc (.map #[] 0)) (.map (some w.heap.size)) (.mref s.H.length):=by
  have:=VR.mref (gh:=gh.bE w.heap.size s.H.length) (w:=w.alloc (.map #[] 0)) (n:=(s.H++[bG.map kz ka va []]).length) s.H.length ae
  rw[hρ] at this;exact this
 have hM:xq (gh.bE w.heap.size s.H.length) (s.H.length+1) (w.alloc (.map #[] 0)) w.heap.size s.H.length (.map kz ka va []):=by
  refine⟨⟨by simp[Gh.bE,Gh.alloc],?_,#[],0,fun _ _=>undef,hp.new,⟨rfl,rfl,fun i e h=>by simp at h,fun i e h=>by simp at h,fun i j e e' h=>by simp at h,fun i e r h=>by simp at h⟩,fun i j r x h=>by simp at h,fun i j r x h=>by simp at h⟩,rfl⟩
  rintro o (ho|⟨_,ho⟩)
  ·have:=hW.qj _ o ho;omega
  ·exact ho
 refine⟨_,_,_,.inl ?_,hW.Fi hp (fun _ _ h=>by cases h) hM,hF.put (gz hW hp) (fun i=>⟨id,id,fun _=>id⟩) ae o.dst hd (.dw hv),kY hW hp⟩
 simp[execOp,ho,Instr.makeMap,newObj,Sem.run]
theorem Wm{n:Nat}{m:Nat}(hm:cs.length=m)(h1:va=false->m=1)(h:∀ (j:Nat) (x:AV),cs[j]?=some x->VR gh n w (g j) x.drop/\(g j).oneCell'=true) :
  VR gh n w (uy va m g) (cond va (.agg (cs.map AV.drop)) ((cs.headD .undef).drop)):=by
 cases va with
 | true =>
  refine .agg _ _ (yd hm) (fun j v hv=>?_) (fun j v x hv hx=>?_)
  ·simp only[axE,List.getElem?_map,aw0] at hv
   obtain⟨i,hi,rfl⟩:=hv;obtain⟨aP,hij⟩:=aw5.1 hi;simp at aP hij
   simp_all
  ·grind
 | false =>
  have:=h1 rfl
  cases cs with
  | nil=>simp at hm;omega
  | cons x cs=>exact (h 0 x rfl).1
def QM{n:Nat}{t:TypeId}(hT:Mz P t kt et ks ka va vz z zero):VR gh n w z (cond va (.agg (zero.map AV.drop)) ((zero.headD .undef).drop)):=by
 obtain⟨hl,hv⟩:=lT (gh:=gh) (n:=n) (w:=w) hT.cells;have Mu:=hT.agg;cases z
 case agg C =>
  simp[Tu] at Mu;subst Mu;refine .agg C _ (by simpa [Value.cells] using hl) (fun j v o9=>?_) (fun j v x o9 hx=>?_)
  ·have aP:=(axb.1 o9).1
   have hz:zero[j]?=some zero[j]:=aw3 (by
    have:C.toList.length=zero.length:=by simpa [Value.cells] using hl
    simp at this;omega)
   exact (hv j v _ (by simpa [Value.cells] using o9) hz).2
  ·simp only[List.getElem?_map,aw0] at hx
   obtain⟨y,hy,rfl⟩:=hx;exact (hv j v y (by simpa [Value.cells] using o9) hy).1.dropped
 all_goals
  simp[Tu] at Mu;subst Mu;have h1:zero.length=1:=by rw[hT.len];exact hT.vz1 rfl
  obtain⟨x,rfl⟩:=ayl.1 h1;exact (hv 0 _ x rfl rfl).1.dropped
def DZ{n:Nat}{ok:Bool}(h:VR gh n w v (cond va (.agg (cs.map AV.drop)) ((cs.headD .undef).drop)))(found:Bool) :
  VR gh n w (if ok then .tuple #[v,.bool found] else v) (BI ok va cs found):=by
 unfold BI;simp only;cases ok with
 | false=>exact h
 | true =>
  refine .tuple _ _ rfl (fun j u x hu hx=>?_)
  match j with
  | 0=>injection hu with hu;injection hx with hx;subst hu hx;exact h
  | 1=>injection hu with hu;injection hx with hx;subst hu hx;exact .plain _ _ (.bool _)
  | j+2=>simp at hx
structure Rows (gh:Gh) (n:Nat) (w:World) (E:Array MapEntry) (kz:Nat) (ka va:Bool) (es:List (List AV)):Prop where
 size:E.size=es.length
 key:∀ (i:Nat) (e:MapEntry) (r:List AV),E[i]?=some e->es[i]?=some r->OT gh.S w kz ka e.key r
 val:∀ (i:Nat) (e:MapEntry) (r:List AV),E[i]?=some e->es[i]?=some r->kz<=r.length/\(va=false->r.length=kz+1)/\∃ g,e.val=uy va (r.length-kz) g/\∀ (j:Nat) (x:AV),(r.drop kz)[j]?=some x->VR gh n w (g j) x.drop/\(g j).oneCell'=true
def Fw{n kz:Nat}(h:PR gh.S w v (.iW kz ka va es)):∃ b E ck,v=.map (some b)/\w.heap[b]?=some (.map E ck)/\Rows gh n w E kz ka va es:=by
 cases h with
 | iW b _ _ _ _ E ck f hS hb hE dh =>
  refine⟨b,E,ck,rfl,hb,hE.size,fun i e r h1 h2=>⟨f i,(hE.row i e r h1 h2).2.2.2.1,fun j x hj _=>dh i j r x h2 hj⟩,fun i e r h1 h2=>?_⟩
  obtain⟨k1,_,k2,_,k3⟩:=hE.row i e r h1 h2;refine⟨k1,k2,fun j=>f i (kz+j),k3,fun j x hj=>?_⟩
  rw[ax9] at hj;have:=dh i (kz+j) r x h2 hj
  exact⟨VR.dropped (.plain _ _ this),this.fJ⟩
def Fv{n kz:Nat}(h:Gv gh n w b p q kz ka va es):∃ E ck,w.heap[b]?=some (.map E ck)/\Rows gh n w E kz ka va es:=by
 obtain⟨_,_,E,ck,f,hb,hE,h1,h2⟩:=h;refine⟨E,ck,hb,hE.size,fun i e r k1 k2=>⟨f i,(hE.row i e r k1 k2).2.2.2.1,fun j x hj hl=>h1 i j r x k2 hj hl⟩,fun i e r k1 k2=>?_⟩
 obtain⟨l1,_,l2,_,l3⟩:=hE.row i e r k1 k2;refine⟨l1,l2,fun j=>f i (kz+j),l3,fun j x hj=>?_⟩
 rw[ax9] at hj;obtain⟨m1,_,m2⟩:=h2 i (kz+j) r x k2 hj af;exact⟨m2.dropped,m1⟩
def Cs:∀ {ks:List CK} {kc:List AV} {es:List (List AV)} {i:Nat},dC ks kc es=some (some i)->i<es.length
 | ks,kc,[],i,h=>by simp[dC] at h
 | ks,kc,r :: es,i,h=>by
  simp only[dC,aw1] at h;obtain⟨b,_,h⟩:=h;cases b with
  | true=>simp at h;subst h;simp
  | false =>
   simp only[cond_false,aw0] at h;obtain⟨o,ho,h⟩:=h;cases o with
   | none=>simp at h
   | some j=>simp at h;subst h;have:=Cs ho;simp;omega
theorem L4{n:Nat}{t:TypeId}(hT:Mz P t kt et ks ka va vz z zero)(hk:VR gh n w kv k)(vL:k.cells=some kc)(hl:kc.length=ks.length)(Ab:ka=k.isAgg)
  {b:Nat} {E:Array MapEntry} {ck:Nat} {es:List (List AV)} (hb:w.heap[b]?=some (.map E ck)) (hR:Rows gh n w E ks.length ka va es) {o:Option Nat} (hf:dC ks kc es=some o) (ok:Bool) :
  ∃ v,(Instr.lookup t (.map (some b)) kv ok).run P w=.ok v w/\VR gh n w v (qc ok va zero ks.length es o):=by
 have yo:=A2 hT.key hk vL hl Ab E.isEmpty;have S4:=Fx hT.key hk vL hl Ab (l:=E.toList) (cJ hR.size) (fun i e r h1 h2=>hR.key i e r (cJ h1) h2) hf
 obtain⟨i0,Ye,hz0⟩:=hT.hz;have hzr:(zeroValue et).run P w=.ok z w:=by simp[zeroValue,typeInfo,Ye,hz0]
 cases o with
 | none =>
  refine⟨if ok then .tuple #[z,.bool false] else z,?_,DZ (QM hT) false⟩
  simp[Instr.lookup,run_underlying hT.ht,getObj,Sem.run,hb];simp[yo,S4,hzr]
 | some i =>
  have hi:=Cs hf;have hiE:i<E.size:=by rw[hR.size];exact hi
  have hE:E[i]?=some E[i]:=axj hiE;have he:es[i]?=some es[i]:=aw3 hi;obtain⟨k1,k2,g,k3,k4⟩:=hR.val i _ _ hE he;have IF:es.getD i []=es[i]:=by simp[List.getD,he]
  have hed:E.toList.getD i default=E[i]:=by
   grind
  have hv:=Wm (gh:=gh) (n:=n) (w:=w) (va:=va) (m:=es[i].length-ks.length) (g:=g) (cs:=es[i].drop ks.length) ae (fun hva=>by have:=k2 hva;omega) k4
  rw[<- k3] at hv;refine⟨if ok then .tuple #[E[i].val,.bool true] else E[i].val,?_,by simp only[qc];rw[IF];exact DZ hv true⟩
  simp only[axa,hed] at S4;simp[Instr.lookup,run_underlying hT.ht,getObj,Sem.run,hb];simp[yo,S4]
def Jl{n:Nat}{t:TypeId}(hT:Mz P t kt et ks ka va vz z zero)(hk:VR gh n w kv k)(vL:k.cells=some kc)(hl:kc.length=ks.length)(Ab:ka=k.isAgg)(ok:Bool) :
  ∃ v,(Instr.lookup t (.map none) kv ok).run P w=.ok v w/\VR gh n w v (BI ok va zero false):=by
 have yo:=A2 hT.key hk vL hl Ab true;have S4:=Fx hT.key hk vL hl Ab (l:=[]) (es:=[]) rfl (fun i e r h1 h2=>by simp at h1) (o:=none) rfl
 obtain⟨i0,Ye,hz0⟩:=hT.hz;have hzr:(zeroValue et).run P w=.ok z w:=by simp[zeroValue,typeInfo,Ye,hz0]
 refine⟨if ok then .tuple #[z,.bool false] else z,?_,DZ (QM hT) false⟩
 simp[Instr.lookup,run_underlying hT.ht];simp[yo,S4,hzr]
end
end
section
section
variable {P:Program}{G:Nat->List AV}{base nt:Nat}{L:List Nat}{gh:Gh}{w w' : World}{a:Act}{s:AS}{H:aa}
theorem find_spec{a:List UInt8} : ∀ (es:List (List AV)),(∀ r,r∈es->∃ b,tR r=some b)->∃ o,dC [.s] [.str a] es=some o /\
  ((o=none/\∀ r,r∈es->tR r≠some a)\/∃ i r,o=some i/\es[i]?=some r/\tR r=some a)
 | [],_=>⟨none,rfl,.inl ⟨rfl,fun r h=>by cases h⟩⟩
 | r :: es,h=>by
  obtain⟨b,hb⟩:=h r (List.mem_cons_self ..);obtain⟨q,rfl⟩:∃ q,r=.str b :: q:=by
   unfold tR at hb
   grind
  obtain⟨o,ho,hs⟩:=find_spec (a:=a) es (fun r hr=>h r (ax8 _ hr))
  by_cases hab:a=b
  ·subst hab
   exact⟨some 0,by simp[dC,cm],.inr ⟨0,_,rfl,rfl,rfl⟩⟩
  ·have da:(a==b)=false:=cJ hab
   refine⟨o.map (· + 1),by simp[dC,cm,da,ho],?_⟩
   grind
theorem apart_spec:∀ {es:List (List AV)},uJ es=true->(∀ r,r∈es->∃ b,tR r=some b)/\∀ r r',r∈es->r'∈es->tR r=tR r'->r=r'
 | [],_=>⟨fun r h=>(by cases h),fun r r' h=>(by cases h)⟩
 | q :: es,h=>by
  simp only[uJ,aw4] at h;obtain⟨h1,h2⟩:=h;obtain⟨i1,i2⟩:=apart_spec h2
  grind
theorem Rt{a:List UInt8}{uS:List (List AV)}(hp:uS.Perm es)(ha:uJ es=true){o:Option Nat}(hf:dC [.s] [.str a] es=some o)(ok va:Bool)(zero:List AV)(kz:Nat) :
  ∃ o',dC [.s] [.str a] uS=some o'/\qc ok va zero kz uS o'=qc ok va zero kz es o:=by
 obtain⟨h1,h2⟩:=apart_spec ha;obtain⟨o1,e1,s1⟩:=find_spec (a:=a) es h1;rw[hf] at e1;injection e1 with e1
 subst e1;obtain⟨o',e2,s2⟩:=find_spec (a:=a) uS (fun r hr=>h1 r (hp.mem_iff.1 hr))
 refine⟨o',e2,?_⟩
 rcases s1 with ⟨rfl,s1⟩|⟨i,r,rfl,k1,k2⟩
 ·rcases s2 with ⟨rfl,_⟩|⟨i',r',rfl,k1',k2'⟩
  ·rfl
  ·grind
 ·rcases s2 with ⟨rfl,s2⟩|⟨i',r',rfl,k1',k2'⟩
  ·grind
  ·have:r'=r:=h2 r' r (hp.mem_iff.1 (axc k1')) (axc k1) (k2'.trans k2.symm)
   subst this;simp only[qc,List.getD,k1,k1']
theorem Y9(hW:aY G base s.H gh w)(hF:FR L nt gh w a s){t:TypeId}(hT:Mz P t kt et ks ka va vz zv zero){i:Operand}{yi:aI}{ok:Bool}{z:AV}
  (ho:o.op=.lookup t x i ok) (hc:au nt x=some y) (hi:au nt i=some yi) (he:xF s ok ks.length ka va ks zero (y.addr G s.T) (yi.eval G s.T)=some (z,s')) :
  s'=none/\∃ v,(execOp a.eval o).run P w=.ok (.value v) w/\pn gh s.H.length nt w s.T s.gen (gv a) v z:=by
 simp only[xF,oX] at he;obtain⟨kc,vL,h0,he⟩:=he;simp only[aw4,im,aw',axL] at h0;obtain⟨hl,Ab⟩:=h0;have KY:aO (yi.eval G s.T)=true:=by rw[<- kP];exact jQ vL
 have hk:=cO hW hF hi rfl KY;have fin:∀ {M:Value} {zz:AV},a.eval x=M->(∃ v,(Instr.lookup t M (a.eval i) ok).run P w=.ok v w/\VR gh s.H.length w v zz)->∃ v,(execOp a.eval o).run P w=.ok (.value v) w/\pn gh s.H.length nt w s.T s.gen (gv a) v zz:=by
  rintro M zz rfl ⟨v,h1,h2⟩
  exact⟨v,by simp[execOp,ho,h1],.dw h2⟩
 have hm:=arg_val hW hF hc;split at he
 ·rename_i hM
  simp only[aw2,aw6] at he;obtain⟨rfl,rfl⟩:=he;rw[hM] at hm;refine⟨rfl,fin (M:=.map none) ?_ (Jl hT hk vL hl Ab ok)⟩;generalize a.eval x=V at hm;cases (hm:VR gh s.H.length w V .ke) with
  | plain _ _ h=>cases h;rfl
 ·rename_i qw qv qy es hM
  obtain⟨h1,iX⟩:=ay he;clear he;simp only[aw0,aw6] at iX;obtain⟨r,hf,rfl,rfl⟩:=iX;simp only[aw4,im,aw',axL] at h1;obtain⟨⟨⟨⟨rfl,rfl⟩,rfl⟩,wD⟩,Gj⟩:=h1;obtain⟨str,rfl,rfl⟩:∃ str,ks=[.s]/\kc=[.str str]:=by
   unfold VZ at Gj
   grind
  refine⟨rfl,?_⟩;rw[hM] at hm;have hp:PR gh.S w (a.eval x) (.mA [CK.s].length ka va es):=by
   generalize a.eval x=V at hm;cases (hm:VR gh s.H.length w V (.mA [CK.s].length ka va es)) with
   | plain _ _ h=>exact h
  generalize hV:a.eval x=V at hp;cases hp with
  | mA b _ _ _ _ uS E ck f hS hb hI hpm dh =>
   have hE:=hI.size;have bQ:=hI.row;obtain⟨o',hf',Yh⟩:=Rt hpm wD hf ok va zero [CK.s].length;rw[<- Yh];have hR:Rows gh s.H.length w E [CK.s].length ka va uS:=by
    refine⟨hE,fun i e r h1 h2=>⟨f i,(bQ i e r h1 h2).2.2.2.1,fun j x hj _=>dh i j r x h2 hj⟩,fun i e r h1 h2=>?_⟩
    obtain⟨k1,_,k2,_,k3⟩:=bQ i e r h1 h2;refine⟨k1,k2,_,k3,fun j x hj=>?_⟩
    rw[ax9] at hj;have:=dh i _ r x h2 hj
    exact⟨VR.dropped (.plain _ _ this),this.fJ⟩
   exact fin hV (L4 hT hk vL hl Ab hb hR hf' ok)
 ·simp only[aw1,aw0,aw6] at he
  obtain⟨es,dj,r,hf,rfl,rfl⟩:=he;refine⟨rfl,?_⟩;have key:∃ b E ck,a.eval x=.map (some b)/\w.heap[b]?=some (.map E ck)/\Rows gh s.H.length w E ks.length ka va es:=by
   generalize hY:y.addr G s.T=Y at hm dj;have hp:∀ qw qv qy uS,Y=.iW qw qv qy uS->PR gh.S w (a.eval x) (.iW qw qv qy uS):=by
    rintro _ _ _ _ rfl
    generalize a.eval x=V at hm;cases (hm:VR gh s.H.length w V (.iW _ _ _ _)) with
    | plain _ _ h=>exact h
   unfold zD at dj;split at dj
   ·obtain⟨h1,dj⟩:=ay dj
    injection dj with dj
    subst dj;simp only[aw4,im,aw',axL] at h1;obtain⟨⟨rfl,rfl⟩,rfl⟩:=h1;exact Fw (hp _ _ _ _ rfl)
   ·obtain⟨aP,ug⟩:=VR.p8 (hm:VR gh s.H.length w (a.eval x) (.mref _))
    split at dj
    ·rename_i hH
     obtain⟨h1,dj⟩:=ay dj;injection dj with dj
     subst dj;simp only[aw4,im,aw',axL] at h1;obtain⟨⟨rfl,rfl⟩,rfl⟩:=h1;obtain⟨E,ck,hb,hR⟩:=Fv (hW.more _ _ hH).1;exact⟨_,E,ck,ug,hb,hR⟩
    ·rename_i hH
     obtain⟨h1,dj⟩:=ay dj;injection dj with dj
     subst dj;simp only[aw4,im,aw',axL] at h1;obtain⟨⟨rfl,rfl⟩,rfl⟩:=h1;obtain⟨b,E,ck,hv,hb,hR⟩:=Fw (n:=s.H.length) (hW.more _ _ hH:PR gh.S w _ _);exact⟨b,E,ck,ug.trans hv,hb,hR⟩
    ·cases dj
   ·cases dj
  obtain⟨b,E,ck,ug,hb,hR⟩:=key;exact fin ug (L4 hT hk vL hl Ab hb hR hf ok)
def find_eq:∀ {ks:List CK} {kc:List AV} {es:List (List AV)} {i:Nat} {r:List AV},dC ks kc es=some (some i)->es[i]?=some r->cm ks kc r=some true
 | ks,kc,[],i,r,h,_=>by simp[dC] at h
 | ks,kc,q :: es,i,r,h,hr=>by
  simp only[dC,aw1] at h;obtain⟨b,hb,h⟩:=h;cases b with
  | true=>simp at h;subst h;simp at hr;subst hr;exact hb
  | false =>
   simp only[cond_false,aw0] at h;obtain⟨o,ho,h⟩:=h;cases o with
   | none=>simp at h
   | some j=>simp at h;subst h;exact find_eq ho (cJ hr)
theorem GD{n m:Nat}{c:CK}{u:Value}{x y:AV}(hu:VR gh n w u x)(hv:PR gh.S w v y)(h:cm [c] [x] [y]=some true):Instr.sameBits m v u=true:=by
 cases c<;>cases x<;>try (cases h;done)
 all_goals (cases y<;>try (cases h;done))
 ·obtain rfl:=hu.lZ
  cases hv;simp[cm] at h;cases m<;>simp[Instr.sameBits,h]
 ·obtain rfl:=hu.ko
  cases hv;simp only[cm] at h;obtain⟨h0,h⟩:=ay h;simp at h h0;cases m<;>simp[Instr.sameBits,h,h0]
 ·obtain⟨p,rfl,rfl⟩:=hu.ku
  cases hv with
  | str q _ hq =>
   simp[cm] at h;have:q=p:=by
    cases p;cases q
    congr 1
    exact ay0 (by rw[hq];simp at h ⊢;rw[h])
   subst this;have hb:(q==q)=true:=show (q.data==q.data)=true by simp
   cases m<;>simp[Instr.sameBits,hb]
theorem GX:∀ {ks:List CK} {X Y:List AV},cm ks X Y=some true->∀ (j:Nat) (c:CK),ks[j]?=some c->∃ x y,X[j]?=some x/\Y[j]?=some y/\cm [c] [x] [y]=some true
 | [],X,Y,h,j,c,hj=>by simp at hj
 | c0 :: ks,X,Y,h,j,c,hj=>by
  have one:∀ (x y:AV) (X' Y' : List AV) (e:Bool),X=x :: X'->Y=y :: Y'->cm [c0] [x] [y]=some e->(cm ks X' Y').map (e&&·)=some true->∃ x y,X[j]?=some x/\Y[j]?=some y/\cm [c] [x] [y]=some true:=by
   rintro x y X' Y' e rfl rfl h1 h2
   simp only[aw0,aw4] at h2;obtain⟨b,hb,rfl,rfl⟩:=h2;cases j with
   | zero=>simp at hj;subst hj;exact⟨x,y,rfl,rfl,h1⟩
   | succ j =>
    obtain⟨x',y',k1,k2,k3⟩:=GX hb j c (cJ hj)
    grind
  cases c0<;>cases X<;>try (cases h;done)
  all_goals (rename_i x X';cases x<;>try (cases h;done))
  all_goals (cases Y<;>try (cases h;done))
  all_goals (rename_i y Y';cases y<;>try (cases h;done))
  ·exact one _ _ _ _ _ rfl rfl (by simp[cm]) h
  ·simp only[cm] at h
   obtain⟨h0,h⟩:=ay h;exact one _ _ _ _ _ rfl rfl (by simp only[cm,h0,cond_true];simp) h
  ·exact one _ _ _ _ _ rfl rfl (by simp[cm]) h
theorem TQ(hK:HZ P kt ks ka){n:Nat}(hk:VR gh n w kv k)(vL:k.cells=some kc)(hl:kc.length=ks.length)(Ab:ka=k.isAgg)
  {v:Value} {r:List AV} (hv:OT gh.S w ks.length ka v r) (he:cm ks kc r=some true):Instr.sameBits 10000 v kv=true:=by
 obtain⟨f,rfl,hf⟩:=hv;have PB:=GX he;cases ka with
 | false =>
  have h1:=hK.kz rfl;obtain⟨c,rfl⟩:=ayl.1 h1;have afv:kc=[k]:=by
   cases k<;>first|(cases Ab;done)|(injection vL with vL;exact vL.symm)|(cases vL;done)
  subst afv;obtain⟨x,y,k1,k2,k3⟩:=PB 0 c rfl;simp at k1;subst k1;exact GD hk (hf 0 y k2 ae) k3
 | true =>
  obtain⟨C,rfl⟩:=Ao hk Ab;have hC:Row gh n w C kc:=by
   rcases wA hk vL with ⟨C',e,_,hr⟩|⟨_,h1⟩
   ·grind
   ·simp[Value.oneCell'] at h1
  show Instr.sameBits (9999+1) (.agg ((List.range ks.length).map f).toArray) (.agg C)=true
  simp only[Instr.sameBits,aw4,axL,aw8];refine⟨by simp[hC.1,hl],fun p hp=>?_⟩
  obtain⟨j,hj⟩:=axu hp;rw[ay7] at hj;obtain⟨h1,h2⟩:=hj;simp only[List.getElem?_map,aw0] at h1;obtain⟨i,hi,S4⟩:=h1;obtain⟨aP,hij⟩:=aw5.1 hi;simp at aP hij;subst hij;have hc:ks[j]?=some ks[j]:=aw3 aP;obtain⟨x,y,k1,k2,k3⟩:=PB j _ hc;have hu:=hC.2 j p.2 x (cJ h2) k1
  grind [GD]
def HV{n:Nat}{x:AV}(h:VR gh n w v x)(hc:x.cells=some cs):v=uy x.isAgg cs.length (fun j=>v.cells.getD j undef)/\∀ (j:Nat) (y:AV),cs[j]?=some y->VR gh n w (v.cells.getD j undef) y/\(v.cells.getD j undef).oneCell'=true:=by
 have hr:=vF h hc;refine⟨?_,fun j y hj=>?_⟩
 ·rcases wA h hc with ⟨C,rfl,rfl,bQ⟩|⟨rfl,gV⟩
  ·simp only[uy,AV.isAgg,cond_true,Value.cells]
   congr 1
   refine Array.ext (by simp[bQ.1]) (fun i h1 h2=>by simp[h1])
  ·have Mu:x.isAgg=false:=by
    cases x<;>first|rfl|skip
    obtain⟨C,rfl,_⟩:=h.mo;simp[Value.oneCell'] at gV
   have hv:v.cells=#[v]:=by cases v<;>first|rfl|(simp[Value.oneCell'] at gV)
   simp[uy,Mu,hv]
 ·have aP:j<v.cells.size:=by rw[hr.1];exact (aw5.1 hj).1
  have hv:v.cells[j]?=some v.cells[j]:=axj aP;obtain⟨h1,h2⟩:=hr.2 j _ y hv hj
  simp_all
end
end
section
section
variable {P:Program}{G:Nat->List AV}{base nt:Nat}{L:List Nat}{gh:Gh}{w w' : World}{a:Act}{s:AS}{H:aa}
theorem vT{agg:Bool}{n:Nat}{f:Nat->Value}(h:∀ j,j<n->f j=g j)(hn:agg=false->0<n):uy agg n f=uy agg n g:=by
 cases agg with
 | true =>
  simp only[uy,cond_true]
  simp_all
 | false=>exact h 0 (hn rfl)
def pf(E:Array MapEntry)(ck:Nat)(o:Option Nat)(kv vv:Value):Array MapEntry × Nat :=
 match o with
 | none=>(E.push { key:=kv,val:=vv,born:=ck },ck+1)
 | some i=>(E.modify i fun e=>{ e with key:=kv,val:=vv },ck)
def Xn{n:Nat}{t:TypeId}(hT:Mz P t kt et ks ka va vz zv zero){vv:Value}(hk:VR gh n w kv k)(vL:k.cells=some kc)(hl:kc.length=ks.length)(Ab:ka=k.isAgg)
  {b:Nat} {E:Array MapEntry} {ck:Nat} {es:List (List AV)} (hb:w.heap[b]?=some (.map E ck)) (hR:Rows gh n w E ks.length ka va es) {o:Option Nat} (hf:dC ks kc es=some o) :
  (Instr.mapUpdate t (.map (some b)) kv vv).run P w=.ok () (xY w b (pf E ck o kv vv).1 (pf E ck o kv vv).2):=by
 have yo:=A2 hT.key hk vL hl Ab false;have S4:=Fx hT.key hk vL hl Ab (l:=E.toList) (cJ hR.size) (fun i e r h1 h2=>hR.key i e r (cJ h1) h2) hf
 cases o with
 | none =>
  have hs:=Fy (P:=P) (w:=w) (E':=E.push { key:=kv,val:=vv,born:=ck }) (ck':=ck+1) hb;simp[Instr.mapUpdate,run_underlying hT.ht,getObj,Sem.run,hb];simp[yo,S4,pf];exact hs
 | some i =>
  have hi:=Cs hf;have hiE:i<E.size:=by rw[hR.size];exact hi
  have hE:E[i]?=some E[i]:=axj hiE;have he:es[i]?=some es[i]:=aw3 hi;have akk:=TQ hT.key hk vL hl Ab (hR.key i _ _ hE he) (find_eq hf he);have hs:=Fy (P:=P) (w:=w) (E':=E.modify i fun e=>{ e with key:=kv,val:=vv }) (ck':=ck) hb
  simp[Instr.mapUpdate,run_underlying hT.ht,getObj,Sem.run,hb];simp only[axa] at S4;simp[yo,S4,pf,hiE,Instr.keyThatStays,akk];exact hs
theorem ahY{n kz:Nat}{E:Array MapEntry}{f:Nat->Nat->Value}(hW:aY G base H gh w)(hκ:gh.κ b=.hb l)(hS:∀ o,¬ gh.S b o)(hb:w.heap[b]?=some (.map E ck))(hE:JX E ck kz ka va es f)
  (h1:∀ (i j:Nat) (r:List AV) (x:AV),es[i]?=some r->r[j]?=some x->j<kz->PR gh.S w (f i j) x)
  (h2:∀ (i j:Nat) (r:List AV) (x:AV),es[i]?=some r->r[j]?=some x->kz<=j->(f i j).oneCell'=true/\(va=true->VR gh n w (f i j) x)/\CR gh n w (.hs l i) (f i j) x)
  {kc vc:List AV} {fk fv:Nat->Value} (hkz:kc.length=kz) (Aa:ka=false->kz=1) (ZU:va=false->vc.length=1) (Nv:∀ (j:Nat) (x:AV),kc[j]?=some x->PR gh.S w (fk j) x)
  {o:Option Nat} (ho:∀ i,o=some i->i<es.length) (hvv:∀ (j:Nat) (x:AV),vc[j]?=some x->(fv j).oneCell'=true/\(va=true->VR gh n w (fv j) x)/\CR gh n w (.hs l (o.getD es.length)) (fv j) x) :
  Gv gh n (xY w b (pf E ck o (uy ka kz fk) (uy va vc.length fv)).1 (pf E ck o (uy ka kz fk) (uy va vc.length fv)).2) b (.hb l) (fun i=>.hs l i) kz ka va (wN es o (kc++vc)):=by
 have st:=Lr (E':=(pf E ck o (uy ka kz fk) (uy va vc.length fv)).1) (ck':=(pf E ck o (uy ka kz fk) (uy va vc.length fv)).2) hW hb hS n;rw[hκ] at st
 let idx:=o.getD es.length
 let f' : Nat->Nat->Value:=fun i j=>if i=idx then (if j<kz then fk j else fv (j-kz)) else f i j
 have bQ:∀ i r,(wN es o (kc++vc))[i]?=some r->(i=idx/\r=kc++vc)\/(i≠idx/\es[i]?=some r):=by
  intro i r hr;cases o with
  | none =>
   simp only[wN] at hr
   grind
  | some i0 =>
   simp only[wN] at hr
   grind
 have ZK:kz<=(kc++vc).length/\(ka=false->kz=1)/\(va=false->(kc++vc).length=kz+1)/\uy ka kz fk=uy ka kz (f' idx)/\uy va vc.length fv=uy va ((kc++vc).length-kz) (fun j=>f' idx (kz+j)):=by
  grind [vT]
 refine⟨hκ,hS,_,_,f',L9 hb,?_,fun i j r x hi hj hl=>?_,fun i j r x hi hj hl=>?_⟩
 ·cases o with
  | none =>
   refine⟨by simp[pf,wN,hE.size],by simp[pf,hE.clk],fun i e he=>?_,fun i e he=>?_,fun i j e e' he y3 vK=>?_,fun i e r he hr=>?_⟩
   ·simp only[pf] at he
    rw[ayG] at he;split at he
    ·rename_i Ye;injection he with he;subst he;rw[Ye];exact hE.clk
    ·exact hE.at' i e he
   ·simp only[pf] at he ⊢
    rw[ayG] at he;split at he
    ·grind
    ·have:=hE.born i e he;omega
   ·simp only[pf] at he y3
    rw[ayG] at he y3;split at he<;>split at y3
    ·omega
    ·injection he with he;subst he
     have:=hE.born j e' y3
     simp only at vK;omega
    ·injection y3 with y3;subst y3
     have:=hE.born i e he
     simp only at vK;omega
    ·exact hE.apart i j e e' he y3 vK
   ·simp only[pf] at he
    rw[ayG] at he
    rcases bQ i r hr with ⟨hi,rfl⟩|⟨hi,hr⟩
    ·have j6:i=es.length:=hi
     rw[if_pos (by rw[hE.size];exact j6)] at he
     grind
    ·have j6:i≠es.length:=hi
     rw[if_neg (by rw[hE.size];exact j6)] at he
     obtain⟨k1,k2,k3,k4,k5⟩:=hE.row i e r he hr
     grind [vT]
  | some i0 =>
   have AF:∀ {i:Nat} {e:MapEntry},(E.modify i0 fun e=>{ e with key:=uy ka kz fk,val:=uy va vc.length fv })[i]?=some e->∃ e0,E[i]?=some e0/\e=if i=i0 then { e0 with key:=uy ka kz fk,val:=uy va vc.length fv } else e0:=by
    intro i e he;rw[Array.getElem?_modify] at he;split at he
    ·rename_i hii
     simp only[aw0] at he;obtain⟨e0,h0,rfl⟩:=he;exact⟨e0,h0,by rw[if_pos hii.symm]⟩
    ·rename_i hii
     exact⟨e,he,by rw[if_neg (ayk hii)]⟩
   have Px:∀ {i:Nat} {e e0:MapEntry},(e=if i=i0 then { e0 with key:=uy ka kz fk,val:=uy va vc.length fv } else e0)->e.born=e0.born:=by
    intro i e e0 h;rw[h];split<;>rfl
   refine⟨by simp[pf,wN,hE.size],by simp[pf,hE.clk],fun i e he=>?_,fun i e he=>?_,fun i j e e' he y3 vK=>?_,fun i e r he hr=>?_⟩
   ·obtain⟨e0,h0,h⟩:=AF he
    rw[Px h];exact hE.at' i e0 h0
   ·obtain⟨e0,h0,h⟩:=AF he
    rw[Px h];exact hE.born i e0 h0
   ·obtain⟨e0,h0,h⟩:=AF he
    obtain⟨e0',h0',h'⟩:=AF y3;rw[Px h,Px h'] at vK;exact hE.apart i j e0 e0' h0 h0' vK
   ·obtain⟨e0,h0,h⟩:=AF he
    rcases bQ i r hr with ⟨hi,rfl⟩|⟨hi,hr⟩
    ·have j6:i=i0:=hi
     rw[if_pos j6] at h;subst h;subst hi;exact ZK
    ·have j6:i≠i0:=hi
     rw[if_neg j6] at h;subst h;obtain⟨k1,k2,k3,k4,k5⟩:=hE.row i e r h0 hr;refine⟨k1,k2,k3,?_,?_⟩
     ·rw[k4];refine vT (fun j _=>?_) (fun h=>by rw[k2 h];omega)
      simp only[f',if_neg hi]
     ·rw[k5];refine vT (fun j _=>?_) (fun h=>by rw[k3 h];omega)
      simp only[f',if_neg hi]
 ·rcases bQ i r hi with ⟨rfl,rfl⟩|⟨da,hr⟩
  ·rw[axd af] at hj
   simp only[f',if_pos rfl,if_pos hl];exact (Nv j x hj).mono st.S st.cell st.mp
  ·simp only[f',if_neg da]
   exact (h1 i j r x hr hj hl).mono st.S st.cell st.mp
 ·rcases bQ i r hi with ⟨rfl,rfl⟩|⟨da,hr⟩
  ·rw[List.getElem?_append_right af,hkz] at hj
   have e:¬ j<kz:=af;simp only[f',if_pos rfl,if_neg e];obtain⟨k1,k2,k3⟩:=hvv (j-kz) x hj;exact⟨k1,fun h=>(k2 h).mono st (Nat.le_refl _),k3.mono st (Nat.le_refl _) ae⟩
  ·simp only[f',if_neg da]
   obtain⟨k1,k2,k3⟩:=h2 i j r x hr hj hl;exact⟨k1,fun h=>(k2 h).mono st (Nat.le_refl _),k3.mono st (Nat.le_refl _) ae⟩
def uW{x:AV}(h:x.plain=true):aV l x=true:=by
 cases x<;>first|exact h|(simp[AV.plain] at h;done)|(simp only[aV,AV.drop];exact h)|(simp[aV,AV.drop,AV.plain] at h ⊢;done)|skip
 rename_i f fs cs
 cases fs<;>cases cs<;>first|rfl|(simp[AV.plain] at h)
theorem Pf(hW:aY G base s.H gh w)(hF:FR L nt gh w a s){t:TypeId}(hT:Mz P t kt et ks ka va vz zv zero){xm xk:Operand}{ym yk:aI}{s':AS}
  (ho:o.op=.mapUpdate t xm xk xv\/o.op=.insert t xm xk xv) (hcm:au nt xm=some ym) (hck:au nt xk=some yk) (hcv:au nt xv=some yv)
  (he:tu s ks.length ka va vz ks (ym.addr G s.T) (yk.eval G s.T) (yv.eval G s.T)=some s') (hd:∀ k,o.dst=some k->k<nt) :
  ∃ v' a8 w',xr P a o w v' w'/\Out G base nt L gh w a s o.dst .undef (s'.cN yv) v' a8 w':=by
 have hm:=arg_val hW hF hcm;unfold tu at he;generalize hY:ym.addr G s.T=Y at hm he;cases Y<;>simp only at he<;>try (cases he;done)
 rename_i l;obtain⟨aP,ug⟩:=VR.p8 (hm:VR gh s.H.length w (a.eval xm) (.mref l));split at he
 ·rename_i qw qv qy es hH
  simp only[aw1] at he;obtain⟨kc,vL,vc,NJ,lJ⟩:=he;obtain⟨h0,iX⟩:=ay lJ;clear lJ;simp only[aw4,im,aw',axL] at h0;obtain⟨⟨⟨⟨⟨⟨⟨⟨hl,Yj⟩,rfl⟩,rfl⟩,rfl⟩,Ab⟩,hva⟩,adf⟩,acV⟩:=h0;simp only[aw0] at iX;obtain⟨oi,hf,rfl⟩:=iX;have apo:aO (yk.eval G s.T)=true:=by rw[<- kP];exact jQ vL
  have apq:aO (yv.eval G s.T)=true:=jQ NJ;have zZ:=cO hW hF hck rfl apo;obtain⟨oK,uf,BY,Iz,XH,oT⟩:=rE hW hF hcv apq (.hs l (oi.getD es.length)) ae;have hρ:oK.ρ l=gh.ρ l:=XH.ρ l aP;have hk:=zZ.mono XH (Nat.le_refl _);obtain⟨⟨hκ,hS,E,ck,f,hb,hE,h1,h2⟩,dQ⟩:=uf.more l _ hH;obtain⟨E2,YS,kG,hR⟩:=Fv (uf.more l _ hH).1;have hEE:E2=E/\YS=ck:=by
   grind
  obtain⟨rfl,rfl⟩:=hEE;obtain⟨Yf,ZF⟩:=HV hk vL;have jn:∃ fv:Nat->Value,a.eval xv=uy va vc.length fv/\∀ (j:Nat) (x:AV),(cond va (vc.map AV.drop) vc)[j]?=some x->(fv j).oneCell'=true/\(va=true->VR oK s.H.length w (fv j) x)/\CR oK s.H.length w (.hs l (oi.getD es.length)) (fv j) x:=by
   cases ak9:va with
   | true =>
    have Mu:(yv.eval G s.T).isAgg=true:=by rw[<- hva,ak9]
    have VA:VR oK s.H.length w (a.eval xv) (yv.eval G s.T):=by
     rcases oT with h|⟨e,h,_⟩
     ·exact h
     ·rw[h] at Mu;cases Mu
    obtain⟨ZU,S9⟩:=HV VA NJ;rw[Mu] at ZU;refine⟨_,ZU,fun j x hj=>?_⟩
    simp only[cond_true,List.getElem?_map,aw0] at hj;obtain⟨y,hy,rfl⟩:=hj;obtain⟨m1,m2⟩:=S9 j y hy;exact⟨m2,fun _=>m1.dropped,.inl m1.dropped⟩
   | false =>
    have Mu:(yv.eval G s.T).isAgg=false:=by rw[<- hva,ak9]
    have aqu:vc=[yv.eval G s.T]:=by
     generalize yv.eval G s.T=V at NJ Mu
     cases V<;>first|(cases Mu;done)|(injection NJ with NJ;exact NJ.symm)|(cases NJ;done)
    refine⟨fun _=>a.eval xv,by simp[uy],fun j x hj=>?_⟩
    rw[aqu] at hj;cases j with
    | succ j=>simp at hj
    | zero =>
     simp at hj;subst hj;refine⟨?_,(fun h=>by cases h),oT⟩
     rcases oT with h|⟨e,_,hp,_⟩
     ·exact h.fJ (fun cs e=>by rw[e] at Mu;cases Mu) (fun cs e=>by rw[e] at NJ;cases NJ)
     ·exact hp.fJ
  obtain⟨fv,hvv,ZV⟩:=jn;have G4:(cond va (vc.map AV.drop) vc).length=vc.length:=by cases va<;>simp
  have aqw:va=false->(cond va (vc.map AV.drop) vc).length=1:=fun h=>by rw[G4,Yj];exact hT.vz1 h
  have dI:=Xn (vv:=a.eval xv) hT hk vL hl Ab hb hR hf;have apF:a.eval xk=uy ka ks.length (fun j=>(a.eval xk).cells.getD j undef):=by rw[Ab,<- hl];exact Yf
  have hMA:=ahY (n:=s.H.length) (l:=l) (fk:=fun j=>(a.eval xk).cells.getD j undef) (fv:=fv) (vc:=cond va (vc.map AV.drop) vc) (o:=oi) uf hκ hS hb hE h1 h2 hl (fun h=>hT.key.kz h) aqw
   (fun j x hj=>(ZF j x hj).1.me (aw8.1 acV x (axc hj))) (fun i hi=>by subst hi;exact Cs hf) ZV
  rw[G4,<- apF,<- hvv] at hMA;have A6:=Lr (E':=(pf E2 YS oi (a.eval xk) (a.eval xv)).1) (ck':=(pf E2 YS oi (a.eval xk) (a.eval xv)).2) uf hb hS s.H.length;rw[hκ] at A6;have UZ:((wN es oi (kc++cond va (vc.map AV.drop) vc)).all fun r=>r.all (aV l))=true:=by
   have jm:(kc++cond va (vc.map AV.drop) vc).all (aV l)=true:=by
    rw[ayS,aw4];refine⟨aw8.2 fun x hx=>uW (aw8.1 acV x hx),?_⟩
    cases va with
    | false=>exact adf
    | true =>
     refine aw8.2 fun x hx=>?_
     obtain⟨y,hy,rfl⟩:=List.mem_map.1 hx;exact re (aw8.1 adf y hy)
   refine aw8.2 fun r hr=>?_
   cases oi with
   | none =>
    simp only[wN,aw9,axi] at hr
    rcases hr with hr|rfl
    ·exact aw8.1 dQ r hr
    ·exact jm
   | some i =>
    simp only[wN] at hr
    rcases ayM hr with hr|rfl
    ·exact aw8.1 dQ r hr
    ·exact jm
  have j7:(xY w (oK.ρ l) (pf E2 YS oi (a.eval xk) (a.eval xv)).1 (pf E2 YS oi (a.eval xk) (a.eval xv)).2).heap.size=w.heap.size:=by simp[xY]
  have IB:=uf.CN (o:=.map ks.length ka va (wN es oi (kc++cond va (vc.map AV.drop) vc))) A6 aP (by intro k hk;simp[hk]) (fun b o ho=>by rw[j7];exact uf.qj b o ho) (fun b hb=>by rw[j7];exact uf.ru b hb) (fun _ _ h=>by cases h) ⟨hMA,UZ⟩ (fun _ _ _ h=>.inl h)
  have hS:=iZ s yv;have Bz:Ext s.H.length oK w oK (xY w (oK.ρ l) (pf E2 YS oi (a.eval xk) (a.eval xv)).1 (pf E2 YS oi (a.eval xk) (a.eval xv)).2):=⟨A6.mono (fun r h=>by rw[h];simp[sG]),fun b hb=>hb⟩
  have KO:FR L nt oK _ a ((s.cN yv).iw ⟨s.H.set l (.map ks.length ka va (wN es oi (kc++cond va (vc.map AV.drop) vc))),l⟩):=BY.grown (by rw[hS.1];exact A6) (fun i=>⟨ae,ae,ae⟩) (by rw[hS.1];simp)
  refine⟨undef,oK,xY w (oK.ρ l) (pf E2 YS oi (a.eval xk) (a.eval xv)).1 (pf E2 YS oi (a.eval xk) (a.eval xv)).2,.inr ⟨?_,rfl⟩,?_⟩;rotate_left
  ·rw[A4]
   exact Out.skip (s1:=(s.cN yv).iw ⟨s.H.set l (.map ks.length ka va (wN es oi (kc++cond va (vc.map AV.drop) vc))),l⟩) IB KO (Iz.trans Bz (Nat.le_refl _)) hd
  ·rcases ho with ho|ho<;>simp[execOp,ho,ug,<- hρ,dI]
 ·cases he
end
end
section
section
variable {P:Program}{G:Nat->List AV}{base nt:Nat}{L:List Nat}{gh:Gh}{w w' : World}{a:Act}{s:AS}{H:aa}
def Jk{c:Call}{t:TypeId}(ho:o.op=.call c)(jG:c.callee=.builtin .len)(fL:c.args.toList=[x])(nx:c.argTypes.toList=[t])
  (dI:(Builtin.len_ #[t] o.type #[a.eval x]).run P w=.ok v w'):(execOp a.eval o).run P w=.ok (.value v) w':=by
 have e1:c.args=#[x]:=by apply ay0;simpa using fL
 have e2:c.argTypes=#[t]:=by apply ay0;simpa using nx
 unfold execOp;simp only[ho,resolve,jG,e1,e2,invoke,builtin,Sem.run_bind,Sem.run_pure,Result.andThen_ok,ay1,axe,axB,dI]
def aar(hW:aY G base s.H gh w)(hF:FR L nt gh w a s)(hc:au nt x=some y):(y.addr G s.T=.ke->a.eval x=.map none) /\
  (∀ kz ka va es,y.addr G s.T=.iW kz ka va es->PR gh.S w (a.eval x) (.iW kz ka va es))/\∀ l,y.addr G s.T=.mref l->l<s.H.length/\a.eval x=.map (some (gh.ρ l)):=by
 have hm:=arg_val hW hF hc;refine⟨fun h=>?_,fun kz ka va es h=>?_,fun l h=>?_⟩
 ·rw[h] at hm
  generalize a.eval x=V at hm;cases (hm:VR gh s.H.length w V .ke) with
  | plain _ _ h=>cases h;rfl
 ·rw[h] at hm
  generalize a.eval x=V at hm;cases (hm:VR gh s.H.length w V (.iW _ _ _ _)) with
  | plain _ _ h=>exact h
 ·rw[h] at hm
  exact VR.p8 hm
def UT(hW:aY G base s.H gh w)(hF:FR L nt gh w a s)(hc:au nt x=some y){kz:Nat}(h:y.addr G s.T=.mA kz ka va es):PR gh.S w (a.eval x) (.mA kz ka va es):=by
 have hm:=arg_val hW hF hc;rw[h] at hm;generalize a.eval x=V at hm;cases (hm:VR gh s.H.length w V (.mA _ _ _ _)) with
 | plain _ _ h=>exact h
end
end
end Go.Abs
end
