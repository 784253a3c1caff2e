/-
  A part of the proof of SyntaxLossless: AbsMap6, AbsArr, AbsCopy, AbsEvOp, AbsRun.
-/
import Derived.Maps.RangeRun
import Derived.Laws.MakeOwn
import Derived.Laws.IdiomCopy
import Derived.WalkSpells
import Derived.LoopN
import Derived.Scope
import Derived.Tactics
import Derived.Test.YtkoebdjmmgckdaaGreatDoorQ04
set_option linter.unusedSimpArgs false
set_option linter.unusedVariables false
set_option linter.defProp false
noncomputable section
namespace Go.Abs
open Go.ChangeMaps (setBlock)
variable {z:AV}{E:Array MapEntry}{ka va:Bool}{es todo:List (List AV)}{cur:List AV}{ck g i:Nat}{f:Nat->Nat->Value}{o:Oper}{it:Operand}{s':Option AS}{y:aI}{cf:fX}
section
section
variable {P:Program}{G:Nat->List AV}{base nt:Nat}{L:List Nat}{gh:Gh}{w w' : World}{a:Act}{s:AS}{H:aa}
theorem LN{α:Type}{key:α->Nat} : ∀ (l:List α) (x:α),x∈l->(∀ (i j:Nat) (a b:α),l[i]?=some a->l[j]?=some b->key a=key b->i=j)->l.Perm (x :: l.filter fun y=>decide (key y≠key x))
 | [],x,h,_=>by cases h
 | y :: l,x,h,hd=>by
  have hd' : ∀ (i j:Nat) (a b:α),l[i]?=some a->l[j]?=some b->key a=key b->i=j:=fun i j a b h1 h2 h3=>by
   have:=hd (i+1) (j+1) a b (cJ h1) (cJ h2) h3
   omega
  by_cases Yk:key y=key x
  ·have dQ:l.filter (fun z=>decide (key z≠key x))=l:=by
    refine List.filter_eq_self.2 fun z hz=>?_
    obtain⟨j,hj⟩:=axu hz;simp only[aw'];intro e;have:=hd 0 (j+1) y z rfl (cJ hj) (Yk.trans e.symm)
    omega
   have hxe:x=y:=by
    grind
   subst hxe;rw[azv,if_neg ae,dQ]
  ·have ZY:x∈l:=by
    grind
   have ih:=LN l x ZY hd';rw[azv,if_pos (cJ Yk)];exact (List.Perm.cons y ih).trans (List.Perm.swap x y _)
theorem Gt(hW:aY G base H gh w){b:Nat}{o:Obj}{w1:World}(CB:w1=w\/w1=w.drew)(aP:b<w.heap.size)(hS:∀ o,¬ gh.S b o)(hnc:∀ C ty fr,w.heap[b]?≠some (.cells C ty fr))(n:Nat):Step (fun r=>r=gh.κ b) n gh w gh (setBlock w1 b o):=by
 have uX:(setBlock w1 b o).heap=w.heap.setIfInBounds b o:=by rcases CB with rfl|rfl<;>rfl
 have NB:∀ b',b'≠b->(setBlock w1 b o).heap[b']?=w.heap[b']?:=fun b' h=>by rw[uX];simp[ayk h]
 have da:∀ b' o,gh.S b' o->b'≠b:=fun b' o h=>by rintro rfl;exact hS o h
 refine⟨fun _ _ h=>h,fun b' o h=>cell_of_heap (NB b' (da b' o h)),by rw[uX];simp,?_,?_,?_,fun b' iG hn=>?_,fun b' iG=>?_,fun _ _=>rfl,fun b' ty m hm=>?_,fun b' E1 c1 hs hm=>?_⟩
 ·rcases CB with rfl|rfl<;>rfl
 ·rcases CB with rfl|rfl<;>rfl
 ·rcases CB with rfl|rfl<;>rfl
 ·have Gi:b'≠b:=by rintro rfl;exact hn rfl
  exact⟨.inl (NB b' Gi),rfl,fun _ h=>h⟩
 ·have:w.heap.size<=b':=by first|exact iG|(rw[uX] at iG;simpa using iG)
  exact hW.cg b' this
 ·obtain⟨C,fr,h1,h2⟩:=hm
  have Gi:b'≠b:=by rintro rfl;exact hnc C ty fr h1
  exact⟨C,fr,by rw[NB b' Gi];exact h1,h2⟩
 ·grind
def wU{x:AV}(h:x.plain=true):x.drop=x:=by
 cases x<;>try rfl
 rename_i e own;cases own
 ·rfl
 ·simp[AV.plain] at h
def Gh.Ni(gh:Gh)(b:Nat):Gh:={ gh with S:=fun b' o=>gh.S b' o\/(b'=b/\o=0) }
def N3(hW:aY G base s.H gh w)(hF:FR L nt gh w a s){l kz:Nat}(hH:s.H[l]?=some (.map kz ka va es))(gI:(es.all fun r=>r.all AV.plain)=true) :
  ∃ oK,aY G base (s.H.set l (.iW kz ka va es)) oK w/\FR L nt oK w a (s.iw ⟨s.H.set l (.iW kz ka va es),l⟩)/\Ext s.H.length gh w oK w/\oK.ρ l=gh.ρ l/\PR oK.S w (.map (some (gh.ρ l))) (.iW kz ka va es):=by
 have aP:=(aw5.1 hH).1;obtain⟨⟨hκ,hS,E,ck,f,hb,hE,h1,h2⟩,_⟩:=hW.more l _ hH;have yZ:=(axb.1 hb).1;have st:∀ n,Step (fun r=>r=.hb l) n gh w (gh.Ni (gh.ρ l)) w:=fun n=>by
  refine⟨fun b o h=>.inl h,fun _ _ _=>rfl,Nat.le_refl _,rfl,rfl,rfl,fun b hb hn=>⟨.inl rfl,rfl,fun o ho=>?_⟩,fun b hb=>hW.cg b hb,fun _ _=>rfl,fun _ _ _ h=>h,fun _ _ _ _ h=>h⟩
  rcases ho with ho|⟨rfl,_⟩
  ·exact ho
  ·exact absurd hκ hn
 have hP:PR (gh.Ni (gh.ρ l)).S w (.map (some (gh.ρ l))) (.iW kz ka va es):=by
  refine .iW (gh.ρ l) kz ka va es E ck f (.inr ⟨rfl,rfl⟩) hb hE (fun i j r x hi hj=>?_)
  have hx:=aw8.1 (aw8.1 gI r (axc hi)) x (axc hj);have hp:PR gh.S w (f i j) x:=by
   by_cases aP:j<kz
   ·exact h1 i j r x hi hj aP
   ·have:=((h2 i j r x hi hj af).2.2).dropped
    rw[wU hx] at this;exact this.me hx
  exact hp.mono (st 0).S (st 0).cell (st 0).mp
 refine⟨gh.Ni (gh.ρ l),?_,?_,⟨(st _).mono (fun r h=>by rw[h];exact⟨ae,ae⟩),fun b hb=>hb⟩,rfl,hP⟩
 ·refine hW.CN (st _) aP (by intro k hk;simp[hk]) (fun b o ho=>?_) hW.ru (fun _ _ h=>by cases h) hP (fun b o m ho=>?_)
  ·rcases ho with ho|⟨rfl,_⟩
   ·exact hW.qj b o ho
   ·exact yZ
  ·rcases ho with ho|⟨rfl,rfl⟩
   ·exact .inl ho
   ·exact .inr (fun hc=>by simp[World.cell?,hb] at hc)
 ·exact hF.grown (st _) (fun i=>⟨ae,ae,ae⟩) ae
theorem L2(hW:aY G base s.H gh w)(hF:FR L nt gh w a s){kz:Nat}(hd:∀ k,o.dst=some k->k<nt/\k∈L) :
  ∀ (m:Option Nat) (since:Nat) (es:List (List AV)),(execOp a.eval o).run P w=.ok (.value (.pointer (some ⟨w.heap.size,0,none⟩))) (w.alloc (.mapIter m since #[] since)) ->
   ((m=none/\es=[])\/∃ m0 E ck f,m=some m0/\gh.S m0 0/\w.heap[m0]?=some (.map E ck)/\since=ck/\∃ uS:List (List AV),Aj E ck kz ka va uS f/\es.Perm uS/\(∀ (i j:Nat) (r:List AV) (x:AV),uS[i]?=some r->r[j]?=some x->PR gh.S w (f i j) x)) ->
   ∃ v' a8 w',xr P a o w v' w'/\Out G base nt L gh w a s o.dst (.iter s.gen kz ka va [] es) { s with gen:=s.gen+1 } v' a8 w':=by
  intro m since es dI hm;have hp:=fy.alloc w (.mapIter m since #[] since);have da:=yC o.dst;have st:=jd hW hp da (fun _=>False) s.H.length
  have KN:=hF.grown (H':=s.H) (lo':=s.lo) st (fun i=>⟨id,id,fun _=>id⟩) (Nat.le_refl _)
  have n9:=hW.alloc hp da (fun _=>False) (fun _ _ h=>h.elim)
  refine⟨.pointer (some ⟨w.heap.size,0,none⟩),_,_,.inl dI,n9,KN.WS (gen':=s.gen+1) (Nat.le_succ _) (fun b hb=>n9.cg b hb) o.dst (fun k hk=>(hd k hk).1) (.inr ⟨⟨s.gen,Nat.le_refl _,rfl⟩,fun k hk=>(hd k hk).2⟩) ?_,po hW hp da _ _⟩
  intro k hk;refine⟨ay4 _,w.heap.size,rfl,?_⟩;rw[hk] at st ⊢;refine⟨by simp[Gh.alloc,Q0],?_,m,since,#[],since,hp.new,?_⟩
  ·rintro o (ho|⟨_,ho⟩)
   ·have:=hW.qj _ o ho;omega
   ·exact ho
  ·rcases hm with ⟨rfl,rfl⟩|⟨m0,E,ck,f,rfl,h1,h2,rfl,uS,h3,hpm,h4⟩
   ·grind
   ·refine .inr ⟨m0,E,uS,since,f,rfl,st.S _ _ h1,st.mp _ _ _ h1 h2,h3,rfl,rfl,fun i j r x hi hj=>(h4 i j r x hi hj).mono st.S st.cell st.mp,.inl ⟨rfl,rfl⟩,?_⟩
    have:((E.toList.zip uS).filter fun p=>!(#[]:Array Nat).contains p.1.born)=E.toList.zip uS:=List.filter_eq_self.2 fun p _=>ae
    rw[this];have hz:(E.toList.zip uS).map (·.2)=uS:=List.map_snd_zip (by have:=h3.size;simp;omega)
    rw[hz];exact hpm
def aeL(hW:aY G base s.H gh w)(hF:FR L nt gh w a s){t kt et:TypeId}{x:Operand}{kz:Nat}(ho:o.op=.range t x)(hc:au nt x=some y)(ht:P.underlying t=some (.map kt et))
  (he:br G cf s (.rng kz ka va y)=some (z,s')) (hd:∀ k,o.dst=some k->k<nt/\k∈L) :
  ∃ v' a8 w',xr P a o w v' w'/\Out G base nt L gh w a s o.dst z (s'.getD s) v' a8 w':=by
 obtain⟨m1,m2,m3⟩:=aar hW hF hc;have key:=L2 (P:=P) hW hF (o:=o) (kz:=kz) (ka:=ka) (va:=va) hd;simp only[br] at he;split at he
 ·rename_i hY
  simp only[aw2,aw6] at he;obtain⟨rfl,rfl⟩:=he;refine key none 0 [] ?_ (.inl ⟨rfl,rfl⟩);simp[execOp,ho,m1 hY,Instr.range,run_underlying ht,newObj,Sem.run]
 ·rename_i hY
  obtain⟨h0,iX⟩:=ay he;clear he;simp only[aw4,im,aw',axL] at h0;obtain⟨⟨rfl,rfl⟩,rfl⟩:=h0;simp only[aw2,aw6] at iX;obtain⟨rfl,rfl⟩:=iX;have hp:=m2 _ _ _ _ hY;generalize hA:a.eval x=V at hp;cases hp with
  | iW b _ _ _ _ E ck f hS hb hE dh =>
   refine key (some b) ck _ ?_ (.inr ⟨b,E,ck,f,rfl,hS,hb,rfl,_,hE.iter,azE _,dh⟩);simp[execOp,ho,hA,Instr.range,run_underlying ht,newObj,getObj,Sem.run,hb]
 ·rename_i hY
  obtain⟨h0,iX⟩:=ay he;clear he;simp only[aw4,im,aw',axL] at h0;obtain⟨⟨rfl,rfl⟩,rfl⟩:=h0;simp only[aw2,aw6] at iX;obtain⟨rfl,rfl⟩:=iX;have hp:=UT hW hF hc hY;generalize hA:a.eval x=V at hp;cases hp with
  | mA b _ _ _ _ uS E ck f hS hb hE hpm dh =>
   refine key (some b) ck _ ?_ (.inr ⟨b,E,ck,f,rfl,hS,hb,rfl,_,hE,hpm.symm,dh⟩);simp[execOp,ho,hA,Instr.range,run_underlying ht,newObj,getObj,Sem.run,hb]
 ·rename_i l hY
  split at he
  ·rename_i qw qv qy es hH
   obtain⟨h0,iX⟩:=ay he;clear he;simp only[aw4,im,aw',axL] at h0;obtain⟨⟨⟨rfl,rfl⟩,rfl⟩,gI⟩:=h0;simp only[aw2,aw6] at iX;obtain⟨rfl,rfl⟩:=iX;obtain⟨aP,ug⟩:=m3 l hY;obtain⟨oK,uf,BY,Iz,hρ,hP⟩:=N3 hW hF hH gI;generalize hV:Value.map (some (gh.ρ l))=V at hP;cases hP with
   | iW b _ _ _ _ E ck f hS hb hE dh =>
    injection hV with hV
    injection hV with hV
    subst hV;obtain⟨v',a8,w',k1,k2⟩:=L2 (P:=P) (s:=s.iw ⟨s.H.set l (.iW kz ka va es),l⟩) uf BY (o:=o) hd (some (gh.ρ l)) ck es (by
     simp[execOp,ho,ug,Instr.range,run_underlying ht,newObj,getObj,Sem.run,hb]) (.inr ⟨_,E,ck,f,rfl,hS,hb,rfl,_,hE.iter,azE _,dh⟩)
    exact⟨v',a8,w',k1,k2.W,k2.F,Iz.trans k2.E (by simp[AS.iw])⟩
  ·cases he
 ·cases he
theorem KE:∀ (l:List MapEntry) (e:MapEntry),e∈l->(∀ x∈l,x.born=e.born->x=e)->l.find? (fun x=>x.born==e.born)=some e
 | [],e,h,_=>by cases h
 | x :: l,e,h,hu=>by
  rw[List.find?_cons]
  by_cases hx:x.born=e.born
  ·grind
  ·have hb:(x.born==e.born)=false:=cJ hx
   rw[hb]
   rcases axs.1 h with h|h
   ·subst h;exact absurd rfl hx
   ·exact KE l e h (fun y hy=>hu y (yd hy))
def Pd{n:Nat}{m:Nat}{g:Nat->Value}{cs:List AV}(hm:cs.length=m)(h1:va=false->m=1)(h:∀ (j:Nat) (x:AV),cs[j]?=some x->PR gh.S w (g j) x):VR gh n w (uy va m g) (qY va cs) :=
 Wm hm h1 (fun j x hj=>⟨VR.dropped (.plain _ _ (h j x hj)),(h j x hj).fJ⟩)
theorem Kq{n kz:Nat}(hE:Aj E ck kz ka va es f)(dh:∀ (i j:Nat) (r:List AV) (x:AV),es[i]?=some r->r[j]?=some x->PR gh.S w (f i j) x)
  {e:MapEntry} {r:List AV} (he:E[i]?=some e) (hr:es[i]?=some r):VR gh n w e.key (qY ka (r.take kz))/\VR gh n w e.val (qY va (r.drop kz)):=by
 obtain⟨k1,k2,k3,k4,k5⟩:=hE.row i e r he hr;rw[k4,k5];refine⟨Pd df k2 (fun j x hj=>?_),Pd ae (fun h=>by rw[k3 h];omega) (fun j x hj=>?_)⟩
 ·grind
 ·grind
def Qv(hF:FR L nt gh w a s){t kz:Nat}(ht:t<nt)(hT:s.T t=.iter g kz ka va cur todo):g<s.gen/\∃ b,gv a t=.pointer (some ⟨b,0,none⟩)/\Ai gh w b (.bx t) kz ka va cur todo:=by
 have h:=hF.slot t ht;rw[hT] at h;exact h
theorem aeJ(hW:aY G base s.H gh w)(hF:FR L nt gh w a s)(ho:o.op=.entry it)(hc:au nt it=some y)(he:br G cf s (.ent y)=some (z,s')) :
  s'=none/\∃ v,(execOp a.eval o).run P w=.ok (.value v) w/\pn gh s.H.length nt w s.T s.gen (gv a) v z:=by
 cases y with
 | tmp t =>
  obtain⟨rfl,ht⟩:=kI hc;simp only[br] at he;split at he
  ·rename_i g kz ka va cur todo hT
   obtain⟨h0,he⟩:=ay he;simp only[aw4,axv,axq,ay8] at h0;simp only[aw2,aw6] at he;obtain⟨rfl,rfl⟩:=he;obtain⟨_,b,hb,_,_,m,since,seen,last,IH,hm⟩:=Qv hF ht hT;refine⟨rfl,?_⟩
   rcases hm with ⟨_,_,_,U6⟩|⟨m0,E,es,ck,f,rfl,hS,Mq,hE,rfl,rfl,dh,U6,_⟩
   ·exact absurd U6 h0.2
   ·rcases U6 with ⟨_,U6⟩|⟨st,i,e,yY,hEi,hbe,apj⟩
    ·exact absurd U6 h0.2
    ·obtain⟨v1,v2⟩:=Kq (n:=s.H.length) hE dh hEi apj
     have Nz:e∈E.toList:=by
      grind
     have aky:E.find? (fun x=>x.born==e.born)=some e:=by
      rw[<- Array.find?_toList];refine KE _ e Nz (fun x hx hxb=>?_)
      obtain⟨j,hj⟩:=axu hx;rw[axP] at hj;have:=hE.apart j i x e hj hEi hxb
      grind
     have ug:a.eval (.tmp t)=.pointer (some ⟨b,0,none⟩):=hb;refine⟨.tuple #[e.key,e.val],?_,.dw (.tuple _ _ rfl (fun j u x hu hx=>?_))⟩
     ·subst hbe
      simp[execOp,ho,ug,Instr.entry,getObj,Sem.run,IH];simp[yY,Mq,Sem.run,aky]
     ·grind
  ·cases he
 | _=>simp only[br] at he;cases he
theorem Sc{seen:Array Nat}{kz:Nat}(hE:Aj E ck kz ka va es f){e:MapEntry}{r:List AV}(he:E[i]?=some e)(hr:es[i]?=some r)(hs:seen.contains e.born=false) :
  (((E.toList.zip es).filter fun p=>!seen.contains p.1.born).map (·.2)).Perm (r :: ((E.toList.zip es).filter fun p=>!(seen.push e.born).contains p.1.born).map (·.2)):=by
 have hz:(E.toList.zip es)[i]?=some (e,r):=by rw[ay7];exact⟨by rw[axP];exact he,hr⟩
 have h1:=LN (key:=fun p:MapEntry × List AV=>p.1.born) (E.toList.zip es) (e,r) (axc hz) (fun j k p q hj hk hpq=>by
  rw[ay7,axP] at hj hk;exact hE.apart j k p.1 q.1 hj.1 hk.1 hpq)
 have h2:=h1.filter (fun p=>!seen.contains p.1.born)
 rw[azv,if_pos (by show (!seen.contains e.born)=true;rw[hs];rfl),List.filter_filter] at h2
 grind
theorem Za(hW:aY G base s.H gh w)(hF:FR L nt gh w a s){t kz:Nat}(ho:o.op=.next it false)(hc:au nt it=some (.tmp t))(hT:s.T t=.iter g kz ka va cur todo)(hL:t∈L)
  (hd:∀ k,o.dst=some k->k<nt) (K:Act->World->Prop) (Q:Exit->Act->World->Prop)
  (hK0:todo=[]->∀ v' a8 w',Out G base nt L gh w a s o.dst (.tuple [.bool false]) s v' a8 w'->K (a.put o.dst v') w')
  (hK1:∀ r rest,todo.Perm (r :: rest)->∀ v' a8 w',Out G base nt L gh w a s o.dst (.tuple [.bool true,qY ka (r.take kz),qY va (r.drop kz)]) (s.cc t (.iter g kz ka va r rest)) v' a8 w'->K (a.put o.dst v') w'):o.wp P a w K Q:=by
 obtain⟨rfl,ht⟩:=kI hc;obtain⟨hg,b,hb,hκ,hS,m,since,seen,last,IH,hm⟩:=Qv hF ht hT;have ug:a.eval (.tmp t)=.pointer (some ⟨b,0,none⟩):=hb;have U8:∀ {n:Nat},VR gh n w (.tuple #[.bool false]) (.tuple [.bool false]):=fun {n}=>.tuple _ _ rfl (fun j u x hu hx=>by
  match j with
  | 0=>injection hu with hu;injection hx with hx;subst hu hx;exact .plain _ _ (.bool _)
  | j+1=>simp at hx)
 rcases hm with ⟨rfl,rfl,_,_⟩|⟨m0,E,es,ck,f,rfl,hSm,Mq,hE,rfl,rfl,dh,_,G6⟩
 ·refine xr.wp (.inl ?_) (hK0 rfl (.tuple #[.bool false]) gh w (Out.pure hW hF hd (.dw U8)))
  simp[execOp,ho,ug,Instr.next,getObj,Sem.run,IH]
 ·rcases run_next_at (P:=P) w o.type b m0 last last seen E last IH Mq (fun x hx=>by
   obtain⟨j,hj⟩:=axu hx;rw[axP] at hj;exact hE.born j x hj) (Nat.le_refl _) with ⟨hz,dI⟩|⟨e,hem,w1,CB,dI⟩
  ·have RQ:todo=[]:=by
    have hl:((E.toList.zip es).filter fun p=>!seen.contains p.1.born)=[]:=by
     refine List.filter_eq_nil_iff.2 fun p hp da=>?_
     have hpe:=(List.of_mem_zip (a:=p.1) (b:=p.2) hp).1;have:p.1∈(leftOf E seen).toList:=by
      unfold leftOf
      grind
     grind
    rw[hl] at G6;exact G6.eq_nil
   refine xr.wp (.inl ?_) (hK0 RQ (.tuple #[.bool false]) gh w (Out.pure hW hF hd (.dw U8)));simp[execOp,ho,ug,dI]
  ·unfold leftOf at hem
   simp only[Array.toList_filter,azi] at hem;obtain⟨heE,BC⟩:=hem;obtain⟨i,hi⟩:=axu heE;rw[axP] at hi;have afs:i<es.length:=by rw[<- hE.size];exact (axb.1 hi).1
   have hr:=aw3 afs;have apX:seen.contains e.born=false:=cJ BC;have ak4:=Sc hE hi hr apX;have No:=(axb.1 IH).1;have st:=Gt (o:=.mapIter (some m0) last (seen.push e.born) last) hW CB No hS (fun C ty fr h=>by rw[IH] at h;cases h) s.H.length
   rw[hκ] at st;have uX:(setBlock w1 b (.mapIter (some m0) last (seen.push e.born) last)).heap=w.heap.setIfInBounds b (.mapIter (some m0) last (seen.push e.born) last):=by rcases CB with rfl|rfl<;>rfl
   have j7:(setBlock w1 b (.mapIter (some m0) last (seen.push e.born) last)).heap.size=w.heap.size:=by rw[uX];simp
   have n9:=hW.step st (fun l=>⟨ae,ae⟩) (fun b o h=>by rw[j7];exact hW.qj b o h) (fun b h=>by rw[j7];exact hW.ru b h) (fun _ _ _ h=>.inl h)
   have hE' : Ext s.H.length gh w gh (setBlock w1 b (.mapIter (some m0) last (seen.push e.born) last)):=⟨st.mono (fun r h=>by rw[h];simp[sG]),fun _ h=>h⟩
   have hIt:Ai gh (setBlock w1 b (.mapIter (some m0) last (seen.push e.born) last)) b (.bx t) kz ka va es[i] (((E.toList.zip es).filter fun p=>!(seen.push e.born).contains p.1.born).map (·.2)):=by
    refine⟨hκ,hS,some m0,last,seen.push e.born,last,by rw[uX];simp[No],.inr ⟨m0,E,es,last,f,rfl,hSm,st.mp _ _ _ hSm Mq,hE,rfl,rfl,fun i j r x h1 h2=>(dh i j r x h1 h2).mono st.S st.cell st.mp,.inr ⟨e.born,i,e,ae,hi,rfl,hr⟩,azE _⟩⟩
   have KN:FR L nt gh (setBlock w1 b (.mapIter (some m0) last (seen.push e.born) last)) a (s.cc t (.iter g kz ka va es[i] (((E.toList.zip es).filter fun p=>!(seen.push e.born).contains p.1.born).map (·.2)))) :=
    hF.cc (H':=s.H) (lo':=s.lo) st (Nat.le_refl _) (fun i hi=>⟨cJ hi,ae,ae⟩) (.inl ⟨ht,by rw[hT];rfl⟩) (fun _=>⟨hg,b,hb,hIt⟩)
   obtain⟨v1,v2⟩:=Kq (n:=s.H.length) hE dh hi hr;have hv:VR gh s.H.length (setBlock w1 b (.mapIter (some m0) last (seen.push e.born) last)) (.tuple #[.bool true,e.key,e.val]) (.tuple [.bool true,qY ka (es[i].take kz),qY va (es[i].drop kz)]):=by
    refine .tuple _ _ rfl (fun j u x hu hx=>?_)
    match j with
    | 0=>injection hu with hu;injection hx with hx;subst hu hx;exact .plain _ _ (.bool _)
    | 1=>injection hu with hu;injection hx with hx;subst hu hx;exact v1.mono st (Nat.le_refl _)
    | 2=>injection hu with hu;injection hx with hx;subst hu hx;exact v2.mono st (Nat.le_refl _)
    | j+3=>simp at hx
   have hO:Out G base nt L gh w a s o.dst (.tuple [.bool true,qY ka (es[i].take kz),qY va (es[i].drop kz)]) (s.cc t (.iter g kz ka va es[i] (((E.toList.zip es).filter fun p=>!(seen.push e.born).contains p.1.born).map (·.2)))) (.tuple #[.bool true,e.key,e.val]) gh (setBlock w1 b (.mapIter (some m0) last (seen.push e.born) last)) :=
    Out.of (s1:=s.cc t (.iter g kz ka va es[i] (((E.toList.zip es).filter fun p=>!(seen.push e.born).contains p.1.born).map (·.2)))) (gen':=s.gen) n9 KN hE' (Nat.le_refl _) hd (.inl rfl) (fun k hk=>qo rfl (.inl hv))
   refine xr.wp (.inl ?_) (hK1 es[i] _ (G6.trans ak4) (.tuple #[.bool true,e.key,e.val]) gh _ hO);simp[execOp,ho,ug,dI]
end
end
end Go.Abs
namespace Go.Abs
variable {z:AV}{ops:Array Oper}{a8:Gh}{E f:List (List AV)}{cs:List AV}{dB locals muts:List Nat}{b bytes cap j k l m sz:Nat}{o:Oper}{x y:Operand}{s':Option AS}{d:Option Nat}{e u:TypeId}{V v:Value}{w0:World}{ix yx yy:aI}{io:aQ}{H' H0:aa}{touch:bF->Prop}{cf:fX}
section
section
variable {P:Program}{G:Nat->List AV}{base nt:Nat}{L:List Nat}{gh oK:Gh}{w w' : World}{a:Act}{s:AS}{H:aa}
def Ct{α:Type} : ∀ (e:List (List α)) (idx:Nat) (x:α),(∀ r∈e,r.length=sz)->e.flatten[idx]?=some x->∃ i j r,e[i]?=some r/\r[j]?=some x/\idx=i*sz+j
 | [],_,_,_,h=>by simp at h
 | r :: e,idx,x,hr,h=>by
  rw[axw] at h
  by_cases hl:idx<r.length
  ·rw[axd hl] at h;exact⟨0,idx,r,rfl,h,ae⟩
  ·rw[List.getElem?_append_right af] at h
   obtain⟨i,j,r',h1,h2,h3⟩:=Ct e _ x (fun r h=>hr r (yd h)) h
   have:=hr r ae
   exact⟨i+1,j,r',cJ h1,h2,by rw[axT];omega⟩
theorem kO{α:Type} : ∀ (e:List (List α)),(∀ r∈e,r.length=sz)->e.flatten.length=e.length*sz
 | [],_=>ae
 | r :: e,hr=>by
  have:=hr r ae
  have ih:=kO e (fun r h=>hr r (yd h))
  grind
theorem IE{x:AV}(h:il l x=true)(hl:l<=m):il m x=true:=by
 cases x<;>first|exact h|(simp only[il,axv] at h ⊢;omega)
theorem KV{x:AV}(h:lX l x=true)(hl:l<=m):lX m x=true:=by
 unfold lX at h ⊢
 grind [IE]
theorem KU{x:AV}(h:aV l x=true)(hl:l<=m):aV m x=true:=by
 cases x
 case func f fs cs =>
  simp only[aV,aw4,aw8] at h ⊢
  grind [KV]
 all_goals first|exact h|(simp only[aV,axv] at h ⊢;omega)
theorem aY.arr(hW:aY G base H gh w)(st:Step touch H.length gh w a8 w')(hlen:H'.length=H.length)
  (hold:∀ (loc:Nat) (o:bG),H'[loc]?=some o->(H[loc]?=some o/\¬ touch (.hb loc)/\∀ j,¬ touch (.hs loc j))\/o=.dead)
  (hs:∀ b o,a8.S b o->gh.S b o) (hk:∀ b,a8.κ b≠.none->base<=b/\b<w'.heap.size) {cs:List AV}
  (hB:iL a8 (H.length+1) w' (a8.ρ H.length) (.hb H.length) (fun j=>.hs H.length j) cs) (hr:cs.all (aV H.length)=true):aY G base (H'++[.box bz cs]) a8 w':=by
 have last:∀ {loc:Nat} {o:bG},(H'++[bG.box bz cs])[loc]?=some o->(loc<H.length/\H'[loc]?=some o)\/(loc=H.length/\o=.box bz cs):=by
  grind
 have hln:(H'++[bG.box bz cs]).length=H.length+1:=by simp[hlen]
 refine⟨axx hW.size st.size,fun b o ho=>ayh (hW.qj b o (hs b o ho)) st.size,hk,fun g j x hx=>?_,fun loc ty ds hl=>?_,fun loc ty ds hl=>?_,fun g hg=>(hW.Cg g hg).imp fun ty h=>st.len g ty _ h,hW.mw st (fun b o m h=>.inl (hs b o h)),fun loc o hl=>?_,fun loc ty ds hl hf=>?_⟩
 ·obtain⟨v,h1,h2,h3⟩:=hW.aX g j x hx
  exact⟨v,(st.cell g j h3).trans h1,h2.mono st.S st.cell st.mp,st.S g j h3⟩
 ·rw[hln]
  rcases last hl with ⟨aP,hl⟩|⟨rfl,ho⟩
  ·rcases hold loc _ hl with ⟨h0,h1,h2⟩|h0
   ·rw[st.ρ loc aP];exact (hW.boxes loc ty ds h0).mono st (Nat.le_succ _) h1 h2
   ·cases h0
  ·grind
 ·rcases last hl with ⟨aP,hl⟩|⟨rfl,ho⟩
  ·rcases hold loc _ hl with ⟨h0,_⟩|h0
   ·exact hW.refs loc ty ds h0
   ·cases h0
  ·grind
 ·rw[hln]
  rcases last hl with ⟨aP,hl⟩|⟨rfl,rfl⟩
  ·rcases hold loc _ hl with ⟨h0,h1,h2⟩|rfl
   ·rw[st.ρ loc aP];exact (hW.more loc o h0).mono st (Nat.le_succ _) h1 h2
   ·trivial
  ·trivial
 ·rcases last hl with ⟨aP,hl⟩|⟨rfl,ho⟩
  ·rcases hold loc _ hl with ⟨h0,_⟩|h0
   ·rw[st.ρ loc aP];exact st.len _ _ _ (hW.types loc ty ds h0 hf)
   ·cases h0
  ·grind
def Gh.rename(gh:Gh)(l n b:Nat):Gh where
 S:=gh.S
 κ:=fun x=>match gh.κ x with
  | .hb i=>if i=l then .hb n else .hb i
  | .hs i j=>if i=l then .hs n j else .hs i j
  | k=>k
 ρ:=fun i=>if i=n then b else gh.ρ i
theorem Xb{n x:Nat}(h:gh.κ x≠.hb l/\∀ j,gh.κ x≠.hs l j):(gh.rename l n b).κ x=gh.κ x:=by
 simp only[Gh.rename]
 grind
theorem BP{n x:Nat} : (gh.rename l n b).κ x=.none↔gh.κ x=.none:=by
 simp only[Gh.rename]
 grind
theorem tN{n x:Nat} : (gh.rename l n b).κ x=.outer↔gh.κ x=.outer:=by
 simp only[Gh.rename]
 grind
def jY(l:Nat)(r:bF):Prop:=r=.hb l\/∃ j,r=.hs l j
def Step.renamed{n:Nat}(st:Step touch m gh w oK w')(hn:m<=n)(ht:∀ r,touch r->jY l r):Step (jY l) m gh w (oK.rename l n b) w':=by
 refine⟨st.S,st.cell,st.size,st.os,st.tape,st.output,fun x hx mS=>?_,fun x hx=>?_,fun loc hl=>?_,st.len,st.mp⟩
 ·obtain⟨k1,k2,k3⟩:=st.oo x hx (fun h=>mS (ht _ h))
  refine⟨k1,?_,k3⟩;rw[Xb (by rw[k2];exact⟨fun h=>mS (.inl h),fun j h=>mS (.inr ⟨j,h⟩)⟩),k2]
 ·intro h
  exact st.fresh x hx (tN.1 h)
 ·show (if loc=n then _ else _)=_
  rw[if_neg af];exact st.ρ loc hl
def CR.rename{m' n:Nat}{x:AV}(h:CR gh m w (.hs l j) v x)(hf:∀ b,w.heap.size<=b->gh.κ b≠.outer)(hm:m<=n)(S8:m<=m'):CR (gh.rename l n b) m' w (.hs n j) v x:=by
 have st:Step (jY l) m gh w (gh.rename l n b) w:=Step.renamed (touch:=fun _=>False) (Step.refl _ _ _ _ hf) hm (fun _ h=>h.elim)
 rcases h with h|⟨e,rfl,h1,b',cap,C,ty,lo,hi,sz,hv,hk,he,hb,hC,hr,hl,hh,hS⟩
 ·exact .inl (h.mono st S8)
 ·exact .inr ⟨e,rfl,h1,b',cap,C,ty,lo,hi,sz,hv,by simp[Gh.rename,hk],he,hb,hC,hr,hl,hh,hS⟩
def FJ(l:Nat)(i:Nat):¬ jY l (.bx i)/\¬ jY l (.sl i)/\∀ j,¬ jY l (.sc i j):=by
 refine⟨?_,?_,fun j=>?_⟩<;>(rintro (h|⟨_,h⟩)<;>cases h)
def Jx(l:Nat)(r:bF)(h:jY l r):sG r:=by
 rcases h with rfl|⟨j,rfl⟩<;>exact⟨ae,ae⟩
def Out.arr(hF:FR L nt gh w a s)(hd:∀ k,d=some k->k<nt)(st:Step (jY l) s.H.length gh w a8 w')(ho:∀ b,a8.κ b=.outer->gh.κ b=.outer){lo z:Nat}(hlen:H'.length=s.H.length)
  (hW:aY G base (H'++[.box bz cs]) a8 w') (hk:k<=cap) (hz:∃ ty,sJ w' (a8.ρ s.H.length) ty (0+cap*z)) :
  Out G base nt L gh w a s d (.sref s.H.length 0 k z) (s.iw ⟨H'++[.box bz cs],lo⟩) (.slice (some ⟨a8.ρ s.H.length,0,none⟩) k cap) a8 w':=by
 have hv:VR a8 (H'++[bG.box bz cs]).length w' (.slice (some ⟨a8.ρ s.H.length,0,none⟩) k cap) (.sref s.H.length 0 k z):=.sref _ 0 k cap z (yd hlen) hk (fun _=>hz)
 exact⟨hW,hF.put st (FJ l) (yd hlen) d hd (.dw hv),⟨st.mono (Jx l),ho⟩⟩
def vJ{A:Array Value}{S:Nat->Nat->Prop}(h:jq S w sz A E){x:AV}(hx:E.flatten[j]?=some x):∃ v,A[j]?=some v/\PR S w v x:=by
 obtain⟨i,k,r,h1,h2,rfl⟩:=Ct E j x (fun r hm=>by obtain⟨i,hi⟩:=axu hm;exact h.2.1 i r hi) hx
 exact h.2.2 i k r x h1 h2
theorem Ho{n:Nat}{p:bF}(h:CR gh n w p V (.slice [] true)):∃ ao,V=.slice ao 0 0:=by
 rcases h with h|⟨e',heq,_,b,cap,C,ty,lo,hi,lq,jn,hk,da,_⟩
 ·cases h with
  | plain _ _ h=>cases h
  | full ao k _ h hz =>
   cases h with
   | dr=>exact⟨none,rfl⟩
   | slice b o _ _ lq _ _ hn=>simp at hn;subst hn;exact⟨_,rfl⟩
 ·grind
def abK{t:TypeId}(ht:P.underlying t=some (.slice e))(ao:Option Addr):Src P sz t (.slice ao 0 0) 0 [] w:=by
 refine⟨.inl ⟨_,ht⟩,fun _=>rfl,?_,?_,ae,fun _ h=>by cases h⟩
 ·cases ao with
  | none=>exact run_firstCells_none w _ 0 0 0
  | some ad=>exact run_firstCells_some w _ 0 ad 0 0 [] ae (fun j v h=>by simp at h)
 ·cases ao with
  | none=>exact run_firstCells_none w.drew _ 0 0 0
  | some ad=>exact run_firstCells_some w.drew _ 0 ad 0 0 [] ae (fun j v h=>by simp at h)
def rp(h:dG f=true){x:AV}(hx:x∈f.flatten):x.plain=true:=by
 obtain⟨r,hr,hx⟩:=ay2.1 hx;exact aw8.1 (aw8.1 h r hr) x hx
def oa{x:AV}(h:x.plain=true)(n:Nat):aV n x=true:=uW h
theorem Kv(hW:aY G base s.H gh w)(hF:FR L nt gh w a s){c:Call}{t:TypeId}
  (ho:o.op=.call c) (jG:c.callee=.builtin .append) (fL:c.args.toList=[x,y]) (nx:c.argTypes.toList=[t,u]) (hT:Bh P t e sz bytes) (hu:(∃ e',P.underlying u=some (.slice e'))\/P.underlying u=some .string)
  (jf:au nt x=some yx) (FX:au nt y=some yy) (he:jP s sz bytes (yx.addr G s.T) (yy.eval G s.T)=some (z,s')) (hd:∀ k,o.dst=some k->k<nt) :
  ∃ v' a8 w',xr P a o w v' w'/\Out G base nt L gh w a s o.dst z (s'.getD s) v' a8 w':=by
 have gl:=fun b hb=>hW.cg (gh:=gh) b hb
 simp only[jP,aw1] at he;obtain⟨f,hf,he⟩:=he;obtain⟨i,zv,hi,_,rfl,_⟩:=hT.hi;have fresh:∀ ao,a.eval x=.slice ao 0 0->cond (!f.isEmpty&&cn i.size bytes [] f&&dG f) (some (AV.sref s.H.length 0 f.length i.size,some (s.iw ⟨s.H++[.box bz f.flatten],s.H.length⟩))) none=some (z,s') ->
   ∃ v' a8 w',xr P a o w v' w'/\Out G base nt L gh w a s o.dst z (s'.getD s) v' a8 w':=by
  intro ao hV he;simp only[oX] at he;obtain⟨h0,rfl,rfl⟩:=he;simp only[aw4,cn,axv,List.length_nil,axC,axq,ay8] at h0;obtain⟨⟨da,⟨⟨JF,kG⟩,_⟩,hh⟩,gI⟩:=h0;obtain⟨news,hs,dj⟩:=wy (P:=P) hW hF FX hf hh hu;have ar1:=ayn.2 da;obtain⟨yE,C',dI,kQ,RC,vb⟩:=grow (P:=P) (ty:=o.type) (ao:=ao) (sLen:=0) (sCap:=0) hT (abK (w:=w) hT.ht ao).cellsD ae hs af af (cJ JF);have oU:fy w (w.drew.alloc (.cells C' e)) (.cells C' e):=.drew w _;have FF:=gz hW oU;have st:Step (jY s.H.length) s.H.length gh w (gh.bE w.heap.size s.H.length) (w.drew.alloc (.cells C' e)):=FF.mono (fun _ h=>h.elim)
  have hρ:(gh.bE w.heap.size s.H.length).ρ s.H.length=w.heap.size:=by simp[Gh.bE]
  have akz:f.flatten.length<=C'.size:=by
   have h1:=kO f (fun r hm=>by obtain⟨k,hk⟩:=axu hm;exact dj.2.1 k r hk)
   rw[h1,RC];exact axg _ af
  have hB:iL (gh.bE w.heap.size s.H.length) (s.H.length+1) (w.drew.alloc (.cells C' e)) ((gh.bE w.heap.size s.H.length).ρ s.H.length) (.hb s.H.length) (fun j=>.hs s.H.length j) f.flatten:=by
   rw[hρ];refine⟨by simp[Gh.bE,Gh.alloc],?_,C',e,oU.new,akz,fun j v x hv hx=>?_⟩
   ·rintro o (ho|⟨_,ho⟩)
    ·have:=hW.qj _ o ho;omega
    ·exact ho
   ·obtain⟨v',o9,hp⟩:=vJ dj hx
    have aP:=(axb.1 o9).1;rw[vb j (cJ aP)] at hv;simp only[axM] at hv;rw[o9] at hv;injection hv with hv
    subst hv;exact⟨hp.fJ,.inl (.plain _ _ (hp.mono st.S st.cell st.mp))⟩
  have hr:f.flatten.all (aV s.H.length)=true:=aw8.2 fun x hx=>oa (rp gI hx) _
  have n9:=hW.arr FF (H':=s.H) rfl (fun loc o h=>.inl ⟨h,id,fun _=>id⟩) (fun b o h=>h.elim id (fun h=>h.2.elim)) (fun b hb=>by
   rw[oU.size];have iG:(if b=w.heap.size then bF.hb s.H.length else gh.κ b)≠.none:=hb
   split at iG
   ·have:=hW.size;omega
   ·have:=hW.ru b iG;omega) hB hr
  refine⟨_,gh.bE w.heap.size s.H.length,w.drew.alloc (.cells C' e),.inl (gQ ho jG fL nx (by rw[hV];exact dI)),?_⟩
  have:=Out.arr (lo:=s.H.length) (k:=0+f.length) (cap:=yE) (z:=i.size) hF hd st (fun b hb=>(kY hW oU).out b hb) rfl n9 kQ ⟨e,by rw[hρ];exact⟨C',(0,0),oU.new,by rw[RC,axC]⟩⟩
  rw[hρ,axC] at this;rw[axC];exact this
 split at he
 ·rename_i hx
  have oT:∃ p,CR gh s.H.length w p (a.eval x) (.slice [] true):=by
   cases yx with
   | tmp t0 =>
    obtain⟨rfl,ht⟩:=kI jf;have o8:s.T t0=.slice [] true:=by
     simp only[aI.addr] at hx
     split at hx<;>first|cases hx|exact hx
    exact⟨_,Ib hF ht o8⟩
   | yn v =>
    simp only[aI.addr] at hx;subst hx;cases x with
    | tmp k =>
     simp only[au] at jf;rcases aye (Nat.blt k nt) with hb|hb<;>rw[hb] at jf<;>simp at jf
    | const u =>
     simp only[au,aw0] at jf;obtain⟨zz,hz,h⟩:=jf;injection h with h
     subst h;exact⟨.none,.inl (kL hz)⟩
    | global g=>simp[au] at jf
    | func f=>simp[au] at jf
   | aX g=>simp[aI.addr] at hx
   | fn f=>simp[aI.addr] at hx
  obtain⟨_,oT⟩:=oT;obtain⟨ao,hV⟩:=Ho oT;exact fresh ao hV he
 ·rename_i hx
  exact fresh none (qG hW hF jf hx rfl).mT he
 ·rename_i l of n zz hx
  split at he
  ·rename_i ty cs hH
   simp only[oX] at he;obtain⟨h0,rfl,rfl⟩:=he;simp only[aw4,im,aw',axv] at h0;obtain⟨⟨⟨⟨⟨⟨rfl,rfl⟩,iz⟩,JF⟩,kG⟩,hh⟩,gI⟩:=h0;obtain⟨news,hs,dj⟩:=wy (P:=P) hW hF FX hf hh hu;obtain⟨aP,cap,ar8,hzB,hV⟩:=VR.kS (qG hW hF jf hx rfl);obtain⟨tyb,Cb,frb,vK,hCb⟩:=hzB (by have:=hT.pos;omega)
   obtain⟨hκ,hS,C,Td,hb,hle,cZ⟩:=hW.boxes l ty cs hH;rw[hb] at vK;injection vK with vK
   injection vK with e1 e2 e3
   subst e1 e2 e3;rw[axC] at hCb;have y6:(C.toList.take (n*i.size)).length=n*i.size:=df;have hold:∀ {j:Nat} {x:AV},cs[j]?=some x->∃ v,C[j]?=some v/\v.oneCell'=true/\CR gh s.H.length w (.hs l j) v x:=by
    intro j x hj;have h1:=(aw5.1 hj).1;have hv:C[j]?=some C[j]:=axj af;obtain⟨k1,k2⟩:=cZ j _ x hv hj;exact⟨_,hv,k1,k2⟩
   have gV:∀ v∈C.toList.take (n*i.size),v.oneCell'=true:=by
    intro v hv;obtain⟨j,hj⟩:=axu hv;have h1:j<n*i.size:=by rw[<- y6];exact (aw5.1 hj).1
    rw[List.getElem?_take,if_pos h1] at hj;obtain⟨v',k1,k2,_⟩:=hold (aw3 (show j<cs.length by omega))
    rw[axP,k1] at hj;injection hj with hj
    subst hj;exact k2
   have Vv:Src P i.size t (.slice (some ⟨gh.ρ l,0,none⟩) n cap) n (C.toList.take (n*i.size)) w:=.ofSlice w hT.ht ⟨gh.ρ l,0,none⟩ n cap _ y6 (fun j u hj=>by
    rw[addr_add,axC,cell_of_row w _ j C Td _ hb];rw[List.getElem?_take] at hj;split at hj
    ·simpa using hj
    ·cases hj) gV
   have u9:=hs.newsLen;have xN:=kO f (fun r hm=>by obtain⟨k,hk⟩:=axu hm;exact dj.2.1 k r hk)
   have hrefs:(cs++f.flatten).all (aV s.H.length)=true:=by
    rw[ayS,aw4];refine⟨aw8.2 fun x hx=>?_,aw8.2 fun x hx=>oa (rp gI hx) _⟩
    exact KU (aw8.1 (hW.refs l ty cs hH) x hx) af
   have acR:∀ {touch:bF->Prop},(∀ r,touch r->jY l r)->∀ (loc:Nat) (o:bG),(s.H.set l .dead)[loc]?=some o->(s.H[loc]?=some o/\¬ touch (.hb loc)/\∀ j,¬ touch (.hs loc j))\/o=.dead:=by
    intro touch ht loc o h;rw[axI] at h;split at h
    ·injection h with h;exact .inr h.symm
    ·rename_i da
     refine .inl ⟨h,fun k=>?_,fun j k=>?_⟩
     ·rcases ht _ k with k|⟨_,k⟩
      ·injection k with k;exact da k.symm
      ·cases k
     ·rcases ht _ k with k|⟨_,k⟩
      ·cases k
      ·injection k with k;exact da k.symm
   by_cases hgr:cap<n+f.length
   ·
    obtain⟨yE,C',dI,kQ,RC,vb⟩:=grow (P:=P) (ty:=o.type) hT Vv.cellsD y6 hs hgr kG JF;have oU:fy w (w.drew.alloc (.cells C' e)) (.cells C' e):=.drew w _;have FF:=jd hW oU (p:=.hb l) ae (fun _=>False) s.H.length
    have st:=FF.renamed (n:=s.H.length) (b:=w.heap.size) (l:=l) (Nat.le_refl _) (fun _ h=>h.elim)
    have hρ:((gh.alloc w.heap.size (.hb l) fun _=>False).rename l s.H.length w.heap.size).ρ s.H.length=w.heap.size:=by simp[Gh.rename]
    have afm:∀ b,(w.drew.alloc (.cells C' e)).heap.size<=b->(gh.alloc w.heap.size (.hb l) fun _=>False).κ b≠.outer:=fun b hb=>by
     have hb0:=oU.size ▸ hb
     show (if b=w.heap.size then bF.hb l else gh.κ b)≠_
     rw[if_neg af];exact hW.cg b af
    have hB:iL ((gh.alloc w.heap.size (.hb l) fun _=>False).rename l s.H.length w.heap.size) (s.H.length+1) (w.drew.alloc (.cells C' e)) (((gh.alloc w.heap.size (.hb l) fun _=>False).rename l s.H.length w.heap.size).ρ s.H.length) (.hb s.H.length) (fun j=>.hs s.H.length j) (cs++f.flatten):=by
     rw[hρ];refine⟨by simp[Gh.rename,Gh.alloc],?_,C',e,oU.new,?_,fun j v x hv hx=>?_⟩
     ·rintro o (ho|⟨_,ho⟩)
      ·have:=hW.qj _ o ho;omega
      ·exact ho
     ·rw[List.length_append,iz,xN,RC,<- axT]
      exact axg _ kQ
     ·have hj:j<(C.toList.take (n*i.size)++news).toArray.size:=by
       have:=(aw5.1 hx).1
       rw[List.length_append,iz,xN] at this;simp only[aym,List.length_append,y6,u9];exact this
      rw[vb j hj] at hv;simp only[axE,axY,y6] at hv;rw[axY,iz] at hx;split at hv
      ·rename_i h1
       rw[if_pos h1] at hx;obtain⟨v',k1,k2,k3⟩:=hold hx;rw[List.getElem?_take,if_pos h1,axP,k1] at hv;injection hv with hv
       subst hv;exact⟨k2,(k3.mono FF (Nat.le_refl _) id).rename afm (Nat.le_refl _) (Nat.le_succ _)⟩
      ·rename_i h1
       rw[if_neg h1] at hx;obtain⟨v',k1,k2⟩:=vJ dj hx;simp only[axE] at k1;rw[k1] at hv;injection hv with hv
       subst hv;exact⟨k2.fJ,.inl (.plain _ _ (k2.mono st.S st.cell st.mp))⟩
    have n9:=hW.arr st (H':=s.H.set l .dead) ae (acR (fun _ h=>h)) (fun b o h=>h.elim id (fun h=>h.2.elim)) (fun b hb=>by
     rw[oU.size];have JF:(gh.alloc w.heap.size (.hb l) fun _=>False).κ b≠.none:=fun h=>hb (BP.2 h)
     have iG:(if b=w.heap.size then bF.hb l else gh.κ b)≠.none:=JF
     split at iG
     ·have:=hW.size;omega
     ·have:=hW.ru b iG;omega) hB hrefs
    refine⟨_,(gh.alloc w.heap.size (.hb l) fun _=>False).rename l s.H.length w.heap.size,w.drew.alloc (.cells C' e),.inl (gQ ho jG fL nx (by rw[hV];exact dI)),?_⟩
    have:=Out.arr (lo:=l) (k:=n+f.length) (cap:=yE) (z:=i.size) hF hd st (fun b hb=>by
     have JF:=tN.1 hb;have iG:(if b=w.heap.size then bF.hb l else gh.κ b)=.outer:=JF
     split at iG
     ·cases iG
     ·exact iG) ae n9 kQ ⟨e,by rw[hρ];exact⟨C',(0,0),oU.new,by rw[RC,axC]⟩⟩
    rw[hρ] at this;exact this
   ·
    have pY:n+f.length<=cap:=af;have gH:n*i.size+news.length<=C.size:=by rw[u9,hCb,<- axT];exact axg _ pY
    have dI:=room (P:=P) (ty:=o.type) hT hs hb (axh _) pY gH;have lY:n*i.size+news.toArray.size<=C.size:=cJ gH;have mS:∀ o,gh.S (gh.ρ l) o->(fQ C (n*i.size) news.toArray)[o]?=C[o]?:=fun o ho=>(hS o ho).elim
    have FF:=nV hW hb (dF lY) mS s.H.length;rw[hκ] at FF;have st:=FF.renamed (n:=s.H.length) (b:=gh.ρ l) (l:=l) (Nat.le_refl _) (fun r h=>.inl h)
    have hρ:(gh.rename l s.H.length (gh.ρ l)).ρ s.H.length=gh.ρ l:=by simp[Gh.rename]
    have j7:(w.setRow (gh.ρ l) (fQ C (n*i.size) news.toArray)).heap.size=w.heap.size:=ae;have No:=(axb.1 hb).1;have afm:∀ b,(w.setRow (gh.ρ l) (fQ C (n*i.size) news.toArray)).heap.size<=b->gh.κ b≠.outer:=fun b hb=>hW.cg b (by rw[j7] at hb;exact hb)
    have hB:iL (gh.rename l s.H.length (gh.ρ l)) (s.H.length+1) (w.setRow (gh.ρ l) (fQ C (n*i.size) news.toArray)) ((gh.rename l s.H.length (gh.ρ l)).ρ s.H.length) (.hb s.H.length) (fun j=>.hs s.H.length j) (cs++f.flatten):=by
     rw[hρ];refine⟨by simp[Gh.rename,hκ],hS,_,Td,setRow_heap w _ C _ Td _ hb,?_,fun j v x hv hx=>?_⟩
     ·rw[List.length_append,iz,xN,dF lY,hCb,<- axT]
      exact axg _ pY
     ·rw[k9 lY] at hv
      have uY:=(aw5.1 hx).1;rw[List.length_append,iz,xN] at uY;rw[axY,iz] at hx;simp only[aym] at hv;split at hx
      ·rename_i h1
       rw[if_neg af] at hv;obtain⟨v',k1,k2,k3⟩:=hold hx;rw[k1] at hv;injection hv with hv
       subst hv;exact⟨k2,(k3.mono FF (Nat.le_refl _) ae).rename afm (Nat.le_refl _) (Nat.le_succ _)⟩
      ·rename_i h1
       rw[if_pos af] at hv;obtain⟨v',k1,k2⟩:=vJ dj hx;rw[k1] at hv;injection hv with hv
       subst hv;exact⟨k2.fJ,.inl (.plain _ _ (k2.mono st.S st.cell st.mp))⟩
    have n9:=hW.arr st (H':=s.H.set l .dead) ae (acR (fun _ h=>h)) (fun b o h=>h) (fun b hb=>by
     rw[j7];exact hW.ru b (fun h=>hb (BP.2 h))) hB hrefs
    refine⟨_,gh.rename l s.H.length (gh.ρ l),w.setRow (gh.ρ l) (fQ C (n*i.size) news.toArray),.inl (gQ ho jG fL nx (by rw[hV];exact dI)),?_⟩
    have:=Out.arr (lo:=l) (k:=n+f.length) (cap:=cap) (z:=i.size) hF hd st (fun b hb=>tN.1 hb) ae n9 pY ⟨Td,by rw[hρ];exact⟨_,(0,0),setRow_heap w _ C _ Td _ hb,by rw[dF lY,hCb,axC]⟩⟩
    rw[hρ] at this;exact this
  ·cases he
 ·cases he
theorem Nb(hW:aY G base s.H gh w)(hF:FR L nt gh w a s){c:Call}{t:TypeId}
  (ho:o.op=.call c) (jG:c.callee=.builtin .append) (fL:c.args.toList=[x,y]) (nx:c.argTypes.toList=[t,u]) (hT:Bh P t e sz bytes) (hu:(∃ e',P.underlying u=some (.slice e'))\/P.underlying u=some .string)
  (jf:au nt x=some yx) (FX:au nt y=some yy) (he:jv s sz bytes (yx.addr G s.T) (yy.eval G s.T)=some (z,s')) (hd:∀ k,o.dst=some k->k<nt) :
  ∃ v' a8 w',xr P a o w v' w'/\Out G base nt L gh w a s o.dst z (s'.getD s) v' a8 w':=by
 unfold jv at he;split at he
 ·rename_i v hn
  simp only[aw2,aw6] at he;obtain⟨rfl,rfl⟩:=he;obtain⟨i,zv,hi,_,rfl,_⟩:=hT.hi;have RZ:((∃ o,yy.eval G s.T=.slice [] o)\/yy.eval G s.T=.al)->∃ news,Src P i.size u (a.eval y) 0 news w:=by
   rintro (⟨o,hY⟩|hY)
   ·obtain⟨news,k1,_⟩:=wy (P:=P) (sz:=i.size) (f:=[]) hW hF FX (by rw[hY];rfl) rfl hu
    exact⟨news,k1⟩
   ·rw[(cO hW hF FX hY rfl).mT]
    refine⟨[],hu,fun _=>rfl,run_firstCells_none w _ 0 0 0,run_firstCells_none w.drew _ 0 0 0,ae,fun _ h=>by cases h⟩
  have key:(∃ ao,a.eval x=.slice ao 0 0/\VR gh s.H.length w (a.eval x) v)/\((∃ o,yy.eval G s.T=.slice [] o)\/yy.eval G s.T=.al):=by
   generalize hY:yy.eval G s.T=Y at hn;generalize hX:yx.addr G s.T=X at hn;unfold Hp at hn;split at hn
   ·have uA:∃ ao,a.eval x=.slice ao 0 0:=by
     have oT:∃ p,CR gh s.H.length w p (a.eval x) (.slice [] true):=by
      cases yx with
      | tmp t0 =>
       obtain⟨rfl,ht⟩:=kI jf;have o8:s.T t0=.slice [] true:=by
        simp only[aI.addr] at hX
        grind
       exact⟨_,Ib hF ht o8⟩
      | yn v =>
       simp only[aI.addr] at hX;subst hX;cases x with
       | tmp k =>
        simp only[au] at jf
        grind
       | const u =>
        simp only[au,aw0] at jf;obtain⟨zz,hz,h⟩:=jf;injection h with h
        subst h;exact⟨.none,.inl (kL hz)⟩
       | global g=>simp[au] at jf
       | func f=>simp[au] at jf
      | aX g=>simp[aI.addr] at hX
      | fn f=>simp[aI.addr] at hX
     grind [Ho]
    obtain⟨ao,hao⟩:=uA;have VA:=qG hW hF jf hX rfl;split at hn
    ·injection hn with hn;subst hn;exact⟨⟨ao,hao,VA⟩,.inl ⟨_,rfl⟩⟩
    ·injection hn with hn;subst hn;exact⟨⟨ao,hao,VA⟩,.inr rfl⟩
    ·cases hn
   ·have VA:=qG hW hF jf hX rfl
    split at hn
    ·injection hn with hn;subst hn;exact⟨⟨none,VA.mT,VA⟩,.inl ⟨_,rfl⟩⟩
    ·injection hn with hn;subst hn;exact⟨⟨none,VA.mT,VA⟩,.inr rfl⟩
    ·cases hn
   ·cases hn
  obtain⟨hxs,hyc⟩:=key;have RZ:=RZ hyc;obtain⟨ao,hV,hv⟩:=hxs;obtain⟨news,hs⟩:=RZ;have hnn:news=[]:=by have:=hs.newsLen;simp at this;exact this
  subst hnn;refine⟨a.eval x,gh,w,.inl (gQ ho jG fL nx ?_),Out.pure hW hF hd (.dw hv)⟩;rw[hV];exact run_append_nothing w t u o.type e i hT.ht hi ao 0 0 (Nat.le_refl _) _ hs
 ·grind [Kv]
theorem Ky(hW:aY G base s.H gh w)(hF:FR L nt gh w a s){t:TypeId}{len:Nat}{parts:Array (Nat × Operand)}{z:List AV}{ps:List (Nat × aI)}
  (ho:o.op=.buildSlice t len parts) (hu:P.underlying t=some (.slice e)) (hs:fe P e=some sz) (hz:gG P e=some z) (hp:mP nt parts.toList=some ps)
  (IK:len*sz<=16777216) (VB:z.length=sz) (DF:0<sz) (gI:dG E=true)
  (he:cC sz (List.replicate len (z.map AV.drop)) (ps.map fun p=>(p.1,(p.2.eval G s.T).drop))=some E) (hd:∀ k,o.dst=some k->k<nt) :
  ∃ v' a8 w',xr P a o w v' w'/\Out G base nt L gh w a s o.dst (.sref s.H.length 0 E.length sz) (s.iw ⟨s.H++[.box bz E.flatten],s.H.length⟩) v' a8 w':=by
 obtain⟨C',dI,dj,G5⟩:=BK (P:=P) hW hF hu hs hz hp IK VB DF he;have oU:=fy.alloc w (.cells C' e);have FF:=gz hW oU;have st:Step (jY s.H.length) s.H.length gh w (gh.bE w.heap.size s.H.length) (w.alloc (.cells C' e)):=FF.mono (fun _ h=>h.elim)
 have hρ:(gh.bE w.heap.size s.H.length).ρ s.H.length=w.heap.size:=by simp[Gh.bE]
 have xN:=kO E (fun r hm=>by obtain⟨k,hk⟩:=axu hm;exact dj.2.1 k r hk)
 have hB:iL (gh.bE w.heap.size s.H.length) (s.H.length+1) (w.alloc (.cells C' e)) ((gh.bE w.heap.size s.H.length).ρ s.H.length) (.hb s.H.length) (fun j=>.hs s.H.length j) E.flatten:=by
  rw[hρ];refine⟨by simp[Gh.bE,Gh.alloc],?_,C',e,oU.new,by rw[xN,dj.1];exact Nat.le_refl _,fun j v x hv hx=>?_⟩
  ·rintro o (ho|⟨_,ho⟩)
   ·have:=hW.qj _ o ho;omega
   ·exact ho
  ·obtain⟨v',o9,hp⟩:=vJ dj hx
   rw[o9] at hv;injection hv with hv
   subst hv;exact⟨hp.fJ,.inl (.plain _ _ (hp.mono st.S st.cell st.mp))⟩
 have hr:E.flatten.all (aV s.H.length)=true:=aw8.2 fun x hx=>oa (rp gI hx) _
 have n9:=hW.arr FF (H':=s.H) rfl (fun loc o h=>.inl ⟨h,id,fun _=>id⟩) (fun b o h=>h.elim id (fun h=>h.2.elim)) (fun b hb=>by
  rw[oU.size];have iG:(if b=w.heap.size then bF.hb s.H.length else gh.κ b)≠.none:=hb
  split at iG
  ·have:=hW.size;omega
  ·have:=hW.ru b iG;omega) hB hr
 refine⟨.slice (some ⟨w.heap.size,0,none⟩) len len,gh.bE w.heap.size s.H.length,w.alloc (.cells C' e),.inl ?_,?_⟩
 ·have:(parts.map fun x=>(x.1,a.eval x.2))=parts.map fun p=>(p.1,a.eval p.2):=rfl
  simp[execOp,ho,dI]
 ·have:=Out.arr (lo:=s.H.length) (k:=E.length) (cap:=len) (z:=sz) hF hd st (fun b hb=>(kY hW oU).out b hb) rfl n9 (Nat.le_of_eq G5) ⟨e,by rw[hρ];exact⟨_,(0,0),oU.new,by rw[dj.1,G5,axC]⟩⟩
  grind
theorem Ux(hW:aY G base s.H gh w)(hF:FR L nt gh w a s){t:TypeId}{i:TypeInfo}{zv:Value}{zero:List AV}
  (ho:o.op=.makeSlice t x y) (Yk:Jm x y=true) (ht:P.underlying t=some (.slice e)) (hi:P.info? e=some i) (hz:i.zero=some zv) (hzc:dX zv.cells.toList=some zero) (hzs:zv.cells.size=i.size) (DF:0<i.size)
  (jf:au nt x=some yx) (he:Cp s i.size i.bytes (zero.map AV.drop) (yx.eval G s.T)=some (z,s')) (hd:∀ k,o.dst=some k->k<nt) :
  ∃ v' a8 w',xr P a o w v' w'/\Out G base nt L gh w a s o.dst z (s'.getD s) v' a8 w':=by
 simp only[Cp,oX] at he;obtain⟨k,hk,h0,rfl,rfl⟩:=he;simp only[aw4,axv] at h0;obtain⟨JF,kG⟩:=h0;obtain⟨kd,IG⟩:=mN hW hF jf hk;have hyx:a.eval y=a.eval x:=by
  cases x<;>cases y<;>simp only[Jm] at Yk<;>try (cases Yk;done)
  simp_all
 have dI:=run_make (P:=P) w t e i zv ht hi hz kd kd (k:Int) (k:Int) af af (by
  have:(i.bytes:Int)*k=((k*i.bytes:Nat):Int):=by rw[azS];simp
  rw[this];omega) af
 have oU:fy w (w.alloc (.cells (madeCells zv.cells (k*i.size)) e)) (.cells (madeCells zv.cells (k*i.size)) e):=.alloc w _;have FF:=gz hW oU;have st:Step (jY s.H.length) s.H.length gh w (gh.bE w.heap.size s.H.length) (w.alloc (.cells (madeCells zv.cells (k*i.size)) e)):=FF.mono (fun _ h=>h.elim)
 have hρ:(gh.bE w.heap.size s.H.length).ρ s.H.length=w.heap.size:=by simp[Gh.bE]
 obtain⟨VB,R0⟩:=lT (gh:=gh) (n:=s.H.length) (w:=w) hzc;have alh:zero.length=i.size:=by rw[<- hzs];simpa using VB.symm
 have ada:∀ r∈List.replicate k (zero.map AV.drop),r.length=i.size:=fun r hr=>by rw[azu hr];simpa using alh
 have xN:(List.replicate k (zero.map AV.drop)).flatten.length=k*i.size:=by rw[kO _ ada];simp
 have gI:∀ x,x∈(List.replicate k (zero.map AV.drop)).flatten->x.plain=true:=by
  intro x hx;obtain⟨r,hr,hx⟩:=ay2.1 hx
  grind [pO]
 have hB:iL (gh.bE w.heap.size s.H.length) (s.H.length+1) (w.alloc (.cells (madeCells zv.cells (k*i.size)) e)) ((gh.bE w.heap.size s.H.length).ρ s.H.length) (.hb s.H.length) (fun j=>.hs s.H.length j) (List.replicate k (zero.map AV.drop)).flatten:=by
  rw[hρ];refine⟨by simp[Gh.bE,Gh.alloc],?_,_,e,oU.new,by rw[xN,size_madeCells];exact Nat.le_refl _,fun j v x hv hx=>?_⟩
  ·rintro o (ho|⟨_,ho⟩)
   ·have:=hW.qj _ o ho;omega
   ·exact ho
  ·obtain⟨m,q,r,h1,h2,rfl⟩:=Ct _ j x ada hx
   have hr:=azu (axc h1);subst hr;have hq:q<i.size:=by rw[<- alh];simpa using (aw5.1 h2).1
   simp only[List.getElem?_map,aw0] at h2;obtain⟨y,hy,rfl⟩:=h2;have uY:=(axb.1 hv).1;rw[size_madeCells] at uY;simp only[madeCells,Array.getElem?_map,Array.getElem?_range,if_pos uY,axa,aw2] at hv;have NA:(m*i.size+q) % zv.cells.size=q:=by rw[hzs,azS,Nat.mul_add_mod,Nat.mod_eq_of_lt hq]
   rw[NA] at hv;have hqz:q<zv.cells.size:=af;have hc:=axj hqz;have S9:v=zv.cells[q]:=by rw[<- hv];exact getElem!_pos zv.cells q hqz
   subst S9;obtain⟨k1,k2⟩:=R0 q _ y (by rw[axP];exact hc) hy
   exact⟨k2,.inl ((k1.dropped).mono st (Nat.le_succ _))⟩
 have hr:(List.replicate k (zero.map AV.drop)).flatten.all (aV s.H.length)=true:=aw8.2 fun x hx=>oa (gI x hx) _
 have n9:=hW.arr FF (H':=s.H) rfl (fun loc o h=>.inl ⟨h,id,fun _=>id⟩) (fun b o h=>h.elim id (fun h=>h.2.elim)) (fun b hb=>by
  rw[oU.size];have iG:(if b=w.heap.size then bF.hb s.H.length else gh.κ b)≠.none:=hb
  split at iG
  ·have:=hW.size;omega
  ·have:=hW.ru b iG;omega) hB hr
 refine⟨.slice (some ⟨w.heap.size,0,none⟩) k k,gh.bE w.heap.size s.H.length,w.alloc (.cells (madeCells zv.cells (k*i.size)) e),.inl ?_,?_⟩
 ·have e1:(k:Int).toNat=k:=ae
  rw[e1] at dI;simp only[execOp,ho,hyx,IG];simp[dI]
 ·have:=Out.arr (lo:=s.H.length) (k:=k) (cap:=k) (z:=i.size) hF hd st (fun b hb=>(kY hW oU).out b hb) rfl n9 (Nat.le_refl _) ⟨e,by rw[hρ];exact⟨_,(0,0),oU.new,by rw[size_madeCells,axC]⟩⟩
  rw[hρ] at this;exact this
end
end
section
section
variable {P:Program}{G:Nat->List AV}{base nt:Nat}{L:List Nat}{gh oK:Gh}{w w' : World}{a:Act}{s:AS}{H:aa}
def Zb(hW:aY G base s.H gh w)(hF:FR L nt gh w a s){op:BinOp}{t:TypeId}{neg b:Bool}
  (ho:o.op=.binOp op t x y u) (hc:au nt x=some ix) (hn:Ob P op t y=some neg) (he:WA (ix.eval G s.T)=some b) :
  ∃ v,(execOp a.eval o).run P w=.ok (.value v) w/\pn gh s.H.length nt w s.T s.gen (gv a) v (.bool (neg != b)):=by
 unfold Ob at hn;split at hn
 ·rename_i e hu
  have hx:∃ ad n c,a.eval x=.slice ad n c/\ad.isNone=b:=by
   generalize hX:ix.eval G s.T=X at he;unfold WA at he;split at he
   ·injection he with he
    subst he;have hv:=cO hW hF hc hX rfl;generalize a.eval x=V at hv;cases hv with
    | plain _ _ h=>cases h;exact⟨_,_,_,rfl,rfl⟩
   ·injection he with he
    subst he;rename_i r es own;have hp:=(cO hW hF hc hX rfl).jx;generalize a.eval x=V at hp;cases hp with
    | slice b of n cap sz _ f hn kQ bQ cZ dh=>exact⟨_,_,_,rfl,rfl⟩
   ·cases he
  obtain⟨ad,n,c,hA,hb⟩:=hx;have hg:(eqGuard op t x (.const (.slice none 0 0)) (.slice ad n c) (.slice none 0 0)).run P w=.ok () w:=fR (by intro c;simp) (.inl ae)
  split at hn
  ·injection hn with hn
   subst hn;have hr:=Lib.run_eql_slice_nil w t e ad n c 0 0 hu;refine⟨.bool ad.isNone,?_,.dw (.plain _ _ ?_)⟩
   ·simp only[execOp,ho,hA,show a.eval (.const (.slice none 0 0))=.slice none 0 0 from rfl,Sem.run_bind,hg,hr,Result.andThen_ok,Sem.run_pure]
   ·rw[hb];cases b<;>exact .bool _
  ·injection hn with hn
   subst hn;have hr:=run_neq_slice_nil_any w t e ad n c 0 0 hu;refine⟨.bool (!ad.isNone),?_,.dw (.plain _ _ ?_)⟩
   ·simp only[execOp,ho,hA,show a.eval (.const (.slice none 0 0))=.slice none 0 0 from rfl,Sem.run_bind,hg,hr,Result.andThen_ok,Sem.run_pure]
   ·rw[hb];cases b<;>exact .bool _
  ·cases hn
 ·cases hn
def Y4(hW:aY G base s.H gh w)(hF:FR L nt gh w a s){t:TypeId}{y:aI}(ho:o.op=.box t x)(hc:au nt x=some y)(iz:(y.eval G s.T).drop.cells=some cs)
  (hd:∀ k,o.dst=some k->k<nt) :
  ∃ v' a8 w',xr P a o w v' w'/\Out G base nt L gh w a s o.dst (.ref s.H.length 0) (s.iw ⟨s.H++[.bR (cs.map AV.drop)],s.H.length⟩) v' a8 w':=by
 have bQ:=(sj hW hF hc cs iz).dropped;have hp:fy w (w.alloc (.cells (a.eval x).cells t)) (.cells (a.eval x).cells t):=.alloc w _;have st:=gz hW hp;have hρ:(gh.bE w.heap.size s.H.length).ρ s.H.length=w.heap.size:=by simp[Gh.bE]
 have hB:iL (gh.bE w.heap.size s.H.length) (s.H.length+1) (w.alloc (.cells (a.eval x).cells t)) w.heap.size (.hb s.H.length) (fun j=>.hs s.H.length j) (cs.map AV.drop):=by
  refine⟨by simp[Gh.bE,Gh.alloc],?_,_,t,hp.new,Nat.le_of_eq bQ.1.symm,fun j v x hv hx=>?_⟩
  ·rintro o (ho|⟨_,ho⟩)
   ·have:=hW.qj _ o ho;omega
   ·exact ho
  ·obtain⟨h1,h2⟩:=bQ.2 j v x hv hx
   exact⟨h2,.inl (h1.mono st (Nat.le_succ _))⟩
 have hv:VR (gh.bE w.heap.size s.H.length) (s.H++[bG.bR (cs.map AV.drop)]).length (w.alloc (.cells (a.eval x).cells t)) (.pointer (some ⟨w.heap.size,0,none⟩)) (.ref s.H.length 0):=by
  have:=VR.ref (gh:=gh.bE w.heap.size s.H.length) (w:=w.alloc (.cells (a.eval x).cells t)) (n:=(s.H++[bG.bR (cs.map AV.drop)]).length) s.H.length 0 ae
  rw[hρ] at this;exact this
 refine⟨_,_,_,.inl ?_,⟨hW.Fi hp (fun _ _ h=>by cases h) hB,hF.put st (fun i=>⟨id,id,fun _=>id⟩) ae o.dst hd (.dw hv),kY hW hp⟩⟩
 simp[execOp,ho,Instr.box,newVar,newRow]
def Rk(hW:aY G base s.H gh w)(hF:FR L nt gh w a s){t:TypeId}{z:List AV}(ho:o.op=.alloc t){kp:Bool}(hz:(gG P t).map (fun z=>cond kp (z.map oW) z)=some z)
  (hd:∀ k,o.dst=some k->k<nt) :
  ∃ v' a8 w',xr P a o w v' w'/\Out G base nt L gh w a s o.dst (.ref s.H.length 0) (s.iw ⟨s.H++[.bR (z.map AV.drop)],s.H.length⟩) v' a8 w':=by
 obtain⟨i,zv,hi,R0,ak1⟩:=sI (gh:=gh) (n:=s.H.length) (w:=w) hz;have bQ:=ak1.dropped;have hp:fy w (w.alloc (.cells zv.cells t)) (.cells zv.cells t):=.alloc w _;have st:=gz hW hp;have hρ:(gh.bE w.heap.size s.H.length).ρ s.H.length=w.heap.size:=by simp[Gh.bE]
 have hB:iL (gh.bE w.heap.size s.H.length) (s.H.length+1) (w.alloc (.cells zv.cells t)) w.heap.size (.hb s.H.length) (fun j=>.hs s.H.length j) (z.map AV.drop):=by
  refine⟨by simp[Gh.bE,Gh.alloc],?_,_,t,hp.new,Nat.le_of_eq bQ.1.symm,fun j v x hv hx=>?_⟩
  ·rintro o (ho|⟨_,ho⟩)
   ·have:=hW.qj _ o ho;omega
   ·exact ho
  ·obtain⟨h1,h2⟩:=bQ.2 j v x hv hx
   exact⟨h2,.inl (h1.mono st (Nat.le_succ _))⟩
 have hv:VR (gh.bE w.heap.size s.H.length) (s.H++[bG.bR (z.map AV.drop)]).length (w.alloc (.cells zv.cells t)) (.pointer (some ⟨w.heap.size,0,none⟩)) (.ref s.H.length 0):=by
  have:=VR.ref (gh:=gh.bE w.heap.size s.H.length) (w:=w.alloc (.cells zv.cells t)) (n:=(s.H++[bG.bR (z.map AV.drop)]).length) s.H.length 0 ae
  rw[hρ] at this;exact this
 refine⟨_,_,_,.inl ?_,⟨hW.Fi hp (fun _ _ h=>by cases h) hB,hF.put st (fun i=>⟨id,id,fun _=>id⟩) ae o.dst hd (.dw hv),kY hW hp⟩⟩
 simp[execOp,ho,A1 hi R0]
def xd{c:Call}{t:TypeId}(ho:o.op=.call c)(jG:c.callee=.builtin .copy)(fL:c.args.toList=[x,y])(nx:c.argTypes.toList=[t,u])
  (dI:(Builtin.copy_ #[t,u] o.type #[a.eval x,a.eval y]).run P w=.ok v w'):(execOp a.eval o).run P w=.ok (.value v) w':=by
 have e1:c.args=#[x,y]:=by apply ay0;simpa using fL
 have e2:c.argTypes=#[t,u]:=by apply ay0;simpa using nx
 unfold execOp;simp only[ho,resolve,jG,e1,e2,invoke,builtin,Sem.run_bind,Sem.run_pure,Result.andThen_ok,ay1,axe,axB,dI]
theorem L0{j':Nat}(h:(List.range k)[j]?=some j'):j<k/\j'=j:=by
 grind
theorem T8{n:Nat}(h:PR gh.S w V (.slice f false))(hh:fZ 1 f=true)(hk:k<=f.length) :
  ∃ (ad:Option Addr) (ln cp:Nat) (Ch:List Value),V=.slice ad ln cp/\ln=f.length/\Ch.length=k/\(0<k->∃ q,ad=some q/\∀ j v,Ch[j]?=some v->w.cell? (q.add j)=some v)/\(∀ r∈f.take k,r.length=1) /\
   ∀ (j:Nat) (u:Value) (x:AV),Ch[j]?=some u->((f.take k).flatten)[j]?=some x->u.oneCell'=true/\PR gh.S w u x:=by
 cases h with
 | dr =>
  simp_all
 | slice b of ln cap sz _ g hn kQ bQ cZ dh =>
  have j7:f≠[]->sz=1:=fun da=>DB hh bQ da
  have amZ:∀ (i:Nat) (r:List AV),f[i]?=some r->r.length=1:=fun i r hi=>by
   grind
  have vat:∀ j,j<k->∃ r x,f[j]?=some r/\r[0]?=some x:=fun j hj=>by
   have hr:=aw3 (show j<f.length by omega)
   exact⟨_,_,hr,aw3 (by rw[amZ _ _ hr];exact Nat.one_pos)⟩
  have dj:∀ r∈f.take k,r.length=1:=fun r hm=>by
   obtain⟨i,hi⟩:=axu (axV hm);exact amZ i r hi
  refine⟨some ⟨b,of,none⟩,ln,cap,(List.range k).map fun j=>g j 0,rfl,hn.symm,ae,fun _=>⟨_,rfl,fun j v hv=>?_⟩,dj,fun j u x hu hx=>?_⟩
  ·grind [L0,addr_add]
  ·simp only[List.getElem?_map,aw0] at hu
   obtain⟨j',B4,rfl⟩:=hu;obtain⟨aP,rfl⟩:=L0 B4;obtain⟨i,q,r,e1,e2,e3⟩:=Ct (f.take k) _ x dj hx;have hq:q=0:=by
    have:=(aw5.1 e2).1
    rw[dj r (axc e1)] at this;omega
   subst hq;rw[azn,axZ] at e3;subst e3;have e1' : f[j']?=some r:=by
    rw[List.getElem?_take,if_pos aP] at e1;exact e1
   exact⟨(cZ _ 0 r x e1' e2).2.2,dh _ 0 r x e1' e2⟩
def Ut(hW:aY G base s.H gh w)(hF:FR L nt gh w a s){c:Call}{t:TypeId}
  (ho:o.op=.call c) (jG:c.callee=.builtin .copy) (fL:c.args.toList=[x,y]) (nx:c.argTypes.toList=[t,u]) (hu:P.underlying t=some (.slice e)) (hs:fe P e=some 1)
  (jf:au nt x=some yx) (FX:au nt y=some yy) (he:yP s (yx.addr G s.T) (yy.eval G s.T)=some (z,s')) (hd:∀ k,o.dst=some k->k<nt) :
  ∃ v' a8 w',xr P a o w v' w'/\Out G base nt L gh w a s o.dst z (s'.getD s) v' a8 w':=by
 have j7:(P.info? e).map (·.size)=some 1:=hs;have hm:=arg_val hW hF jf;unfold yP at he;split at he
 ·
  rename_i l o0 n zz f own hX hY;rw[hX] at hm;obtain⟨aP,cap,hk,_,hA⟩:=VR.kS (hm:VR gh s.H.length w (a.eval x) (.sref l o0 n zz));have hp:=(cO hW hF FX hY rfl).jx;split at he
  ·rename_i cs hH
   obtain⟨h0,iX⟩:=ay he;clear he;simp only[aw2,aw6] at iX;obtain⟨rfl,rfl⟩:=iX;simp only[aw4,im,aw',axv] at h0;obtain⟨⟨⟨rfl,hh⟩,gI⟩,gH⟩:=h0;obtain⟨hκ,hS,C,ty,hb,hC,iz⟩:=(hW.more l _ hH:iL gh s.H.length w (gh.ρ l) (.hb l) (fun j=>.hs l j) cs)
   have Gf:Nat.min f.length n<=f.length:=Nat.min_le_left _ _;have RL:Nat.min f.length n<=n:=Nat.min_le_right _ _;obtain⟨ad,ln,cp,Ch,hV,hln,Yj,hq,ac',dh⟩:=T8 (n:=0) hp hh Gf;generalize Nv:Nat.min f.length n=k at *;have gV:∀ u∈Ch,u.oneCell'=true:=by
    intro u hu;obtain⟨j,hj⟩:=axu hu;have uY:j<k:=by rw[<- Yj];exact (aw5.1 hj).1
    have xN:(f.take k).flatten.length=k:=by rw[kO _ ac'];simp;omega
    exact (dh j u _ hj (aw3 (by rw[xN];exact uY))).1
   have U9:o0+Ch.toArray.size<=C.size:=df;have dI:(Builtin.copy_ #[t,u] o.type #[a.eval x,a.eval y]).run P w=.ok (.int .i64 (k:Int)) (w.setRow (gh.ρ l) (fQ C o0 Ch.toArray)):=by
    rw[hA,hV]
    by_cases zZ:k=0
    ·have hv0:Ch=[]:=axm.1 af
     have Vt:fQ C o0 (#[]:Array Value)=C:=by simp[fQ]
     rw[hv0,Vt,setRow_self w _ C ty (0,0) hb];have:=run_copy_none (P:=P) w t u o.type e (some ⟨gh.ρ l,o0,none⟩) ad n cap ln cp hu j7 (by rw[hln,Nv];exact zZ)
     rw[this,zZ];rfl
    ·obtain⟨q,rfl,afP⟩:=hq af
     have:=run_copy_row (P:=P) w t u o.type e (gh.ρ l) o0 n cap q ln cp C ty Ch hu j7 hb (by rw[Yj,hln,Nv]) afP (cJ U9) gV
     rw[this];simp[fQ,Yj,goInt]
   have mS:∀ o,gh.S (gh.ρ l) o->(fQ C o0 Ch.toArray)[o]?=C[o]?:=fun o ho=>(hS o ho).elim
   have PH:=dF U9;have st:=nV hW hb PH mS s.H.length;have hE:=Fq hW hb PH mS (by rw[hκ];simp) (by rw[hκ];simp) s.H.length
   rw[hκ] at st;have dj:(f.take k).flatten.length=k:=by
    rw[kO _ ac'];simp;omega
   have hB:iL gh s.H.length (w.setRow (gh.ρ l) (fQ C o0 Ch.toArray)) (gh.ρ l) (.hb l) (fun j=>.hs l j) (putAt cs o0 (f.take k).flatten):=by
    refine⟨hκ,hS,_,ty,setRow_heap w _ C _ ty _ hb,by rw[PH,sn (by rw[dj];omega)];exact hC,fun j u x G3 B5=>?_⟩
    rw[k9 U9] at G3;rw[wi (by rw[dj];omega)] at B5
    simp only[aym,Yj] at G3;rw[dj] at B5;split at G3
    ·rename_i hc
     rw[if_pos hc] at B5;obtain⟨k1,k2⟩:=dh _ u x (cJ G3) B5;exact⟨k1,.inl (.plain _ _ (k2.mono st.S st.cell st.mp))⟩
    ·rename_i hc
     rw[if_neg hc] at B5;obtain⟨k1,k2⟩:=iz j u x G3 B5;exact⟨k1,k2.mono st (Nat.le_refl _) ae⟩
   have IB:aY G base (s.H.set l (.bR (putAt cs o0 (f.take k).flatten))) gh (w.setRow (gh.ρ l) (fQ C o0 Ch.toArray)) :=
    hW.CN st aP (by intro k hk;simp[hk]) (fun b o ho=>by simpa using hW.qj b o ho) (fun b hb=>by simpa using hW.ru b hb) (fun _ _ h=>by cases h) hB (fun _ _ _ h=>.inl h)
   refine⟨.int .i64 k,gh,_,.inl (xd ho jG fL nx dI),IB,?_,hE⟩;exact hF.put (H':=s.H.set l (.bR (putAt cs o0 (f.take k).flatten))) (lo':=cond (Nat.blt l s.lo) l s.lo) st (fun i=>⟨ae,ae,ae⟩) ae o.dst hd (.dw (.plain _ _ (.int _ _)))
  ·cases he
 ·
  rename_i own f avC hX hY;simp only[aw2,aw6] at he;obtain⟨rfl,rfl⟩:=he;rw[hX] at hm;have h1:∃ ad cp,a.eval x=.slice ad 0 cp:=by
   have hp:=VR.jx (hm:VR gh s.H.length w (a.eval x) (.slice [] false));generalize a.eval x=V at hp;cases hp with
   | dr=>exact⟨_,_,rfl⟩
   | slice b of n cap sz _ f hn _ _ _ _=>simp at hn;subst hn;exact⟨_,_,rfl⟩
  have h2:∃ ad n cp,a.eval y=.slice ad n cp:=by
   have hp:=(cO hW hF FX hY rfl).jx;generalize a.eval y=V at hp;cases hp with
   | dr=>exact⟨_,_,_,rfl⟩
   | slice b of n cap sz _ f hn _ _ _ _=>exact⟨_,_,_,rfl⟩
  obtain⟨ad,cp,h1⟩:=h1;obtain⟨ad',n',cp',h2⟩:=h2;have dI:=run_copy_none (P:=P) w t u o.type e ad ad' 0 cp n' cp' hu j7 (Nat.min_zero _);rw[<- h1,<- h2] at dI;refine⟨.int .i64 0,gh,w,.inl (xd ho jG fL nx dI),?_⟩;exact Out.pure hW hF hd (.dw (.plain _ _ (.int _ _)))
 ·cases he
end
end
section
section
variable {P:Program}{G:Nat->List AV}{base nt:Nat}{L:List Nat}{gh:Gh}{w w' : World}{a:Act}{s:AS}{H:aa}
def BH(h:isLocal locals d=true):∃ k,d=some k/\k∈locals:=by
 cases d with
 | none=>cases h
 | some k=>exact⟨k,rfl,by simpa [isLocal] using h⟩
theorem xT{l:List Nat}(h:lQ l d=true):∃ k,d=some k/\k∈l:=by
 cases d with
 | none=>cases h
 | some k=>exact⟨k,rfl,by simpa [lQ] using h⟩
def Sf{k:sO}{e:List (List AV)}{t:TypeId}{ao:Option Addr}(hV:V=.slice ao e.length cap)(ht:match k with|.str=>P.underlying t=some .string|.sl=>∃ e,P.underlying t=some (.slice e)|.arr m=>∃ e,P.underlying t=some (.array m e))
  (he:ny k (.slice e false)=some z) (ty:TypeId) {n:Nat} : ∃ v,(Builtin.len_ #[t] ty #[V]).run P w=.ok v w/\VR gh n w v z:=by
 subst hV;cases k<;>simp only[ny,aw2,reduceCtorEq] at he<;>subst he
 ·obtain⟨e',ht⟩:=ht
  exact⟨.int .i64 e.length,by simp[Builtin.len_,run_underlying ht,goInt],.plain _ _ (.int _ _)⟩
 ·obtain⟨e',ht⟩:=ht
  exact⟨.int .i64 _,by simp[Builtin.len_,run_underlying ht,goInt],.plain _ _ (.int _ _)⟩
def acG(hW:aY G base s.H gh w)(hF:FR L nt gh w a s){c:Call}{iy:aI}{mx:Bool}(ho:o.op=.call c)(jG:c.callee=.builtin (cond mx .max .min))(fL:c.args.toList=[x,y])
  (hx:au nt x=some ix) (hy:au nt y=some iy) (he:agR mx (ix.eval G s.T) (iy.eval G s.T)=some z):∃ v,(execOp a.eval o).run P w=.ok (.value v) w/\pn gh s.H.length nt w s.T s.gen (gv a) v z:=by
 generalize hX:ix.eval G s.T=X at he;generalize hY:iy.eval G s.T=Y at he;unfold agR at he;split at he
 ·obtain⟨h0,he⟩:=ay he
  injection he with he
  subst he;have h1:=(cO hW hF hx hX rfl).ko;have h2:=(cO hW hF hy hY rfl).ko;have e1:c.args=#[x,y]:=by apply ay0;simpa using fL
  cases mx
  ·refine⟨_,?_,.dw (.plain _ _ (.int _ _))⟩
   unfold execOp;simp only[ho,resolve,jG,e1,invoke,builtin,Sem.run_bind,Sem.run_pure,Result.andThen_ok,ay1,axe,axB,cond_false,h1,h2,Builtin.min_,Builtin.min2,List.foldlM_cons,List.foldlM_nil]
  ·refine⟨_,?_,.dw (.plain _ _ (.int _ _))⟩
   unfold execOp;simp only[ho,resolve,jG,e1,invoke,builtin,Sem.run_bind,Sem.run_pure,Result.andThen_ok,ay1,axe,axB,cond_true,h1,h2,Builtin.max_,Builtin.max2,List.foldlM_cons,List.foldlM_nil]
 ·cases he
def aam{t:TypeId}(ht:P.underlying t=some (.array m e))(ty:TypeId){n:Nat} : ∃ v,(Builtin.len_ #[t] ty #[V]).run P w=.ok v w/\VR gh n w v (.int .i64 m) :=
 ⟨.int .i64 _,by simp[Builtin.len_,run_underlying ht,goInt],.plain _ _ (.int _ _)⟩
def Nd(hW:aY G base s.H gh w)(hF:FR L nt gh w a s){c:Call}{t:TypeId}{y:aI}{k:sO}
  (ho:o.op=.call c) (jG:c.callee=.builtin .len) (fL:c.args.toList=[x]) (nx:c.argTypes.toList=[t]) (hc:au nt x=some y)
  (ht:match k with|.str=>P.underlying t=some .string|.sl=>∃ e,P.underlying t=some (.slice e)|.arr m=>∃ e,P.underlying t=some (.array m e))
  (he:br G cf s (.len k y)=some (z,s')):s'=none/\∃ v,(execOp a.eval o).run P w=.ok (.value v) w/\pn gh s.H.length nt w s.T s.gen (gv a) v z:=by
 simp only[br] at he;have fin:∀ {zz:AV},(∃ v,(Builtin.len_ #[t] o.type #[a.eval x]).run P w=.ok v w/\VR gh s.H.length w v zz)->∃ v,(execOp a.eval o).run P w=.ok (.value v) w/\pn gh s.H.length nt w s.T s.gen (gv a) v zz :=
  fun ⟨v,h1,h2⟩=>⟨v,Jk ho jG fL nx h1,.dw h2⟩
 split at he
 ·rename_i tt g hy
  split at he
  ·rename_i g' e hT
   obtain⟨h0,he⟩:=ay he;have KZ:g=g':=by simpa [im] using h0
   simp only[aw0,aw6] at he;obtain⟨z',hz,rfl,rfl⟩:=he;refine⟨rfl,fin ?_⟩;have hv:=arg_val hW hF hc;rw[hy] at hv;obtain⟨hb,_,hr⟩:=(hv:_/\_/\_);have ug:=hr (by rw[hT,<- KZ];rfl)
   obtain⟨ad,cap,hV,_⟩:=qm hF hb hT;exact Sf (ug.trans hV) ht hz o.type
  ·cases he
 ·simp only[aw0,aw6] at he
  obtain⟨z',hz,rfl,rfl⟩:=he;refine⟨rfl,fin ?_⟩;cases k with
  | arr m =>
   obtain⟨e,ht⟩:=ht;simp only[ny,aw2] at hz;subst hz;exact aam ht o.type
  | _ =>
   have KY:aO (y.addr G s.T)=true:=by
    generalize y.addr G s.T=Y at hz
    cases Y<;>first|rfl|(simp[ny] at hz)
   exact Y7 (qG hW hF hc rfl KY) ht hz o.type
theorem Dl(uq:jc P G cf)(hW:aY G base s.H gh w)(hF:FR L nt gh w a s){io:oH}(bV:dm P dB locals muts nt o.dst o.op=some io)
  (Ms:∀ x,x∈locals->x∈L) (Mt:∀ x,x∈muts->x∈L) {z:AV} {s' : Option AS} (he:br G cf s io=some (z,s')) (hd:∀ k,o.dst=some k->k<nt) (K:Act->World->Prop) (Q:Exit->Act->World->Prop)
  (hK:∀ v' a8 w',Out G base nt L gh w a s o.dst z (s'.getD s) v' a8 w'->K (a.put o.dst v') w'):o.wp P a w K Q:=by
 have fin:s'=none->(∃ v,(execOp a.eval o).run P w=.ok (.value v) w/\pn gh s.H.length nt w s.T s.gen (gv a) v z)->o.wp P a w K Q:=by
  rintro rfl ⟨v,h1,h2⟩
  exact xr.wp (.inl h1) (hK v gh w (Out.pure hW hF hd h2))
 have tw:(∃ v' a8 w',xr P a o w v' w'/\Out G base nt L gh w a s o.dst z (s'.getD s) v' a8 w')->o.wp P a w K Q:=by
  grind [xr.wp]
 have auF:∀ x y,(o.op=.move x\/o.op=.assign x)->au nt x=some y->io=.mov (lQ dB o.dst) (lQ muts o.dst) (cond (lQ muts o.dst) (I9 y) y)->o.wp P a w K Q:=by
  intro x y ho hc hio;subst hio;simp only[br] at he
  by_cases RQ:∃ v,y=.yn v/\lQ muts o.dst=true
  ·obtain⟨v,rfl,hm⟩:=RQ
   rw[hm] at he;simp only[cond_true,I9,rO,aw2,aw6,aI.eval] at he;obtain⟨rfl,rfl⟩:=he;refine fin rfl ⟨a.eval x,?_,.dw ?_⟩
   ·rcases ho with ho|ho<;>simp[execOp,ho]
   ·cases x with
    | tmp k =>
     simp only[au] at hc
     grind
    | const u =>
     simp only[au,aw0] at hc;obtain⟨zz,hz,h⟩:=hc;injection h with h
     subst h;exact Ij hz
    | global g=>simp[au] at hc
    | func f=>simp[au] at hc
  have PI:cond (lQ muts o.dst) (I9 y) y=y:=by
   cases hm:lQ muts o.dst with
   | false=>rfl
   | true=>cases y<;>first|rfl|exact absurd ⟨_,rfl,hm⟩ RQ
  rw[PI] at he;cases s' with
  | none =>
   refine fin rfl ⟨a.eval x,?_,aeK hW hF hc he⟩
   rcases ho with ho|ho<;>simp[execOp,ho]
  | some s' =>
   refine tw (It hW hF ho hc he hd (fun h k hk=>?_))
   grind [xT]
 cases dH:o.op with
 | move x =>
  rw[dH] at bV;simp only[dm,aw0] at bV
  grind
 | assign x =>
  rw[dH] at bV;simp only[dm,aw0] at bV
  grind
 | pick c x y =>
  rw[dH] at bV;simp only[dm,aw1,aw0] at bV;obtain⟨ic,hc,ix,hx,iy,hy,rfl⟩:=bV;simp only[br] at he;split at he
  ·rename_i t ht
   simp only[aw2,aw6] at he;obtain⟨rfl,rfl⟩:=he;exact fin rfl (Zc hW hF dH hc hx hy ht)
  ·cases he
 | alloc t =>
  rw[dH] at bV;simp only[dm,aw1] at bV;obtain⟨zz,hz,bV⟩:=bV;cases hl:isLocal locals o.dst with
  | true =>
   rw[hl] at bV;simp only[cond_true,aw2] at bV;subst bV;simp only[br,aw2,aw6] at he;obtain⟨rfl,rfl⟩:=he;obtain⟨k,hk,Gf⟩:=BH hl;exact tw (Rj hW hF dH hz (fun k' ui=>⟨hd k' ui,by rw[hk] at ui;injection ui with e;subst e;exact Ms _ Gf⟩))
  | false =>
   rw[hl] at bV;simp only[cond_false,aw2] at bV;subst bV;rcases aye (KG 500000 muts o.dst) with hm|hm
   ·rw[hm] at he
    simp only[cond_true,br,oX] at he;obtain⟨cs,iz,h0,rfl,rfl⟩:=he;have Yl:cs=zz:=(axS iz).symm;subst Yl;exact tw (Rk hW hF dH hz hd)
   ·rw[hm] at he
    simp only[cond_false,br,aw2,aw6] at he;obtain⟨rfl,rfl⟩:=he;exact tw (Ri hW hF dH hz hd)
 | box t x =>
  rw[dH] at bV;simp only[dm,aw0] at bV;obtain⟨y,hc,rfl⟩:=bV;cases hl:isLocal locals o.dst with
  | true =>
   rw[hl] at he;simp only[cond_true,br,aw0,aw6] at he;obtain⟨cs,iz,rfl,rfl⟩:=he;obtain⟨k,hk,Gf⟩:=BH hl;exact tw (Y3 hW hF dH hc iz (fun k' ui=>⟨hd k' ui,by rw[hk] at ui;injection ui with e;subst e;exact Ms _ Gf⟩))
  | false =>
  rw[hl,cond_false] at he;rcases aye (KG 500000 muts o.dst) with hm|hm
  ·rw[hm] at he
   simp only[cond_true,br,oX] at he;obtain⟨cs,iz,h0,rfl,rfl⟩:=he;exact tw (Y4 hW hF dH hc iz hd)
  ·rw[hm] at he
   simp only[cond_false,br,oX] at he;obtain⟨cs,iz,h0,rfl,rfl⟩:=he;exact tw (aeI hW hF dH hc iz h0 hd)
 | build t parts =>
  rw[dH] at bV;simp only[dm,aw1] at bV;obtain⟨zz,hz,bV⟩:=bV;split at bV
  ·rename_i fs hu
   simp only[oX] at bV;obtain⟨h0,ps,hp,rfl⟩:=bV;simp only[br,aw0,aw6] at he;obtain⟨Z,hZ,rfl,rfl⟩:=he;exact fin rfl (BX hW hF dH hz hu hp (Option.isSome_iff_exists.1 h0) hZ)
  ·rename_i n e hu
   simp only[aw1,aw0] at bV;obtain⟨sz,hs,ps,hp,rfl⟩:=bV;simp only[br,aw0,aw6] at he;obtain⟨Z,hZ,rfl,rfl⟩:=he;exact fin rfl (Dn hW hF dH hz hu hs hp hZ)
  ·cases bV
 | buildSlice t len parts =>
  rw[dH] at bV;simp only[dm] at bV;split at bV
  ·rename_i e hu
   simp only[aw1] at bV;obtain⟨sz,hs,zz,hz,ps,hp,bV⟩:=bV;obtain⟨h0,bV⟩:=ay bV;injection bV with bV
   subst bV;simp only[aw4,axv,im,aw',axp] at h0;cases hl:isLocal locals o.dst with
   | true =>
    rw[hl] at he;simp only[cond_true,br,oX] at he;obtain⟨E,hE,ri,rfl,rfl⟩:=he;exact tw (Ky hW hF dH hu hs hz hp h0.1.1 h0.1.2 h0.2 ri hE hd)
   | false =>
   rw[hl] at he;simp only[cond_false,br,oX] at he;obtain⟨E,hE,ri,rfl,rfl⟩:=he;exact tw (Nf hW hF dH hu hs hz hp ri (fun h=>ax4 h) h0.1.1 h0.1.2 h0.2 hE hd)
  ·cases bV
 | load t x =>
  rw[dH] at bV;simp only[dm,aw1,aw0] at bV;obtain⟨y,hc,g,hg,sz,hs,rfl⟩:=bV;simp only[br] at he;cases s' with
  | none =>
   obtain⟨v,h1,h2⟩:=Y8 (P:=P) hW hF hc hg hs he;exact fin rfl ⟨v,by simp[execOp,dH,h1],h2⟩
  | some s'=>exact tw (Is hW hF dH hc hg hs he hd)
 | store t x y =>
  rw[dH] at bV;simp only[dm,aw1,aw0] at bV;obtain⟨ya,Py,yv,hcv,sz,hs,rfl⟩:=bV;simp only[br,aw0,aw6] at he;obtain⟨s1,he,rfl,rfl⟩:=he;exact tw (Uz hW hF dH Py hcv hs he hd)
 | nilCheck x =>
  rw[dH] at bV;simp only[dm,aw0] at bV;obtain⟨y,hc,rfl⟩:=bV;simp only[br,oX] at he;obtain⟨h0,rfl,rfl⟩:=he;exact fin rfl (Kz hW hF dH hc h0)
 | binOp op t x y u =>
  rw[dH] at bV;simp only[dm,aw1] at bV;obtain⟨ix,hx,iy,hy,bV⟩:=bV;split at bV
  ·rename_i neg hn
   injection bV with bV
   subst bV;simp only[br,aw0,aw6] at he;obtain⟨b,hb,rfl,rfl⟩:=he;exact fin rfl (Zb hW hF dH hx hn hb)
  ·injection bV with bV
   subst bV;simp only[br,aw0,aw6] at he;obtain⟨z',hz,rfl,rfl⟩:=he;exact fin rfl (aeH hW hF dH hx hy hz)
 | unOp op t x =>
  rw[dH] at bV;simp only[dm,aw0] at bV;obtain⟨y,hc,rfl⟩:=bV;simp only[br,aw0,aw6] at he;obtain⟨z',hz,rfl,rfl⟩:=he;exact fin rfl (ajN hW hF dH hc hz)
 | convert st dt x =>
  rw[dH] at bV;simp only[dm,aw1] at bV;obtain⟨y,hc,bV⟩:=bV;split at bV
  ·rename_i k' k h1 h2
   injection bV with bV
   subst bV;simp only[br,aw0,aw6] at he;obtain⟨z',hz,rfl,rfl⟩:=he;exact fin rfl (UA hW hF dH hc h1 h2 hz)
  ·rename_i h1 h2
   injection bV with bV
   subst bV;simp only[br,aw0,aw6] at he;obtain⟨z',hz,rfl,rfl⟩:=he;exact fin rfl (Ng hW hF dH hc h1 h2 hz)
  ·rename_i e h1 h2
   split at bV
   ·rename_i hE
    injection bV with bV
    subst bV;simp only[br,aw0,aw6] at he;obtain⟨z',hz,rfl,rfl⟩:=he;exact fin rfl (Kw hW hF dH hc h1 hE h2 hz)
   ·cases bV
  ·cases bV
 | makeFunc f first captured =>
  rw[dH] at bV;simp only[dm,aw1,aw0] at bV;obtain⟨fs,h1,cs,h2,rfl⟩:=bV;simp only[br,oX] at he;obtain⟨h0,rfl,rfl⟩:=he;simp only[aw4] at h0;exact fin rfl (Rn hW hF dH h1 h2 h0.1 h0.2)
 | slice t x lo hi mx =>
  rw[dH] at bV;simp only[dm,aw1] at bV;obtain⟨ix,hc,R1,h1,PO,h2,IN,h3,bV⟩:=bV;split at bV
  ·rename_i hu
   injection bV with bV
   subst bV;simp only[br,aw0,aw6] at he;obtain⟨z',hz,rfl,rfl⟩:=he;exact fin rfl (Iv hW hF dH hc h1 h2 h3 hu hz)
  ·rename_i e hu
   simp only[aw0] at bV;obtain⟨sz,hs,rfl⟩:=bV;simp only[br,aw0,aw6] at he;obtain⟨z',hz,rfl,rfl⟩:=he;exact fin rfl (KA hW hF dH hc h1 h2 h3 hu hs hz)
  ·rename_i n e hu
   simp only[aw1] at bV;obtain⟨sz,hs,bV⟩:=bV;obtain⟨h0,bV⟩:=ay bV;injection bV with bV
   subst bV;simp only[br,aw0,aw6] at he;obtain⟨z',hz,rfl,rfl⟩:=he;exact fin rfl (Iu hW hF dH hc h1 h2 h3 hu hs (by simpa [axp] using h0) hz)
  ·cases bV
 | fieldAddr t x f =>
  rw[dH] at bV;simp only[dm,aw1] at bV;obtain⟨ix,hc,bV⟩:=bV;split at bV
  ·rename_i fs hu
   simp only[aw1] at bV;obtain⟨q,hq,sz,hs,bV⟩:=bV;obtain⟨h0,bV⟩:=ay bV;injection bV with bV
   subst bV;simp only[br,oX] at he;obtain⟨hl,z',hz,rfl,rfl⟩:=he;exact fin rfl (Ir hW hF dH hc hu hq hs (by simpa [axp] using h0) hl hz)
  ·cases bV
 | indexAddr t x i =>
  rw[dH] at bV;simp only[dm,aw1] at bV;obtain⟨ix,hc,ii,hi,bV⟩:=bV;split at bV
  ·rename_i e hu
   simp only[aw0] at bV;obtain⟨sz,hs,rfl⟩:=bV;simp only[br] at he;split at he
   ·rename_i el own hy
    simp only[oX] at he;obtain⟨k,hk,r,hr,h0,rfl,rfl⟩:=he;exact fin rfl (Y6 hW hF dH hc hi hu hs hk hy hr (by simpa [im] using h0))
   ·rename_i l of m hy
    simp only[oX] at he;obtain⟨k,hk,h0,rfl,rfl⟩:=he;exact fin rfl (Rm hW hF dH hc hi hu hs hk hy (by simpa [axp] using h0))
   ·rename_i b g hy
    split at he
    ·rename_i g' el hT
     obtain⟨h0,he⟩:=ay he;have KZ:g=g':=by simpa [im] using h0
     simp only[oX] at he;obtain⟨k,hk,r,hr,h0,rfl,rfl⟩:=he;exact fin rfl (Uw hW hF dH hc hi hu hs hk hy (by rw[hT,KZ]) hr (by simpa [im] using h0))
    ·cases he
   ·cases he
  ·rename_i n e hu
   simp only[aw0] at bV;obtain⟨sz,hs,rfl⟩:=bV;simp only[br,aw1] at he;obtain⟨k,hk,he⟩:=he;obtain⟨h0,he⟩:=ay he;simp only[aw4,axp] at h0;simp only[aw0,aw6] at he;obtain⟨z',hz,rfl,rfl⟩:=he;exact fin rfl (Uv hW hF dH hc hi hu hs hk h0.1 h0.2 hz)
  ·cases bV
 | index t x i =>
  rw[dH] at bV;simp only[dm,aw1] at bV;obtain⟨ix,hc,ii,hi,bV⟩:=bV;split at bV
  ·rename_i hu
   injection bV with bV
   subst bV;simp only[br] at he;split at he
   ·rename_i l hz
    simp only[aw1,aw0,aw6] at he;obtain⟨k,hk,b,hb,rfl,rfl⟩:=he;exact fin rfl (Kx hW hF dH hc hi hu hk hz hb)
   ·cases he
  ·rename_i n e hu
   simp only[aw1,aw0] at bV;obtain⟨sz,hs,g,hg,rfl⟩:=bV;simp only[br,aw1] at he;obtain⟨k,hk,he⟩:=he;obtain⟨h0,he⟩:=ay he;split at he
   ·rename_i cs hz
    simp only[aw0,aw6] at he;obtain⟨z',hl,rfl,rfl⟩:=he;exact fin rfl (Uu hW hF dH hc hi hu hs hg hk (by simpa [axp] using h0) hz hl)
   ·cases he
  ·cases bV
 | extract x i =>
  rw[dH] at bV;simp only[dm,aw0] at bV;obtain⟨y,hc,rfl⟩:=bV;simp only[br] at he;split at he
  ·rename_i vs hz
   simp only[aw0,aw6] at he;obtain⟨z',Yl,rfl,rfl⟩:=he;exact fin rfl (Nc hW hF dH hc hz Yl)
  ·cases he
 | call c =>
  rw[dH] at bV;simp only[dm,yI] at bV;split at bV
  ·rename_i fx jG
   simp only[aw1,aw0] at bV;obtain⟨yf,jf,ys,FX,rfl⟩:=bV;simp only[br] at he;split at he
   ·rename_i f fs cs afn
    obtain⟨h0,he⟩:=ay he;simp only[aw0,aw6] at he;obtain⟨⟨r,ch⟩,hr,rfl,rfl⟩:=he;exact Y5 uq hW hF dH jG jf FX afn h0 hr hd K Q hK
   ·cases he
  ·rename_i jG
   split at bV
   ·rename_i x t fL nx
    simp only[aw1] at bV;obtain⟨y,hc,bV⟩:=bV;split at bV
    ·rename_i hu
     injection bV with bV
     subst bV;obtain⟨h1,h2⟩:=Nd (P:=P) hW hF dH jG fL nx hc (k:=.str) hu he;exact fin h1 h2
    ·rename_i e hu
     injection bV with bV
     subst bV;obtain⟨h1,h2⟩:=Nd (P:=P) hW hF dH jG fL nx hc (k:=.sl) ⟨_,hu⟩ he;exact fin h1 h2
    ·rename_i n e hu
     injection bV with bV
     subst bV;obtain⟨h1,h2⟩:=Nd (P:=P) hW hF dH jG fL nx hc (k:=.arr n) ⟨_,hu⟩ he;exact fin h1 h2
    ·cases bV
   ·cases bV
  ·rename_i jG
   split at bV
   ·rename_i x y t u fL nx
    simp only[aw1] at bV;obtain⟨yx,jf,yy,FX,bV⟩:=bV;have go:∀ e,P.underlying t=some (.slice e)->((∃ e',P.underlying u=some (.slice e'))\/P.underlying u=some .string) ->
      ((P.info? e).bind fun i=>cond (Nat.blt 0 i.size&&(i.zero.map fun z=>Nat.beq z.cells.size i.size).getD false) (some (cond (isLocal locals o.dst) (oH.appendO i.size i.bytes yx yy) (oH.append (Nat.beq e je) (lQ muts o.dst) i.size i.bytes yx yy))) none)=some io->o.wp P a w K Q:=by
     intro e ht hu bV;simp only[aw1] at bV;obtain⟨i,hi,bV⟩:=bV;obtain⟨h0,bV⟩:=ay bV;injection bV with bV
     subst bV;simp only[aw4,axp] at h0;obtain⟨h0,h1⟩:=h0;have hT:Bh P t e i.size i.bytes:=by
      cases hz:i.zero with
      | none=>rw[hz] at h1;cases h1
      | some zv=>rw[hz] at h1;exact⟨ht,⟨i,zv,hi,hz,rfl,rfl,by simpa [im] using h1⟩,h0⟩
     cases hob:isLocal locals o.dst with
     | true =>
      rw[hob] at he;simp only[cond_true,br] at he;exact tw (Nb hW hF dH jG fL nx hT hu jf FX he hd)
     | false =>
     rw[hob] at he;simp only[cond_false,br] at he;refine tw (Rl hW hF dH jG fL nx hT (fun h=>ax4 h) hu jf FX he hd (fun h k hk=>?_))
     obtain⟨k',h1,h2⟩:=xT h;rw[h1] at hk;injection hk with hk;subst hk
     exact Mt _ h2
    split at bV
    ·rename_i e e' ht hu
     exact go e ht (.inl ⟨_,hu⟩) bV
    ·rename_i e ht hu
     exact go e ht (.inr hu) bV
    ·cases bV
   ·cases bV
  ·rename_i jG
   split at bV
   ·rename_i x y t u fL nx
    simp only[aw1] at bV;obtain⟨ix,hx,iy,hy,bV⟩:=bV;split at bV
    ·rename_i e e' ht hu
     simp only[aw1] at bV;obtain⟨sz,hs,bV⟩:=bV;obtain⟨h0,bV⟩:=ay bV;injection bV with bV
     subst bV;simp only[im,aw'] at h0;subst h0;simp only[br] at he;exact tw (Ut hW hF dH jG fL nx ht hs hx hy he hd)
    ·cases bV
   ·cases bV
  ·rename_i jG
   split at bV
   ·rename_i x y fL
    simp only[aw1,aw0] at bV;obtain⟨ix,hx,iy,hy,rfl⟩:=bV;simp only[br,aw0,aw6] at he;obtain⟨z',hz,rfl,rfl⟩:=he;exact fin rfl (acG (mx:=true) hW hF dH jG fL hx hy hz)
   ·cases bV
  ·rename_i jG
   split at bV
   ·rename_i x y fL
    simp only[aw1,aw0] at bV;obtain⟨ix,hx,iy,hy,rfl⟩:=bV;simp only[br,aw0,aw6] at he;obtain⟨z',hz,rfl,rfl⟩:=he;exact fin rfl (acG (mx:=false) hW hF dH jG fL hx hy hz)
   ·cases bV
  ·injection bV with bV
   subst bV;simp only[br,aI.eval,yj,ayd] at he;cases he
  ·cases bV
 | makeSlice t x y =>
  rw[dH] at bV;simp only[dm,aw1] at bV;obtain⟨yx,jf,bV⟩:=bV;obtain⟨Yk,bV⟩:=ay bV;split at bV
  ·rename_i e ht
   simp only[aw1] at bV;obtain⟨i,hi,zv,hz,zero,hzc,bV⟩:=bV;obtain⟨h0,bV⟩:=ay bV;injection bV with bV
   subst bV;simp only[aw4,axp,im,aw'] at h0;simp only[br] at he;exact tw (Ux hW hF dH Yk ht hi hz hzc h0.2 h0.1 jf he hd)
  ·cases bV
 | makeMap t r =>
  rw[dH] at bV;cases r with
  | some r=>simp[dm] at bV
  | none =>
   simp only[dm,aw0] at bV;obtain⟨m,hm,rfl⟩:=bV;simp only[br,aw2,aw6] at he;obtain⟨rfl,rfl⟩:=he;exact tw (Uy hW hF dH hd _ _ _)
 | lookup t x i ok =>
  rw[dH] at bV;simp only[dm,aw1,aw0] at bV;obtain⟨ya,Py,yb,Zy,m,hm,rfl⟩:=bV;obtain⟨kt,et,z,hT⟩:=zC hm;simp only[br] at he;obtain⟨h1,h2⟩:=Y9 hW hF hT dH Py Zy he;exact fin h1 h2
 | mapUpdate t x i v =>
  rw[dH] at bV;simp only[dm,aw1,aw0] at bV;obtain⟨ya,Py,yb,Zy,yc,hcc,m,hm,rfl⟩:=bV;obtain⟨kt,et,z,hT⟩:=zC hm;simp only[br,aw0,aw6] at he;obtain⟨s1,he,rfl,rfl⟩:=he;exact tw (Pf hW hF hT (.inl dH) Py Zy hcc he hd)
 | insert t x i v =>
  rw[dH] at bV;simp only[dm,aw1,aw0] at bV;obtain⟨ya,Py,yb,Zy,yc,hcc,m,hm,rfl⟩:=bV;obtain⟨kt,et,z,hT⟩:=zC hm;simp only[br,aw0,aw6] at he;obtain⟨s1,he,rfl,rfl⟩:=he;exact tw (Pf hW hF hT (.inr dH) Py Zy hcc he hd)
 | range t x =>
  rw[dH] at bV;simp only[dm] at bV;obtain⟨h0,bV⟩:=ay bV;simp only[aw1,aw0] at bV;obtain⟨ya,Py,m,hm,rfl⟩:=bV;obtain⟨kt,et,z,hT⟩:=zC hm;obtain⟨k',h1,h2⟩:=xT h0;exact tw (aeL hW hF dH Py hT.ht he (fun k hk=>⟨hd k hk,by rw[h1] at hk;injection hk with hk;subst hk;exact Mt _ h2⟩))
 | next x b =>
  rw[dH] at bV;cases b with
  | true=>simp[dm] at bV
  | false =>
   simp only[dm,aw0] at bV;obtain⟨ya,Py,rfl⟩:=bV;simp[br] at he
 | entry x =>
  rw[dH] at bV;simp only[dm,aw0] at bV;obtain⟨ya,Py,rfl⟩:=bV;obtain⟨h1,h2⟩:=aeJ hW hF dH Py he;exact fin h1 h2
 | _=>rw[dH] at bV;simp[dm] at bV
end
end
section
structure iB (H0:aa) (s:AS):Prop where
 lo:s.lo<=H0.length
 len:H0.length<=s.H.length
 same:∀ l,l<s.lo->s.H[l]?=H0[l]?
def Ci(s:AS)(c:fw):Prop:=s.H.length<=c.heap.length/\∀ l,l<c.lo->c.heap[l]?=s.H[l]?
def iB.iw{s:AS}(h:iB H0 s){c:fw}(hc:Ci s c):iB H0 (s.iw c):=by
 have e:(s.iw c).lo=if c.lo<s.lo then c.lo else s.lo:=by
  simp only[AS.iw]
  simp_all
 have:=h.lo
 refine⟨?_,axx h.len hc.1,fun l hl=>?_⟩
 ·rw[e];split<;>omega
 ·rw[e] at hl
  have h1:l<c.lo/\l<s.lo:=by split at hl<;>omega
  exact (hc.2 l h1.1).trans (h.same l h1.2)
def iB.qT{s s':AS}(h:iB H0 s)(hH:s'.H=s.H)(hl:s'.lo=s.lo):iB H0 s' :=
 ⟨by rw[hl];exact h.lo,by rw[hH];exact h.len,fun l Gg=>by rw[hH];exact h.same l (by rw[<- hl];exact Gg)⟩
def rQ(s:AS)(loc:Nat)(o:bG):Ci s ⟨s.H.set loc o,loc⟩:=⟨ae,fun l hl=>by simp only at hl ⊢;rw[List.getElem?_set_ne af]⟩
def RA(s:AS)(loc:Nat)(hl:loc<s.H.length)(o:bG):Ci s ⟨s.H.set loc .dead++[o],loc⟩:=⟨ae,fun l Gg=>by
 simp only at Gg ⊢;rw[axd df,List.getElem?_set_ne af]⟩
def RB(s:AS)(o:bG):Ci s ⟨s.H++[o],s.H.length⟩:=⟨ae,fun l hl=>by simp only at hl ⊢;rw[axd hl]⟩
theorem OK{s s1:AS}{a v:AV}(he:aW s sz a v=some s1)(h:iB H0 s):iB H0 s1:=by
 have sT:∀ t X,iB H0 (s.cc t X):=fun t X=>h.qT rfl rfl
 unfold aW at he;split at he
 ·cases he
 obtain⟨_,he⟩:=ay he;split at he
 ·split at he
  ·obtain⟨_,he⟩:=ay he
   injection he with he
   rw[<- he];exact h.iw (rQ s _ _)
  ·obtain⟨_,he⟩:=ay he
   injection he with he
   rw[<- he];exact h.iw (rQ s _ _)
  ·cases he
 ·grind
 ·grind
 ·cases he
def PP(C:AS->Prop)(r:Option (AV × Option AS)):Prop:=∀ z s',r=some (z,some s')->C s'
section
variable {C:AS->Prop}{α:Type}
def PP.none:PP C none:=fun _ _ h=>by cases h
def PP.stay : PP C (some (z,Option.none)):=fun _ _ h=>by cases h
def PP.c{b:Bool}{s':AS}(h:C s'):PP C (some (z,bif b then some s' else Option.none)):=fun _ _ e=>by cases b<;>cases e;exact h
def PP.ok{s':AS}(h:C s'):PP C (some (z,some s')):=fun _ _ e=>by cases e;exact h
def PP.cond{b:Bool}{x y:Option (AV × Option AS)}(h1:PP C x)(h2:PP C y):PP C (bif b then x else y):=by cases b<;>assumption
def PP.bind{x:Option α}{f:α->Option (AV × Option AS)}(h:∀ a,PP C (f a)):PP C (x.bind f):=by
 cases x with
 | none=>exact PP.none
 | some a=>exact h a
def PP.map{x:Option α}{f:α->AV × Option AS}(h:∀ a,PP C (some (f a))):PP C (x.map f):=by
 cases x with
 | none=>exact PP.none
 | some a=>exact h a
end
theorem Pe{G:Nat->List AV}(uq:∀ f args H r c,cf f args H=some (r,c)->jH H c){s s':AS}{o:oH}(he:br G cf s o=some (z,some s'))(h:iB H0 s):iB H0 s':=by
 suffices key:PP (iB H0) (br G cf s o) from key z s' he
 clear he;have sT:∀ {s' : AS},s'.H=s.H->s'.lo=s.lo->iB H0 s':=fun a b=>h.qT a b
 cases o with
 | store sz x y =>
  intro z s' he;simp only[br,aw0,aw6,aw2] at he;obtain⟨s1,he,_,rfl⟩:=he;exact (OK he h).qT (iZ _ _).1 (iZ _ _).2.2
 | call f args =>
  intro z s' he;simp only[br] at he;split at he
  ·simp only[oX] at he;obtain⟨_,⟨r,c⟩,hr,_,c',rfl,rfl⟩:=he
   obtain⟨h1,h2⟩:=uq _ _ _ _ _ hr;exact h.iw ⟨by simp only[qC] at h1;omega,(h2 c' rfl).2⟩
  ·cases he
 | N5 kz ka va vz ks m k v =>
  intro z s' he;simp only[br,aw0,aw6,aw2] at he;obtain⟨s1,he,_,rfl⟩:=he;have h1:iB H0 s1:=by
   unfold tu at he;split at he
   ·split at he
    ·simp only[oX] at he;obtain⟨_,_,_,_,_,_,_,he⟩:=he
     rw[<- he];exact h.iw (rQ s _ _)
    ·cases he
   ·cases he
  exact h1.qT (iZ _ _).1 (iZ _ _).2.2
 | _ =>
  simp only[br,rO,fO,cH,jv,jP,yP,Cp,xF]
  repeat' first
   | exact PP.none
   | exact PP.stay
   | exact PP.ok (sT rfl rfl)
   | exact PP.c (sT rfl rfl)
   | exact PP.ok (h.iw (RB s _))
   | exact PP.ok (h.iw (rQ s _ _))
   | exact PP.c (h.iw (rQ s _ _))
   | exact PP.ok ((h.iw (rQ s _ _)).qT rfl rfl)
   | exact PP.ok (h.iw (RA s _ (aw5.1 (by assumption)).1 _))
   | refine PP.cond ?_ ?_
   | refine PP.bind fun _=>?_
   | refine PP.map fun _=>?_
   | split
section
variable {P:Program}{G:Nat->List AV}{base nt:Nat}{L:List Nat}{gh:Gh}{w w' : World}{a:Act}{s:AS}{H:aa}
structure Inv (G:Nat->List AV) (base nt:Nat) (L:List Nat) (H0:aa) (mn:Gh) (w0:World) (s:AS) (gh:Gh) (w:World) (a:Act):Prop where
 W:aY G base s.H gh w
 F:FR L nt gh w a s
 E:Ext H0.length mn w0 gh w
 lo:iB H0 s
def Inv.out{mn:Gh}{w':World}{x:AV}{s':AS}{v':Value}(h:Inv G base nt L H0 mn w0 s gh w a)(hO:Out G base nt L gh w a s d x s' v' a8 w')(hl:iB H0 s') :
  Inv G base nt L H0 mn w0 (s'.cR d x) a8 w' (a.put d v') :=
 ⟨by rw[(nG s' d x).1];exact hO.W,hO.F,h.E.trans hO.E h.lo.len,hl.qT (nG s' d x).1 (nG s' d x).2.2⟩
def Dm(G:Nat->List AV)(cf:fX)(s:AS)(o:aQ):Option (AV × AS) :=
 let run:Option (AV × AS):=(br G cf s o.op).bind fun r=>match r.2 with
  | none=>some (r.1,s)
  | some s'=>some (r.1,s')
 match o.guard with
 | none=>run
 | some (g,want)=>match s.T g with
  | .bool b=>cond (b==want) run (some (.undef,s))
  | .tuple []=>some (.undef,s)
  | _=>none
theorem xG{G:Nat->List AV}{s:AS}{o:aQ} : bS G cf s o=(Dm G cf s o).map fun r=>r.2.cR o.dst r.1:=by
 have dI:((br G cf s o.op).bind fun r=>match r.2 with
   | none=>some (s.cR o.dst r.1)
   | some s'=>some (s'.cR o.dst r.1)) =
  ((br G cf s o.op).bind fun r=>match r.2 with
   | none=>some (r.1,s)
   | some s'=>some (r.1,s')).map fun r=>r.2.cR o.dst r.1:=by
  cases br G cf s o.op with
  | none=>rfl
  | some r =>
   grind
 unfold bS Dm
 grind
theorem s8(h:uO P dB locals muts nt ops o=some io) :
  dm P dB locals muts nt o.dst o.op=some io.op/\rN nt ops o.guard=some io.guard/\io.dst=o.dst/\∀ k,o.dst=some k->k<nt:=by
 simp only[uO,aw1] at h;obtain⟨p,hp,g,hg,h⟩:=h;split at h
 ·grind
 ·rename_i d hd
  obtain⟨h0,h⟩:=ay h;injection h with h
  subst h
  simp_all
theorem Ht(uq:jc P G cf){mn:Gh}(hI:Inv G base nt L H0 mn w0 s gh w a)
  (hc:uO P dB locals muts nt ops o=some io) (Ms:∀ x,x∈locals->x∈L) (Mt:∀ x,x∈muts->x∈L) {z:AV} {s1:AS} (he:Dm G cf s io=some (z,s1)) (K:Act->World->Prop) (Q:Exit->Act->World->Prop)
  (hK:∀ a' a8 w',Inv G base nt L H0 mn w0 (s1.cR o.dst z) a8 w' a'->K a' w') :
  if Region.wanted o (yielded ops a.tmps) then o.wp P a w K Q\/(o.asks P a w/\LetsOut Q) else K (a.put o.dst undef) w:=by
 obtain⟨dH,hg,aug,hd⟩:=s8 hc;have asn:s1=s->z=.undef->K (a.put o.dst undef) w:=by
  rintro rfl rfl
  exact hK _ gh w (hI.out (Out.pure hI.W hI.F hd (.dw .undef)) hI.lo)
 have dI:((br G cf s io.op).bind fun r=>match r.2 with
   | none=>some (r.1,s)
   | some s'=>some (r.1,s'))=some (z,s1)->o.wp P a w K Q:=by
  intro h;simp only[aw1] at h;obtain⟨⟨z',s'⟩,cE,h⟩:=h;cases s' with
  | none =>
   simp only at h;have h' : z'=z/\s=s1:=by
    grind
   obtain⟨rfl,rfl⟩:=h';exact Dl uq hI.W hI.F dH Ms Mt cE hd K Q (fun v' a8 w' hO=>hK _ a8 w' (hI.out hO hI.lo))
  | some s' =>
   simp only at h;have h' : z'=z/\s'=s1:=by
    grind
   obtain⟨rfl,rfl⟩:=h';exact Dl uq hI.W hI.F dH Ms Mt cE hd K Q (fun v' a8 w' hO=>hK _ a8 w' (hI.out hO (Pe (fun f args H r c h=>(uq f args H r c h).2.1) cE hI.lo)))
 cases hog:o.guard with
 | none =>
  rw[hog] at hg;simp only[rN,aw2] at hg;have hw:Region.wanted o (yielded ops a.tmps)=true:=by simp[Region.wanted,hog]
  rw[if_pos hw];unfold Dm at he
  grind
 | some jw =>
  obtain⟨j,want⟩:=jw;rw[hog] at hg;simp only[rN,aw1] at hg;obtain⟨t,⟨oj,hoj,hdj⟩,hg⟩:=hg;obtain⟨aP,hg⟩:=ay hg;injection hg with hg
  have ht:t<nt:=by simpa [axp] using aP
  have htm:a.tmps[t]?=some (gv a t):=by
   have:t<a.tmps.size:=by rw[hI.F.size];exact ht
   simp[gv,this]
  have hy:∀ v,gv a t=v->yielded ops a.tmps j=match v with|.bool b=>some b|_=>none:=by
   intro v hv;unfold yielded
   grind
  have qu:=hI.F.slot t ht
  change SR gh s.H.length nt w s.T s.gen (gv a) t (gv a t) (s.T t) at qu
  unfold Dm at he;rw[<- hg] at he;simp only at he;split at he
  ·rename_i b hT
   rw[hT] at qu;have hv:=VR.lZ (CR.dropped (qu:CR gh s.H.length w (.sl t) (gv a t) (.bool b)));have hw:Region.wanted o (yielded ops a.tmps)=(b==want):=by
    simp only[Region.wanted,hog,hy _ hv]
    grind
   grind
  ·rename_i hT
   rw[hT] at qu;have hv:=VR.R7 (CR.dropped (qu:CR gh s.H.length w (.sl t) (gv a t) (.tuple [])));have hw:Region.wanted o (yielded ops a.tmps)=false:=by
    simp only[Region.wanted,hog,hy _ hv];rfl
   grind
  ·cases he
end
end
end Go.Abs
end
