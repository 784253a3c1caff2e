/-
  A part of the proof of PrintLossless: AbsMap6, AbsArr, AbsCopy, AbsEvOp, AbsRun.
-/
import Derived.Maps.RangeRun
import Derived.Laws.MakeOwn
import Derived.Laws.IdiomCopy
import Derived.WalkSpells
import Derived.LoopN
import Derived.Scope
import Derived.Tactics
import Derived.Test.YtnhpoddlmjpapaaGreatDoorQ04
set_option linter.unusedSimpArgs false
set_option linter.unusedVariables false
set_option linter.defProp false
noncomputable section
namespace Go.Abs
open Go.ChangeMaps (setBlock)
variable {z:AV}{E:Array MapEntry}{ka va:Bool}{es todo:List (List AV)}{cur:List AV}{ck g i:Nat}{f:Nat->Nat->Value}{o:Oper}{it:Operand}{s':Option AS}{y:aE}{cf:gD}
section
section
variable {P:Program}{G:Nat->List AV}{base nt:Nat}{L:List Nat}{gh:Gh}{w w' : World}{a:Act}{s:AS}{H:ae}
theorem KL{α:Type}{key:α->Nat} : ∀ (l:List α) (x:α),x∈l->(∀ (i j:Nat) (a b:α),l[i]?=some a->l[j]?=some b->key a=key b->i=j)->l.Perm (x :: l.filter fun y=>decide (key y≠key x))
 | [],x,h,_=>by cases h
 | y :: l,x,h,hd=>by
  have hd' : ∀ (i j:Nat) (a b:α),l[i]?=some a->l[j]?=some b->key a=key b->i=j:=fun i j a b h1 h2 h3=>by
   have:=hd (i+1) (j+1) a b (cT h1) (cT h2) h3
   omega
  by_cases WC:key y=key x
  ·have fq:l.filter (fun z=>decide (key z≠key x))=l:=by
    refine axL.2 fun z hz=>?_
    obtain⟨j,hj⟩:=avl hz;simp only[au1];intro e;have:=hd 0 (j+1) y z rfl (cT hj) (WC.trans e.symm)
    omega
   have hxe:x=y:=by
    grind
   subst hxe;rw[axo,if_neg ag,fq]
  ·have WB:x∈l:=by
    grind
   have ih:=KL l x WB hd';rw[axo,if_pos (cT WC)];exact (List.Perm.cons y ih).trans (List.Perm.swap x y _)
theorem FF(hW:bf G base H gh w){b:Nat}{o:Obj}{w1:World}(D7:w1=w\/w1=w.drew)(aZ:b<w.heap.size)(hS:∀ o,¬ gh.S b o)(hnc:∀ C ty fr,w.heap[b]?≠some (.cells C ty fr))(n:Nat):Step (fun r=>r=gh.κ b) n gh w gh (setBlock w1 b o):=by
 have uA:(setBlock w1 b o).heap=w.heap.setIfInBounds b o:=by rcases D7 with rfl|rfl<;>rfl
 have MH:∀ b',b'≠b->(setBlock w1 b o).heap[b']?=w.heap[b']?:=fun b' h=>by rw[uA];simp[awf h]
 have dp:∀ b' o,gh.S b' o->b'≠b:=fun b' o h=>by rintro rfl;exact hS o h
 refine⟨fun _ _ h=>h,fun b' o h=>cell_of_heap (MH b' (dp b' o h)),by rw[uA];simp,?_,?_,?_,fun b' iJ hn=>?_,fun b' iJ=>?_,fun _ _=>rfl,fun b' ty m hm=>?_,fun b' E1 c1 hs hm=>?_⟩
 ·rcases D7 with rfl|rfl<;>rfl
 ·rcases D7 with rfl|rfl<;>rfl
 ·rcases D7 with rfl|rfl<;>rfl
 ·have Fv:b'≠b:=by rintro rfl;exact hn rfl
  exact⟨.inl (MH b' Fv),rfl,fun _ h=>h⟩
 ·have:w.heap.size<=b':=by first|exact iJ|(rw[uA] at iJ;simpa using iJ)
  exact hW.cA b' this
 ·obtain⟨C,fr,h1,h2⟩:=hm
  have Fv:b'≠b:=by rintro rfl;exact hnc C ty fr h1
  exact⟨C,fr,by rw[MH b' Fv];exact h1,h2⟩
 ·grind
def vY{x:AV}(h:x.plain=true):x.drop=x:=by
 cases x<;>try rfl
 rename_i e own;cases own
 ·rfl
 ·simp[AV.plain] at h
def Gh.Mr(gh:Gh)(b:Nat):Gh:={ gh with S:=fun b' o=>gh.S b' o\/(b'=b/\o=0) }
def M9(hW:bf G base s.H gh w)(hF:FR L nt gh w a s){l kz:Nat}(hH:s.H[l]?=some (.map kz ka va es))(ij:(es.all fun r=>r.all AV.plain)=true) :
  ∃ og,bf G base (s.H.set l (.iW kz ka va es)) og w/\FR L nt og w a (s.iF ⟨s.H.set l (.iW kz ka va es),l⟩)/\Ext s.H.length gh w og w/\og.ρ l=gh.ρ l/\PR og.S w (.map (some (gh.ρ l))) (.iW kz ka va es):=by
 have aZ:=(auU.1 hH).1;obtain⟨⟨hκ,hS,E,ck,f,hb,hE,h1,h2⟩,_⟩:=hW.more l _ hH;have w5:=(auZ.1 hb).1;have st:∀ n,Step (fun r=>r=.hb l) n gh w (gh.Mr (gh.ρ l)) w:=fun n=>by
  refine⟨fun b o h=>.inl h,fun _ _ _=>rfl,Nat.le_refl _,rfl,rfl,rfl,fun b hb hn=>⟨.inl rfl,rfl,fun o ho=>?_⟩,fun b hb=>hW.cA b hb,fun _ _=>rfl,fun _ _ _ h=>h,fun _ _ _ _ h=>h⟩
  rcases ho with ho|⟨rfl,_⟩
  ·exact ho
  ·exact absurd hκ hn
 have hP:PR (gh.Mr (gh.ρ l)).S w (.map (some (gh.ρ l))) (.iW kz ka va es):=by
  refine .iW (gh.ρ l) kz ka va es E ck f (.inr ⟨rfl,rfl⟩) hb hE (fun i j r x hi hj=>?_)
  have hx:=auX.1 (auX.1 ij r (au0 hi)) x (au0 hj);have hp:PR gh.S w (f i j) x:=by
   by_cases aZ:j<kz
   ·exact h1 i j r x hi hj aZ
   ·have:=((h2 i j r x hi hj ah).2.2).dropped
    rw[vY hx] at this;exact this.l8 hx
  exact hp.mono (st 0).S (st 0).cell (st 0).mp
 refine⟨gh.Mr (gh.ρ l),?_,?_,⟨(st _).mono (fun r h=>by rw[h];exact⟨ag,ag⟩),fun b hb=>hb⟩,rfl,hP⟩
 ·refine hW.BT (st _) aZ (by intro k hk;simp[hk]) (fun b o ho=>?_) hW.qN (fun _ _ h=>by cases h) hP (fun b o m ho=>?_)
  ·rcases ho with ho|⟨rfl,_⟩
   ·exact hW.pN b o ho
   ·exact w5
  ·rcases ho with ho|⟨rfl,rfl⟩
   ·exact .inl ho
   ·exact .inr (fun hc=>by simp[World.cell?,hb] at hc)
 ·exact hF.grown (st _) (fun i=>⟨ag,ag,ag⟩) ag
theorem KX(hW:bf G base s.H gh w)(hF:FR L nt gh w a s){kz:Nat}(hd:∀ k,o.dst=some k->k<nt/\k∈L) :
  ∀ (m:Option Nat) (since:Nat) (es:List (List AV)),(execOp a.eval o).run P w=.ok (.value (.pointer (some ⟨w.heap.size,0,none⟩))) (w.alloc (.mapIter m since #[] since)) ->
   ((m=none/\es=[])\/∃ m0 E ck f,m=some m0/\gh.S m0 0/\w.heap[m0]?=some (.map E ck)/\since=ck/\∃ uq:List (List AV),zt E ck kz ka va uq f/\es.Perm uq/\(∀ (i j:Nat) (r:List AV) (x:AV),uq[i]?=some r->r[j]?=some x->PR gh.S w (f i j) x)) ->
   ∃ v' bt w',wJ P a o w v' w'/\Out G base nt L gh w a s o.dst (.iter s.gen kz ka va [] es) { s with gen:=s.gen+1 } v' bt w':=by
  intro m since es fe hm;have hp:=fS.alloc w (.mapIter m since #[] since);have dp:=xW o.dst;have st:=jf hW hp dp (fun _=>False) s.H.length
  have JZ:=hF.grown (H':=s.H) (lo':=s.lo) st (fun i=>⟨id,id,fun _=>id⟩) (Nat.le_refl _)
  have nL:=hW.alloc hp dp (fun _=>False) (fun _ _ h=>h.elim)
  refine⟨.pointer (some ⟨w.heap.size,0,none⟩),_,_,.inl fe,nL,JZ.Vk (gen':=s.gen+1) (Nat.le_succ _) (fun b hb=>nL.cA b hb) o.dst (fun k hk=>(hd k hk).1) (.inr ⟨⟨s.gen,Nat.le_refl _,rfl⟩,fun k hk=>(hd k hk).2⟩) ?_,oO hW hp dp _ _⟩
  intro k hk;refine⟨awU _,w.heap.size,rfl,?_⟩;rw[hk] at st ⊢;refine⟨by simp[Gh.alloc,Pz],?_,m,since,#[],since,hp.new,?_⟩
  ·rintro o (ho|⟨_,ho⟩)
   ·have:=hW.pN _ o ho;omega
   ·exact ho
  ·rcases hm with ⟨rfl,rfl⟩|⟨m0,E,ck,f,rfl,h1,h2,rfl,uq,h3,hpm,h4⟩
   ·grind
   ·refine .inr ⟨m0,E,uq,since,f,rfl,st.S _ _ h1,st.mp _ _ _ h1 h2,h3,rfl,rfl,fun i j r x hi hj=>(h4 i j r x hi hj).mono st.S st.cell st.mp,.inl ⟨rfl,rfl⟩,?_⟩
    have:((E.toList.zip uq).filter fun p=>!(#[]:Array Nat).contains p.1.born)=E.toList.zip uq:=axL.2 fun p _=>ag
    rw[this];have hz:(E.toList.zip uq).map (·.2)=uq:=List.map_snd_zip (by have:=h3.size;simp;omega)
    rw[hz];exact hpm
def acS(hW:bf G base s.H gh w)(hF:FR L nt gh w a s){t kt et:TypeId}{x:Operand}{kz:Nat}(ho:o.op=.range t x)(hc:ar nt x=some y)(ht:P.underlying t=some (.map kt et))
  (he:aQ G cf s (.rng kz ka va y)=some (z,s')) (hd:∀ k,o.dst=some k->k<nt/\k∈L) :
  ∃ v' bt w',wJ P a o w v' w'/\Out G base nt L gh w a s o.dst z (s'.getD s) v' bt w':=by
 obtain⟨m1,m2,m3⟩:=YK hW hF hc;have key:=KX (P:=P) hW hF (o:=o) (kz:=kz) (ka:=ka) (va:=va) hd;simp only[aQ] at he;split at he
 ·rename_i hY
  simp only[auR,auV] at he;obtain⟨rfl,rfl⟩:=he;refine key none 0 [] ?_ (.inl ⟨rfl,rfl⟩);simp[execOp,ho,m1 hY,Instr.range,run_underlying ht,newObj,Sem.run]
 ·rename_i hY
  obtain⟨h0,iY⟩:=al he;clear he;simp only[auT,iE,au1,avB] at h0;obtain⟨⟨rfl,rfl⟩,rfl⟩:=h0;simp only[auR,auV] at iY;obtain⟨rfl,rfl⟩:=iY;have hp:=m2 _ _ _ _ hY;generalize hA:a.eval x=V at hp;cases hp with
  | iW b _ _ _ _ E ck f hS hb hE dv =>
   refine key (some b) ck _ ?_ (.inr ⟨b,E,ck,f,rfl,hS,hb,rfl,_,hE.iter,axx _,dv⟩);simp[execOp,ho,hA,Instr.range,run_underlying ht,newObj,getObj,Sem.run,hb]
 ·rename_i hY
  obtain⟨h0,iY⟩:=al he;clear he;simp only[auT,iE,au1,avB] at h0;obtain⟨⟨rfl,rfl⟩,rfl⟩:=h0;simp only[auR,auV] at iY;obtain⟨rfl,rfl⟩:=iY;have hp:=Tq hW hF hc hY;generalize hA:a.eval x=V at hp;cases hp with
  | mn b _ _ _ _ uq E ck f hS hb hE hpm dv =>
   refine key (some b) ck _ ?_ (.inr ⟨b,E,ck,f,rfl,hS,hb,rfl,_,hE,hpm.symm,dv⟩);simp[execOp,ho,hA,Instr.range,run_underlying ht,newObj,getObj,Sem.run,hb]
 ·rename_i l hY
  split at he
  ·rename_i p8 p7 p9 es hH
   obtain⟨h0,iY⟩:=al he;clear he;simp only[auT,iE,au1,avB] at h0;obtain⟨⟨⟨rfl,rfl⟩,rfl⟩,ij⟩:=h0;simp only[auR,auV] at iY;obtain⟨rfl,rfl⟩:=iY;obtain⟨aZ,tE⟩:=m3 l hY;obtain⟨og,tD,Bc,HH,hρ,hP⟩:=M9 hW hF hH ij;generalize hV:Value.map (some (gh.ρ l))=V at hP;cases hP with
   | iW b _ _ _ _ E ck f hS hb hE dv =>
    injection hV with hV
    injection hV with hV
    subst hV;obtain⟨v',bt,w',k1,k2⟩:=KX (P:=P) (s:=s.iF ⟨s.H.set l (.iW kz ka va es),l⟩) tD Bc (o:=o) hd (some (gh.ρ l)) ck es (by
     simp[execOp,ho,tE,Instr.range,run_underlying ht,newObj,getObj,Sem.run,hb]) (.inr ⟨_,E,ck,f,rfl,hS,hb,rfl,_,hE.iter,axx _,dv⟩)
    exact⟨v',bt,w',k1,k2.W,k2.F,HH.trans k2.E (by simp[AS.iF])⟩
  ·cases he
 ·cases he
theorem JQ:∀ (l:List MapEntry) (e:MapEntry),e∈l->(∀ x∈l,x.born=e.born->x=e)->l.find? (fun x=>x.born==e.born)=some e
 | [],e,h,_=>by cases h
 | x :: l,e,h,hu=>by
  rw[List.find?_cons]
  by_cases hx:x.born=e.born
  ·grind
  ·have hb:(x.born==e.born)=false:=cT hx
   rw[hb]
   rcases avi.1 h with h|h
   ·subst h;exact absurd rfl hx
   ·exact JQ l e h (fun y hy=>hu y (xD hy))
def Od{n:Nat}{m:Nat}{g:Nat->Value}{cs:List AV}(hm:cs.length=m)(h1:va=false->m=1)(h:∀ (j:Nat) (x:AV),cs[j]?=some x->PR gh.S w (g j) x):VR gh n w (tS va m g) (qz va cs) :=
 US hm h1 (fun j x hj=>⟨VR.dropped (.plain _ _ (h j x hj)),(h j x hj).gm⟩)
theorem JB{n kz:Nat}(hE:zt E ck kz ka va es f)(dv:∀ (i j:Nat) (r:List AV) (x:AV),es[i]?=some r->r[j]?=some x->PR gh.S w (f i j) x)
  {e:MapEntry} {r:List AV} (he:E[i]?=some e) (hr:es[i]?=some r):VR gh n w e.key (qz ka (r.take kz))/\VR gh n w e.val (qz va (r.drop kz)):=by
 obtain⟨k1,k2,k3,k4,k5⟩:=hE.row i e r he hr;rw[k4,k5];refine⟨Od dw k2 (fun j x hj=>?_),Od ag (fun h=>by rw[k3 h];omega) (fun j x hj=>?_)⟩
 ·grind
 ·grind
def O'(hF:FR L nt gh w a s){t kz:Nat}(ht:t<nt)(hT:s.T t=.iter g kz ka va cur todo):g<s.gen/\∃ b,gN a t=.pointer (some ⟨b,0,none⟩)/\zr gh w b (.bx t) kz ka va cur todo:=by
 have h:=hF.slot t ht;rw[hT] at h;exact h
theorem acQ(hW:bf G base s.H gh w)(hF:FR L nt gh w a s)(ho:o.op=.entry it)(hc:ar nt it=some y)(he:aQ G cf s (.ent y)=some (z,s')) :
  s'=none/\∃ v,(execOp a.eval o).run P w=.ok (.value v) w/\oN gh s.H.length nt w s.T s.gen (gN a) v z:=by
 cases y with
 | tmp t =>
  obtain⟨rfl,ht⟩:=kM hc;simp only[aQ] at he;split at he
  ·rename_i g kz ka va cur todo hT
   obtain⟨h0,he⟩:=al he;simp only[auT,avm,avg,awZ] at h0;simp only[auR,auV] at he;obtain⟨rfl,rfl⟩:=he;obtain⟨_,b,hb,_,_,m,since,seen,last,HQ,hm⟩:=O' hF ht hT;refine⟨rfl,?_⟩
   rcases hm with ⟨_,_,_,TD⟩|⟨m0,E,es,ck,f,rfl,hS,Lr,hE,rfl,rfl,dv,TD,_⟩
   ·exact absurd TD h0.2
   ·rcases TD with ⟨_,TD⟩|⟨st,i,e,yu,hEi,hbe,am5⟩
    ·exact absurd TD h0.2
    ·obtain⟨v1,v2⟩:=JB (n:=s.H.length) hE dv hEi am5
     have MF:e∈E.toList:=by
      grind
     have ail:E.find? (fun x=>x.born==e.born)=some e:=by
      rw[<- Array.find?_toList];refine JQ _ e MF (fun x hx hxb=>?_)
      obtain⟨j,hj⟩:=avl hx;rw[avD] at hj;have:=hE.apart j i x e hj hEi hxb
      grind
     have tE:a.eval (.tmp t)=.pointer (some ⟨b,0,none⟩):=hb;refine⟨.tuple #[e.key,e.val],?_,.dU (.tuple _ _ rfl (fun j u x hu hx=>?_))⟩
     ·subst hbe
      simp[execOp,ho,tE,Instr.entry,getObj,Sem.run,HQ];simp[yu,Lr,Sem.run,ail]
     ·grind
  ·cases he
 | _=>simp only[aQ] at he;cases he
theorem QQ{seen:Array Nat}{kz:Nat}(hE:zt E ck kz ka va es f){e:MapEntry}{r:List AV}(he:E[i]?=some e)(hr:es[i]?=some r)(hs:seen.contains e.born=false) :
  (((E.toList.zip es).filter fun p=>!seen.contains p.1.born).map (·.2)).Perm (r :: ((E.toList.zip es).filter fun p=>!(seen.push e.born).contains p.1.born).map (·.2)):=by
 have hz:(E.toList.zip es)[i]?=some (e,r):=by rw[awY];exact⟨by rw[avD];exact he,hr⟩
 have h1:=KL (key:=fun p:MapEntry × List AV=>p.1.born) (E.toList.zip es) (e,r) (au0 hz) (fun j k p q hj hk hpq=>by
  rw[awY,avD] at hj hk;exact hE.apart j k p.1 q.1 hj.1 hk.1 hpq)
 have h2:=h1.filter (fun p=>!seen.contains p.1.born)
 rw[axo,if_pos (by show (!seen.contains e.born)=true;rw[hs];rfl),List.filter_filter] at h2
 grind
theorem Xq(hW:bf G base s.H gh w)(hF:FR L nt gh w a s){t kz:Nat}(ho:o.op=.next it false)(hc:ar nt it=some (.tmp t))(hT:s.T t=.iter g kz ka va cur todo)(hL:t∈L)
  (hd:∀ k,o.dst=some k->k<nt) (K:Act->World->Prop) (Q:Exit->Act->World->Prop)
  (hK0:todo=[]->∀ v' bt w',Out G base nt L gh w a s o.dst (.tuple [.bool false]) s v' bt w'->K (a.put o.dst v') w')
  (hK1:∀ r rest,todo.Perm (r :: rest)->∀ v' bt w',Out G base nt L gh w a s o.dst (.tuple [.bool true,qz ka (r.take kz),qz va (r.drop kz)]) (s.cy t (.iter g kz ka va r rest)) v' bt w'->K (a.put o.dst v') w'):o.wp P a w K Q:=by
 obtain⟨rfl,ht⟩:=kM hc;obtain⟨hg,b,hb,hκ,hS,m,since,seen,last,HQ,hm⟩:=O' hF ht hT;have tE:a.eval (.tmp t)=.pointer (some ⟨b,0,none⟩):=hb;have TF:∀ {n:Nat},VR gh n w (.tuple #[.bool false]) (.tuple [.bool false]):=fun {n}=>.tuple _ _ rfl (fun j u x hu hx=>by
  match j with
  | 0=>injection hu with hu;injection hx with hx;subst hu hx;exact .plain _ _ (.bool _)
  | j+1=>simp at hx)
 rcases hm with ⟨rfl,rfl,_,_⟩|⟨m0,E,es,ck,f,rfl,hSm,Lr,hE,rfl,rfl,dv,_,Gq⟩
 ·refine wJ.wp (.inl ?_) (hK0 rfl (.tuple #[.bool false]) gh w (Out.pure hW hF hd (.dU TF)))
  simp[execOp,ho,tE,Instr.next,getObj,Sem.run,HQ]
 ·rcases run_next_at (P:=P) w o.type b m0 last last seen E last HQ Lr (fun x hx=>by
   obtain⟨j,hj⟩:=avl hx;rw[avD] at hj;exact hE.born j x hj) (Nat.le_refl _) with ⟨hz,fe⟩|⟨e,hem,w1,D7,fe⟩
  ·have HS:todo=[]:=by
    have hl:((E.toList.zip es).filter fun p=>!seen.contains p.1.born)=[]:=by
     refine List.filter_eq_nil_iff.2 fun p hp dp=>?_
     have hpe:=(List.of_mem_zip (a:=p.1) (b:=p.2) hp).1;have:p.1∈(leftOf E seen).toList:=by
      unfold leftOf
      grind
     grind
    rw[hl] at Gq;exact Gq.eq_nil
   refine wJ.wp (.inl ?_) (hK0 HS (.tuple #[.bool false]) gh w (Out.pure hW hF hd (.dU TF)));simp[execOp,ho,tE,fe]
  ·unfold leftOf at hem
   simp only[Array.toList_filter,axe] at hem;obtain⟨heE,AN⟩:=hem;obtain⟨i,hi⟩:=avl heE;rw[avD] at hi;have adA:i<es.length:=by rw[<- hE.size];exact (auZ.1 hi).1
   have hr:=auS adA;have anK:seen.contains e.born=false:=cT AN;have aiS:=QQ hE hi hr anK;have Mw:=(auZ.1 HQ).1;have st:=FF (o:=.mapIter (some m0) last (seen.push e.born) last) hW D7 Mw hS (fun C ty fr h=>by rw[HQ] at h;cases h) s.H.length
   rw[hκ] at st;have uA:(setBlock w1 b (.mapIter (some m0) last (seen.push e.born) last)).heap=w.heap.setIfInBounds b (.mapIter (some m0) last (seen.push e.born) last):=by rcases D7 with rfl|rfl<;>rfl
   have j9:(setBlock w1 b (.mapIter (some m0) last (seen.push e.born) last)).heap.size=w.heap.size:=by rw[uA];simp
   have nL:=hW.step st (fun l=>⟨ag,ag⟩) (fun b o h=>by rw[j9];exact hW.pN b o h) (fun b h=>by rw[j9];exact hW.qN b h) (fun _ _ _ h=>.inl h)
   have hE' : Ext s.H.length gh w gh (setBlock w1 b (.mapIter (some m0) last (seen.push e.born) last)):=⟨st.mono (fun r h=>by rw[h];simp[rP]),fun _ h=>h⟩
   have hIt:zr gh (setBlock w1 b (.mapIter (some m0) last (seen.push e.born) last)) b (.bx t) kz ka va es[i] (((E.toList.zip es).filter fun p=>!(seen.push e.born).contains p.1.born).map (·.2)):=by
    refine⟨hκ,hS,some m0,last,seen.push e.born,last,by rw[uA];simp[Mw],.inr ⟨m0,E,es,last,f,rfl,hSm,st.mp _ _ _ hSm Lr,hE,rfl,rfl,fun i j r x h1 h2=>(dv i j r x h1 h2).mono st.S st.cell st.mp,.inr ⟨e.born,i,e,ag,hi,rfl,hr⟩,axx _⟩⟩
   have JZ:FR L nt gh (setBlock w1 b (.mapIter (some m0) last (seen.push e.born) last)) a (s.cy t (.iter g kz ka va es[i] (((E.toList.zip es).filter fun p=>!(seen.push e.born).contains p.1.born).map (·.2)))) :=
    hF.cy (H':=s.H) (lo':=s.lo) st (Nat.le_refl _) (fun i hi=>⟨cT hi,ag,ag⟩) (.inl ⟨ht,by rw[hT];rfl⟩) (fun _=>⟨hg,b,hb,hIt⟩)
   obtain⟨v1,v2⟩:=JB (n:=s.H.length) hE dv hi hr;have hv:VR gh s.H.length (setBlock w1 b (.mapIter (some m0) last (seen.push e.born) last)) (.tuple #[.bool true,e.key,e.val]) (.tuple [.bool true,qz ka (es[i].take kz),qz va (es[i].drop kz)]):=by
    refine .tuple _ _ rfl (fun j u x hu hx=>?_)
    match j with
    | 0=>injection hu with hu;injection hx with hx;subst hu hx;exact .plain _ _ (.bool _)
    | 1=>injection hu with hu;injection hx with hx;subst hu hx;exact v1.mono st (Nat.le_refl _)
    | 2=>injection hu with hu;injection hx with hx;subst hu hx;exact v2.mono st (Nat.le_refl _)
    | j+3=>simp at hx
   have hO:Out G base nt L gh w a s o.dst (.tuple [.bool true,qz ka (es[i].take kz),qz va (es[i].drop kz)]) (s.cy t (.iter g kz ka va es[i] (((E.toList.zip es).filter fun p=>!(seen.push e.born).contains p.1.born).map (·.2)))) (.tuple #[.bool true,e.key,e.val]) gh (setBlock w1 b (.mapIter (some m0) last (seen.push e.born) last)) :=
    Out.of (s1:=s.cy t (.iter g kz ka va es[i] (((E.toList.zip es).filter fun p=>!(seen.push e.born).contains p.1.born).map (·.2)))) (gen':=s.gen) nL JZ hE' (Nat.le_refl _) hd (.inl rfl) (fun k hk=>pU rfl (.inl hv))
   refine wJ.wp (.inl ?_) (hK1 es[i] _ (Gq.trans aiS) (.tuple #[.bool true,e.key,e.val]) gh _ hO);simp[execOp,ho,tE,fe]
end
end
end Go.Abs
namespace Go.Abs
variable {z:AV}{ops:Array Oper}{bt:Gh}{E f:List (List AV)}{cs:List AV}{dW locals muts:List Nat}{b bytes cap j k l m sz:Nat}{o:Oper}{x y:Operand}{s':Option AS}{d:Option Nat}{e u:TypeId}{V v:Value}{w0:World}{ix yx yy:aE}{io:aS}{H' H0:ae}{touch:bL->Prop}{cf:gD}
section
section
variable {P:Program}{G:Nat->List AV}{base nt:Nat}{L:List Nat}{gh og:Gh}{w w' : World}{a:Act}{s:AS}{H:ae}
def BE{α:Type} : ∀ (e:List (List α)) (idx:Nat) (x:α),(∀ r∈e,r.length=sz)->e.flatten[idx]?=some x->∃ i j r,e[i]?=some r/\r[j]?=some x/\idx=i*sz+j
 | [],_,_,_,h=>by simp at h
 | r :: e,idx,x,hr,h=>by
  rw[avo] at h
  by_cases hl:idx<r.length
  ·rw[au3 hl] at h;exact⟨0,idx,r,rfl,h,ag⟩
  ·rw[List.getElem?_append_right ah] at h
   obtain⟨i,j,r',h1,h2,h3⟩:=BE e _ x (fun r h=>hr r (xD h)) h
   have:=hr r ag
   exact⟨i+1,j,r',cT h1,h2,by rw[avG];omega⟩
theorem kR{α:Type} : ∀ (e:List (List α)),(∀ r∈e,r.length=sz)->e.flatten.length=e.length*sz
 | [],_=>ag
 | r :: e,hr=>by
  have:=hr r ag
  have ih:=kR e (fun r h=>hr r (xD h))
  grind
theorem HN{x:AV}(h:iD l x=true)(hl:l<=m):iD m x=true:=by
 cases x<;>first|exact h|(simp only[iD,avm] at h ⊢;omega)
theorem J7{x:AV}(h:lU l x=true)(hl:l<=m):lU m x=true:=by
 unfold lU at h ⊢
 grind [HN]
theorem J6{x:AV}(h:aX l x=true)(hl:l<=m):aX m x=true:=by
 cases x
 case func f fs cs =>
  simp only[aX,auT,auX] at h ⊢
  grind [J7]
 all_goals first|exact h|(simp only[aX,avm] at h ⊢;omega)
theorem bf.arr(hW:bf G base H gh w)(st:Step touch H.length gh w bt w')(hlen:H'.length=H.length)
  (hold:∀ (loc:Nat) (o:bM),H'[loc]?=some o->(H[loc]?=some o/\¬ touch (.hb loc)/\∀ j,¬ touch (.hs loc j))\/o=.dead)
  (hs:∀ b o,bt.S b o->gh.S b o) (hk:∀ b,bt.κ b≠.none->base<=b/\b<w'.heap.size) {cs:List AV}
  (hB:iL bt (H.length+1) w' (bt.ρ H.length) (.hb H.length) (fun j=>.hs H.length j) cs) (hr:cs.all (aX H.length)=true):bf G base (H'++[.box bE cs]) bt w':=by
 have last:∀ {loc:Nat} {o:bM},(H'++[bM.box bE cs])[loc]?=some o->(loc<H.length/\H'[loc]?=some o)\/(loc=H.length/\o=.box bE cs):=by
  grind
 have hln:(H'++[bM.box bE cs]).length=H.length+1:=by simp[hlen]
 refine⟨avx hW.size st.size,fun b o ho=>awb (hW.pN b o (hs b o ho)) st.size,hk,fun g j x hx=>?_,fun loc ty ds hl=>?_,fun loc ty ds hl=>?_,fun g hg=>(hW.Bq g hg).imp fun ty h=>st.len g ty _ h,hW.mj st (fun b o m h=>.inl (hs b o h)),fun loc o hl=>?_,fun loc ty ds hl hf=>?_⟩
 ·obtain⟨v,h1,h2,h3⟩:=hW.aW g j x hx
  exact⟨v,(st.cell g j h3).trans h1,h2.mono st.S st.cell st.mp,st.S g j h3⟩
 ·rw[hln]
  rcases last hl with ⟨aZ,hl⟩|⟨rfl,ho⟩
  ·rcases hold loc _ hl with ⟨h0,h1,h2⟩|h0
   ·rw[st.ρ loc aZ];exact (hW.boxes loc ty ds h0).mono st (Nat.le_succ _) h1 h2
   ·cases h0
  ·grind
 ·rcases last hl with ⟨aZ,hl⟩|⟨rfl,ho⟩
  ·rcases hold loc _ hl with ⟨h0,_⟩|h0
   ·exact hW.refs loc ty ds h0
   ·cases h0
  ·grind
 ·rw[hln]
  rcases last hl with ⟨aZ,hl⟩|⟨rfl,rfl⟩
  ·rcases hold loc _ hl with ⟨h0,h1,h2⟩|rfl
   ·rw[st.ρ loc aZ];exact (hW.more loc o h0).mono st (Nat.le_succ _) h1 h2
   ·trivial
  ·trivial
 ·rcases last hl with ⟨aZ,hl⟩|⟨rfl,ho⟩
  ·rcases hold loc _ hl with ⟨h0,_⟩|h0
   ·rw[st.ρ loc aZ];exact st.len _ _ _ (hW.types loc ty ds h0 hf)
   ·cases h0
  ·grind
def Gh.rename(gh:Gh)(l n b:Nat):Gh where
 S:=gh.S
 κ:=fun x=>match gh.κ x with
  | .hb i=>if i=l then .hb n else .hb i
  | .hs i j=>if i=l then .hs n j else .hs i j
  | k=>k
 ρ:=fun i=>if i=n then b else gh.ρ i
theorem VB{n x:Nat}(h:gh.κ x≠.hb l/\∀ j,gh.κ x≠.hs l j):(gh.rename l n b).κ x=gh.κ x:=by
 simp only[Gh.rename]
 grind
theorem A4{n x:Nat} : (gh.rename l n b).κ x=.none↔gh.κ x=.none:=by
 simp only[Gh.rename]
 grind
theorem s8{n x:Nat} : (gh.rename l n b).κ x=.outer↔gh.κ x=.outer:=by
 simp only[Gh.rename]
 grind
def j5(l:Nat)(r:bL):Prop:=r=.hb l\/∃ j,r=.hs l j
def Step.renamed{n:Nat}(st:Step touch m gh w og w')(hn:m<=n)(ht:∀ r,touch r->j5 l r):Step (j5 l) m gh w (og.rename l n b) w':=by
 refine⟨st.S,st.cell,st.size,st.os,st.tape,st.output,fun x hx mH=>?_,fun x hx=>?_,fun loc hl=>?_,st.len,st.mp⟩
 ·obtain⟨k1,k2,k3⟩:=st.od x hx (fun h=>mH (ht _ h))
  refine⟨k1,?_,k3⟩;rw[VB (by rw[k2];exact⟨fun h=>mH (.inl h),fun j h=>mH (.inr ⟨j,h⟩)⟩),k2]
 ·intro h
  exact st.fresh x hx (s8.1 h)
 ·show (if loc=n then _ else _)=_
  rw[if_neg ah];exact st.ρ loc hl
def CR.rename{m' n:Nat}{x:AV}(h:CR gh m w (.hs l j) v x)(hf:∀ b,w.heap.size<=b->gh.κ b≠.outer)(hm:m<=n)(RL:m<=m'):CR (gh.rename l n b) m' w (.hs n j) v x:=by
 have st:Step (j5 l) m gh w (gh.rename l n b) w:=Step.renamed (touch:=fun _=>False) (Step.refl _ _ _ _ hf) hm (fun _ h=>h.elim)
 rcases h with h|⟨e,rfl,h1,b',cap,C,ty,lo,hi,sz,hv,hk,he,hb,hC,hr,hl,hh,hS⟩
 ·exact .inl (h.mono st RL)
 ·exact .inr ⟨e,rfl,h1,b',cap,C,ty,lo,hi,sz,hv,by simp[Gh.rename,hk],he,hb,hC,hr,hl,hh,hS⟩
def DS(l:Nat)(i:Nat):¬ j5 l (.bx i)/\¬ j5 l (.sl i)/\∀ j,¬ j5 l (.sc i j):=by
 refine⟨?_,?_,fun j=>?_⟩<;>(rintro (h|⟨_,h⟩)<;>cases h)
def II(l:Nat)(r:bL)(h:j5 l r):rP r:=by
 rcases h with rfl|⟨j,rfl⟩<;>exact⟨ag,ag⟩
def Out.arr(hF:FR L nt gh w a s)(hd:∀ k,d=some k->k<nt)(st:Step (j5 l) s.H.length gh w bt w')(ho:∀ b,bt.κ b=.outer->gh.κ b=.outer){lo z:Nat}(hlen:H'.length=s.H.length)
  (hW:bf G base (H'++[.box bE cs]) bt w') (hk:k<=cap) (hz:∃ ty,rS w' (bt.ρ s.H.length) ty (0+cap*z)) :
  Out G base nt L gh w a s d (.sref s.H.length 0 k z) (s.iF ⟨H'++[.box bE cs],lo⟩) (.slice (some ⟨bt.ρ s.H.length,0,none⟩) k cap) bt w':=by
 have hv:VR bt (H'++[bM.box bE cs]).length w' (.slice (some ⟨bt.ρ s.H.length,0,none⟩) k cap) (.sref s.H.length 0 k z):=.sref _ 0 k cap z (xD hlen) hk (fun _=>hz)
 exact⟨hW,hF.put st (DS l) (xD hlen) d hd (.dU hv),⟨st.mono (II l),ho⟩⟩
def vi{A:Array Value}{S:Nat->Nat->Prop}(h:jr S w sz A E){x:AV}(hx:E.flatten[j]?=some x):∃ v,A[j]?=some v/\PR S w v x:=by
 obtain⟨i,k,r,h1,h2,rfl⟩:=BE E j x (fun r hm=>by obtain⟨i,hi⟩:=avl hm;exact h.2.1 i r hi) hx
 exact h.2.2 i k r x h1 h2
theorem GG{n:Nat}{p:bL}(h:CR gh n w p V (.slice [] true)):∃ ao,V=.slice ao 0 0:=by
 rcases h with h|⟨e',heq,_,b,cap,C,ty,lo,hi,lp,iQ,hk,dp,_⟩
 ·cases h with
  | plain _ _ h=>cases h
  | full ao k _ h hz =>
   cases h with
   | dq=>exact⟨none,rfl⟩
   | slice b o _ _ lp _ _ hn=>simp at hn;subst hn;exact⟨_,rfl⟩
 ·grind
def Z1{t:TypeId}(ht:P.underlying t=some (.slice e))(ao:Option Addr):Src P sz t (.slice ao 0 0) 0 [] w:=by
 refine⟨.inl ⟨_,ht⟩,fun _=>rfl,?_,?_,ag,fun _ h=>by cases h⟩
 ·cases ao with
  | none=>exact run_firstCells_none w _ 0 0 0
  | some ad=>exact run_firstCells_some w _ 0 ad 0 0 [] ag (fun j v h=>by simp at h)
 ·cases ao with
  | none=>exact run_firstCells_none w.drew _ 0 0 0
  | some ad=>exact run_firstCells_some w.drew _ 0 ad 0 0 [] ag (fun j v h=>by simp at h)
def qJ(h:dZ f=true){x:AV}(hx:x∈f.flatten):x.plain=true:=by
 obtain⟨r,hr,hx⟩:=awS.1 hx;exact auX.1 (auX.1 h r hr) x hx
def nM{x:AV}(h:x.plain=true)(n:Nat):aX n x=true:=uz h
theorem JG(hW:bf G base s.H gh w)(hF:FR L nt gh w a s){c:Call}{t:TypeId}
  (ho:o.op=.call c) (jE:c.callee=.builtin .append) (gp:c.args.toList=[x,y]) (mY:c.argTypes.toList=[t,u]) (hT:Ar P t e sz bytes) (hu:(∃ e',P.underlying u=some (.slice e'))\/P.underlying u=some .string)
  (ji:ar nt x=some yx) (D4:ar nt y=some yy) (he:jN s sz bytes (yx.addr G s.T) (yy.eval G s.T)=some (z,s')) (hd:∀ k,o.dst=some k->k<nt) :
  ∃ v' bt w',wJ P a o w v' w'/\Out G base nt L gh w a s o.dst z (s'.getD s) v' bt w':=by
 have gI:=fun b hb=>hW.cA (gh:=gh) b hb
 simp only[jN,auQ] at he;obtain⟨f,hf,he⟩:=he;obtain⟨i,zv,hi,_,rfl,_⟩:=hT.hi;have fresh:∀ ao,a.eval x=.slice ao 0 0->cond (!f.isEmpty&&cE i.size bytes [] f&&dZ f) (some (AV.sref s.H.length 0 f.length i.size,some (s.iF ⟨s.H++[.box bE f.flatten],s.H.length⟩))) none=some (z,s') ->
   ∃ v' bt w',wJ P a o w v' w'/\Out G base nt L gh w a s o.dst z (s'.getD s) v' bt w':=by
  intro ao hV he;obtain⟨h0,he⟩:=al he;simp only[auR,auV] at he;obtain⟨rfl,rfl⟩:=he;simp only[auT,cE,avm,List.length_nil,avt,avg,awZ] at h0;obtain⟨⟨dp,⟨⟨CL,j7⟩,_⟩,hh⟩,ij⟩:=h0;obtain⟨news,hs,dF⟩:=vJ (P:=P) hW hF D4 hf hh hu;have apQ:=awo.2 dp;obtain⟨xY,C',fe,kT,Qj,uG⟩:=grow (P:=P) (ty:=o.type) (ao:=ao) (sLen:=0) (sCap:=0) hT (Z1 (w:=w) hT.ht ao).cellsD ag hs ah ah (cT CL);have oz:fS w (w.drew.alloc (.cells C' e)) (.cells C' e):=.drew w _;have DO:=gQ hW oz;have st:Step (j5 s.H.length) s.H.length gh w (gh.bK w.heap.size s.H.length) (w.drew.alloc (.cells C' e)):=DO.mono (fun _ h=>h.elim)
  have hρ:(gh.bK w.heap.size s.H.length).ρ s.H.length=w.heap.size:=by simp[Gh.bK]
  have aim:f.flatten.length<=C'.size:=by
   have h1:=kR f (fun r hm=>by obtain⟨k,hk⟩:=avl hm;exact dF.2.1 k r hk)
   rw[h1,Qj];exact au6 _ ah
  have hB:iL (gh.bK w.heap.size s.H.length) (s.H.length+1) (w.drew.alloc (.cells C' e)) ((gh.bK w.heap.size s.H.length).ρ s.H.length) (.hb s.H.length) (fun j=>.hs s.H.length j) f.flatten:=by
   rw[hρ];refine⟨by simp[Gh.bK,Gh.alloc],?_,C',e,oz.new,aim,fun j v x hv hx=>?_⟩
   ·rintro o (ho|⟨_,ho⟩)
    ·have:=hW.pN _ o ho;omega
    ·exact ho
   ·obtain⟨v',oG,hp⟩:=vi dF hx
    have aZ:=(auZ.1 oG).1;rw[uG j (cT aZ)] at hv;simp only[avM] at hv;rw[oG] at hv;injection hv with hv
    subst hv;exact⟨hp.gm,.inl (.plain _ _ (hp.mono st.S st.cell st.mp))⟩
  have hr:f.flatten.all (aX s.H.length)=true:=auX.2 fun x hx=>nM (qJ ij hx) _
  have nL:=hW.arr DO (H':=s.H) rfl (fun loc o h=>.inl ⟨h,id,fun _=>id⟩) (fun b o h=>h.elim id (fun h=>h.2.elim)) (fun b hb=>by
   rw[oz.size];have iJ:(if b=w.heap.size then bL.hb s.H.length else gh.κ b)≠.none:=hb
   split at iJ
   ·have:=hW.size;omega
   ·have:=hW.qN b iJ;omega) hB hr
  refine⟨_,gh.bK w.heap.size s.H.length,w.drew.alloc (.cells C' e),.inl (ib ho jE gp mY (by rw[hV];exact fe)),?_⟩
  have:=Out.arr (lo:=s.H.length) (k:=0+f.length) (cap:=xY) (z:=i.size) hF hd st (fun b hb=>(kY hW oz).out b hb) rfl nL kT ⟨e,by rw[hρ];exact⟨C',(0,0),oz.new,by rw[Qj,avt]⟩⟩
  rw[hρ,avt] at this;rw[avt];exact this
 split at he
 ·rename_i hx
  have oy:∃ p,CR gh s.H.length w p (a.eval x) (.slice [] true):=by
   cases yx with
   | tmp t0 =>
    obtain⟨rfl,ht⟩:=kM ji;have oF:s.T t0=.slice [] true:=by
     simp only[aE.addr] at hx
     split at hx<;>first|cases hx|exact hx
    exact⟨_,Hn hF ht oF⟩
   | xI v =>
    simp only[aE.addr] at hx;subst hx;cases x with
    | tmp k =>
     simp only[ar] at ji;rcases av7 (Nat.blt k nt) with hb|hb<;>rw[hb] at ji<;>simp at ji
    | const u =>
     simp only[ar,auP] at ji;obtain⟨zz,hz,h⟩:=ji;injection h with h
     subst h;exact⟨.none,.inl (kP hz)⟩
    | global g=>simp[ar] at ji
    | func f=>simp[ar] at ji
   | aW g=>simp[aE.addr] at hx
   | fn f=>simp[aE.addr] at hx
  obtain⟨_,oy⟩:=oy;obtain⟨ao,hV⟩:=GG oy;exact fresh ao hV he
 ·rename_i hx
  exact fresh none (qh hW hF ji hx rfl).mI he
 ·rename_i l of n zz hx
  split at he
  ·rename_i ty cs hH
   obtain⟨h0,he⟩:=al he;simp only[auR,auV] at he;obtain⟨rfl,rfl⟩:=he;simp only[auT,iE,au1,avm] at h0;obtain⟨⟨⟨⟨⟨⟨rfl,rfl⟩,iG⟩,CL⟩,j7⟩,hh⟩,ij⟩:=h0;obtain⟨news,hs,dF⟩:=vJ (P:=P) hW hF D4 hf hh hu;obtain⟨aZ,cap,apY,hzB,hV⟩:=VR.kU (qh hW hF ji hx rfl);obtain⟨tyb,Cb,frb,xJ,hCb⟩:=hzB (by have:=hT.pos;omega)
   obtain⟨hκ,hS,C,RP,hb,hle,dm⟩:=hW.boxes l ty cs hH;rw[hb] at xJ;injection xJ with xJ
   injection xJ with e1 e2 e3
   subst e1 e2 e3;rw[avt] at hCb;have yB:(C.toList.take (n*i.size)).length=n*i.size:=dw;have hold:∀ {j:Nat} {x:AV},cs[j]?=some x->∃ v,C[j]?=some v/\v.oneCell'=true/\CR gh s.H.length w (.hs l j) v x:=by
    intro j x hj;have h1:=(auU.1 hj).1;have hv:C[j]?=some C[j]:=au' ah;obtain⟨k1,k2⟩:=dm j _ x hv hj;exact⟨_,hv,k1,k2⟩
   have iw:∀ v∈C.toList.take (n*i.size),v.oneCell'=true:=by
    intro v hv;obtain⟨j,hj⟩:=avl hv;have h1:j<n*i.size:=by rw[<- yB];exact (auU.1 hj).1
    rw[avn,if_pos h1] at hj;obtain⟨v',k1,k2,_⟩:=hold (auS (show j<cs.length by omega))
    rw[avD,k1] at hj;injection hj with hj
    subst hj;exact k2
   have T1:Src P i.size t (.slice (some ⟨gh.ρ l,0,none⟩) n cap) n (C.toList.take (n*i.size)) w:=.ofSlice w hT.ht ⟨gh.ρ l,0,none⟩ n cap _ yB (fun j u hj=>by
    rw[addr_add,avt,cell_of_row w _ j C RP _ hb];rw[avn] at hj;split at hj
    ·simpa using hj
    ·cases hj) iw
   have uF:=hs.newsLen;have w9:=kR f (fun r hm=>by obtain⟨k,hk⟩:=avl hm;exact dF.2.1 k r hk)
   have hrefs:(cs++f.flatten).all (aX s.H.length)=true:=by
    rw[awI,auT];refine⟨auX.2 fun x hx=>?_,auX.2 fun x hx=>nM (qJ ij hx) _⟩
    exact J6 (auX.1 (hW.refs l ty cs hH) x hx) ah
   have aa0:∀ {touch:bL->Prop},(∀ r,touch r->j5 l r)->∀ (loc:Nat) (o:bM),(s.H.set l .dead)[loc]?=some o->(s.H[loc]?=some o/\¬ touch (.hb loc)/\∀ j,¬ touch (.hs loc j))\/o=.dead:=by
    intro touch ht loc o h;rw[avO] at h;split at h
    ·injection h with h;exact .inr h.symm
    ·rename_i dp
     refine .inl ⟨h,fun k=>?_,fun j k=>?_⟩
     ·rcases ht _ k with k|⟨_,k⟩
      ·injection k with k;exact dp k.symm
      ·cases k
     ·rcases ht _ k with k|⟨_,k⟩
      ·cases k
      ·injection k with k;exact dp k.symm
   by_cases hgr:cap<n+f.length
   ·
    obtain⟨xY,C',fe,kT,Qj,uG⟩:=grow (P:=P) (ty:=o.type) hT T1.cellsD yB hs hgr j7 CL;have oz:fS w (w.drew.alloc (.cells C' e)) (.cells C' e):=.drew w _;have DO:=jf hW oz (p:=.hb l) ag (fun _=>False) s.H.length
    have st:=DO.renamed (n:=s.H.length) (b:=w.heap.size) (l:=l) (Nat.le_refl _) (fun _ h=>h.elim)
    have hρ:((gh.alloc w.heap.size (.hb l) fun _=>False).rename l s.H.length w.heap.size).ρ s.H.length=w.heap.size:=by simp[Gh.rename]
    have adu:∀ b,(w.drew.alloc (.cells C' e)).heap.size<=b->(gh.alloc w.heap.size (.hb l) fun _=>False).κ b≠.outer:=fun b hb=>by
     have hb0:=oz.size ▸ hb
     show (if b=w.heap.size then bL.hb l else gh.κ b)≠_
     rw[if_neg ah];exact hW.cA b ah
    have hB:iL ((gh.alloc w.heap.size (.hb l) fun _=>False).rename l s.H.length w.heap.size) (s.H.length+1) (w.drew.alloc (.cells C' e)) (((gh.alloc w.heap.size (.hb l) fun _=>False).rename l s.H.length w.heap.size).ρ s.H.length) (.hb s.H.length) (fun j=>.hs s.H.length j) (cs++f.flatten):=by
     rw[hρ];refine⟨by simp[Gh.rename,Gh.alloc],?_,C',e,oz.new,?_,fun j v x hv hx=>?_⟩
     ·rintro o (ho|⟨_,ho⟩)
      ·have:=hW.pN _ o ho;omega
      ·exact ho
     ·rw[List.length_append,iG,w9,Qj,<- avG]
      exact au6 _ kT
     ·have hj:j<(C.toList.take (n*i.size)++news).toArray.size:=by
       have:=(auU.1 hx).1
       rw[List.length_append,iG,w9] at this;simp only[awe,List.length_append,yB,uF];exact this
      rw[uG j hj] at hv;simp only[avu,avJ,yB] at hv;rw[avJ,iG] at hx;split at hv
      ·rename_i h1
       rw[if_pos h1] at hx;obtain⟨v',k1,k2,k3⟩:=hold hx;rw[avn,if_pos h1,avD,k1] at hv;injection hv with hv
       subst hv;exact⟨k2,(k3.mono DO (Nat.le_refl _) id).rename adu (Nat.le_refl _) (Nat.le_succ _)⟩
      ·rename_i h1
       rw[if_neg h1] at hx;obtain⟨v',k1,k2⟩:=vi dF hx;simp only[avu] at k1;rw[k1] at hv;injection hv with hv
       subst hv;exact⟨k2.gm,.inl (.plain _ _ (k2.mono st.S st.cell st.mp))⟩
    have nL:=hW.arr st (H':=s.H.set l .dead) ag (aa0 (fun _ h=>h)) (fun b o h=>h.elim id (fun h=>h.2.elim)) (fun b hb=>by
     rw[oz.size];have CL:(gh.alloc w.heap.size (.hb l) fun _=>False).κ b≠.none:=fun h=>hb (A4.2 h)
     have iJ:(if b=w.heap.size then bL.hb l else gh.κ b)≠.none:=CL
     split at iJ
     ·have:=hW.size;omega
     ·have:=hW.qN b iJ;omega) hB hrefs
    refine⟨_,(gh.alloc w.heap.size (.hb l) fun _=>False).rename l s.H.length w.heap.size,w.drew.alloc (.cells C' e),.inl (ib ho jE gp mY (by rw[hV];exact fe)),?_⟩
    have:=Out.arr (lo:=l) (k:=n+f.length) (cap:=xY) (z:=i.size) hF hd st (fun b hb=>by
     have CL:=s8.1 hb;have iJ:(if b=w.heap.size then bL.hb l else gh.κ b)=.outer:=CL
     split at iJ
     ·cases iJ
     ·exact iJ) ag nL kT ⟨e,by rw[hρ];exact⟨C',(0,0),oz.new,by rw[Qj,avt]⟩⟩
    rw[hρ] at this;exact this
   ·
    have pn:n+f.length<=cap:=ah;have gS:n*i.size+news.length<=C.size:=by rw[uF,hCb,<- avG];exact au6 _ pn
    have fe:=room (P:=P) (ty:=o.type) hT hs hb (Nat.zero_le _) pn gS;have lV:n*i.size+news.toArray.size<=C.size:=cT gS;have mH:∀ o,gh.S (gh.ρ l) o->(gy C (n*i.size) news.toArray)[o]?=C[o]?:=fun o ho=>(hS o ho).elim
    have DO:=nE hW hb (dY lV) mH s.H.length;rw[hκ] at DO;have st:=DO.renamed (n:=s.H.length) (b:=gh.ρ l) (l:=l) (Nat.le_refl _) (fun r h=>.inl h)
    have hρ:(gh.rename l s.H.length (gh.ρ l)).ρ s.H.length=gh.ρ l:=by simp[Gh.rename]
    have j9:(w.setRow (gh.ρ l) (gy C (n*i.size) news.toArray)).heap.size=w.heap.size:=ag;have Mw:=(auZ.1 hb).1;have adu:∀ b,(w.setRow (gh.ρ l) (gy C (n*i.size) news.toArray)).heap.size<=b->gh.κ b≠.outer:=fun b hb=>hW.cA b (by rw[j9] at hb;exact hb)
    have hB:iL (gh.rename l s.H.length (gh.ρ l)) (s.H.length+1) (w.setRow (gh.ρ l) (gy C (n*i.size) news.toArray)) ((gh.rename l s.H.length (gh.ρ l)).ρ s.H.length) (.hb s.H.length) (fun j=>.hs s.H.length j) (cs++f.flatten):=by
     rw[hρ];refine⟨by simp[Gh.rename,hκ],hS,_,RP,setRow_heap w _ C _ RP _ hb,?_,fun j v x hv hx=>?_⟩
     ·rw[List.length_append,iG,w9,dY lV,hCb,<- avG]
      exact au6 _ pn
     ·rw[k9 lV] at hv
      have tU:=(auU.1 hx).1;rw[List.length_append,iG,w9] at tU;rw[avJ,iG] at hx;simp only[awe] at hv;split at hx
      ·rename_i h1
       rw[if_neg ah] at hv;obtain⟨v',k1,k2,k3⟩:=hold hx;rw[k1] at hv;injection hv with hv
       subst hv;exact⟨k2,(k3.mono DO (Nat.le_refl _) ag).rename adu (Nat.le_refl _) (Nat.le_succ _)⟩
      ·rename_i h1
       rw[if_pos ah] at hv;obtain⟨v',k1,k2⟩:=vi dF hx;rw[k1] at hv;injection hv with hv
       subst hv;exact⟨k2.gm,.inl (.plain _ _ (k2.mono st.S st.cell st.mp))⟩
    have nL:=hW.arr st (H':=s.H.set l .dead) ag (aa0 (fun _ h=>h)) (fun b o h=>h) (fun b hb=>by
     rw[j9];exact hW.qN b (fun h=>hb (A4.2 h))) hB hrefs
    refine⟨_,gh.rename l s.H.length (gh.ρ l),w.setRow (gh.ρ l) (gy C (n*i.size) news.toArray),.inl (ib ho jE gp mY (by rw[hV];exact fe)),?_⟩
    have:=Out.arr (lo:=l) (k:=n+f.length) (cap:=cap) (z:=i.size) hF hd st (fun b hb=>s8.1 hb) ag nL pn ⟨RP,by rw[hρ];exact⟨_,(0,0),setRow_heap w _ C _ RP _ hb,by rw[dY lV,hCb,avt]⟩⟩
    rw[hρ] at this;exact this
  ·cases he
 ·cases he
theorem Ml(hW:bf G base s.H gh w)(hF:FR L nt gh w a s){c:Call}{t:TypeId}
  (ho:o.op=.call c) (jE:c.callee=.builtin .append) (gp:c.args.toList=[x,y]) (mY:c.argTypes.toList=[t,u]) (hT:Ar P t e sz bytes) (hu:(∃ e',P.underlying u=some (.slice e'))\/P.underlying u=some .string)
  (ji:ar nt x=some yx) (D4:ar nt y=some yy) (he:ju s sz bytes (yx.addr G s.T) (yy.eval G s.T)=some (z,s')) (hd:∀ k,o.dst=some k->k<nt) :
  ∃ v' bt w',wJ P a o w v' w'/\Out G base nt L gh w a s o.dst z (s'.getD s) v' bt w':=by
 unfold ju at he;split at he
 ·rename_i v hn
  simp only[auR,auV] at he;obtain⟨rfl,rfl⟩:=he;obtain⟨i,zv,hi,_,rfl,_⟩:=hT.hi;have QC:((∃ o,yy.eval G s.T=.slice [] o)\/yy.eval G s.T=.aq)->∃ news,Src P i.size u (a.eval y) 0 news w:=by
   rintro (⟨o,hY⟩|hY)
   ·obtain⟨news,k1,_⟩:=vJ (P:=P) (sz:=i.size) (f:=[]) hW hF D4 (by rw[hY];rfl) rfl hu
    exact⟨news,k1⟩
   ·rw[(cX hW hF D4 hY rfl).mI]
    refine⟨[],hu,fun _=>rfl,run_firstCells_none w _ 0 0 0,run_firstCells_none w.drew _ 0 0 0,ag,fun _ h=>by cases h⟩
  have key:(∃ ao,a.eval x=.slice ao 0 0/\VR gh s.H.length w (a.eval x) v)/\((∃ o,yy.eval G s.T=.slice [] o)\/yy.eval G s.T=.aq):=by
   generalize hY:yy.eval G s.T=Y at hn;generalize hX:yx.addr G s.T=X at hn;unfold GH at hn;split at hn
   ·have tV:∃ ao,a.eval x=.slice ao 0 0:=by
     have oy:∃ p,CR gh s.H.length w p (a.eval x) (.slice [] true):=by
      cases yx with
      | tmp t0 =>
       obtain⟨rfl,ht⟩:=kM ji;have oF:s.T t0=.slice [] true:=by
        simp only[aE.addr] at hX
        grind
       exact⟨_,Hn hF ht oF⟩
      | xI v =>
       simp only[aE.addr] at hX;subst hX;cases x with
       | tmp k =>
        simp only[ar] at ji
        grind
       | const u =>
        simp only[ar,auP] at ji;obtain⟨zz,hz,h⟩:=ji;injection h with h
        subst h;exact⟨.none,.inl (kP hz)⟩
       | global g=>simp[ar] at ji
       | func f=>simp[ar] at ji
      | aW g=>simp[aE.addr] at hX
      | fn f=>simp[aE.addr] at hX
     grind [GG]
    obtain⟨ao,hao⟩:=tV;have T7:=qh hW hF ji hX rfl;split at hn
    ·injection hn with hn;subst hn;exact⟨⟨ao,hao,T7⟩,.inl ⟨_,rfl⟩⟩
    ·injection hn with hn;subst hn;exact⟨⟨ao,hao,T7⟩,.inr rfl⟩
    ·cases hn
   ·have T7:=qh hW hF ji hX rfl
    split at hn
    ·injection hn with hn;subst hn;exact⟨⟨none,T7.mI,T7⟩,.inl ⟨_,rfl⟩⟩
    ·injection hn with hn;subst hn;exact⟨⟨none,T7.mI,T7⟩,.inr rfl⟩
    ·cases hn
   ·cases hn
  obtain⟨hxs,hyc⟩:=key;have QC:=QC hyc;obtain⟨ao,hV,hv⟩:=hxs;obtain⟨news,hs⟩:=QC;have hnn:news=[]:=by have:=hs.newsLen;simp at this;exact this
  subst hnn;refine⟨a.eval x,gh,w,.inl (ib ho jE gp mY ?_),Out.pure hW hF hd (.dU hv)⟩;rw[hV];exact run_append_nothing w t u o.type e i hT.ht hi ao 0 0 (Nat.le_refl _) _ hs
 ·grind [JG]
theorem JK(hW:bf G base s.H gh w)(hF:FR L nt gh w a s){t:TypeId}{len:Nat}{parts:Array (Nat × Operand)}{z:List AV}{ps:List (Nat × aE)}
  (ho:o.op=.buildSlice t len parts) (hu:P.underlying t=some (.slice e)) (hs:fD P e=some sz) (hz:gX P e=some z) (hp:mE nt parts.toList=some ps)
  (HU:len*sz<=16777216) (Ua:z.length=sz) (CT:0<sz) (ij:dZ E=true)
  (he:cQ sz (List.replicate len (z.map AV.drop)) (ps.map fun p=>(p.1,(p.2.eval G s.T).drop))=some E) (hd:∀ k,o.dst=some k->k<nt) :
  ∃ v' bt w',wJ P a o w v' w'/\Out G base nt L gh w a s o.dst (.sref s.H.length 0 E.length sz) (s.iF ⟨s.H++[.box bE E.flatten],s.H.length⟩) v' bt w':=by
 obtain⟨C',fe,dF,Gp⟩:=AY (P:=P) hW hF hu hs hz hp HU Ua CT he;have oz:=fS.alloc w (.cells C' e);have DO:=gQ hW oz;have st:Step (j5 s.H.length) s.H.length gh w (gh.bK w.heap.size s.H.length) (w.alloc (.cells C' e)):=DO.mono (fun _ h=>h.elim)
 have hρ:(gh.bK w.heap.size s.H.length).ρ s.H.length=w.heap.size:=by simp[Gh.bK]
 have w9:=kR E (fun r hm=>by obtain⟨k,hk⟩:=avl hm;exact dF.2.1 k r hk)
 have hB:iL (gh.bK w.heap.size s.H.length) (s.H.length+1) (w.alloc (.cells C' e)) ((gh.bK w.heap.size s.H.length).ρ s.H.length) (.hb s.H.length) (fun j=>.hs s.H.length j) E.flatten:=by
  rw[hρ];refine⟨by simp[Gh.bK,Gh.alloc],?_,C',e,oz.new,by rw[w9,dF.1];exact Nat.le_refl _,fun j v x hv hx=>?_⟩
  ·rintro o (ho|⟨_,ho⟩)
   ·have:=hW.pN _ o ho;omega
   ·exact ho
  ·obtain⟨v',oG,hp⟩:=vi dF hx
   rw[oG] at hv;injection hv with hv
   subst hv;exact⟨hp.gm,.inl (.plain _ _ (hp.mono st.S st.cell st.mp))⟩
 have hr:E.flatten.all (aX s.H.length)=true:=auX.2 fun x hx=>nM (qJ ij hx) _
 have nL:=hW.arr DO (H':=s.H) rfl (fun loc o h=>.inl ⟨h,id,fun _=>id⟩) (fun b o h=>h.elim id (fun h=>h.2.elim)) (fun b hb=>by
  rw[oz.size];have iJ:(if b=w.heap.size then bL.hb s.H.length else gh.κ b)≠.none:=hb
  split at iJ
  ·have:=hW.size;omega
  ·have:=hW.qN b iJ;omega) hB hr
 refine⟨.slice (some ⟨w.heap.size,0,none⟩) len len,gh.bK w.heap.size s.H.length,w.alloc (.cells C' e),.inl ?_,?_⟩
 ·have:(parts.map fun x=>(x.1,a.eval x.2))=parts.map fun p=>(p.1,a.eval p.2):=rfl
  simp[execOp,ho,fe]
 ·have:=Out.arr (lo:=s.H.length) (k:=E.length) (cap:=len) (z:=sz) hF hd st (fun b hb=>(kY hW oz).out b hb) rfl nL (awc Gp) ⟨e,by rw[hρ];exact⟨_,(0,0),oz.new,by rw[dF.1,Gp,avt]⟩⟩
  grind
theorem S2(hW:bf G base s.H gh w)(hF:FR L nt gh w a s){t:TypeId}{i:TypeInfo}{zv:Value}{zero:List AV}
  (ho:o.op=.makeSlice t x y) (WC:Iz x y=true) (ht:P.underlying t=some (.slice e)) (hi:P.info? e=some i) (hz:i.zero=some zv) (hzc:fy zv.cells.toList=some zero) (hzs:zv.cells.size=i.size) (CT:0<i.size)
  (ji:ar nt x=some yx) (he:BA s i.size i.bytes (zero.map AV.drop) (yx.eval G s.T)=some (z,s')) (hd:∀ k,o.dst=some k->k<nt) :
  ∃ v' bt w',wJ P a o w v' w'/\Out G base nt L gh w a s o.dst z (s'.getD s) v' bt w':=by
 simp only[BA,auQ] at he;obtain⟨k,hk,he⟩:=he;obtain⟨h0,he⟩:=al he;simp only[auR,auV] at he;obtain⟨rfl,rfl⟩:=he;simp only[auT,avm] at h0;obtain⟨CL,j7⟩:=h0;obtain⟨kd,HP⟩:=mC hW hF ji hk;have hyx:a.eval y=a.eval x:=by
  cases x<;>cases y<;>simp only[Iz] at WC<;>try (cases WC;done)
  simp_all
 have fe:=run_make (P:=P) w t e i zv ht hi hz kd kd (k:Int) (k:Int) ah ah (by
  have:(i.bytes:Int)*k=((k*i.bytes:Nat):Int):=by rw[axQ];simp
  rw[this];omega) ah
 have oz:fS w (w.alloc (.cells (madeCells zv.cells (k*i.size)) e)) (.cells (madeCells zv.cells (k*i.size)) e):=.alloc w _;have DO:=gQ hW oz;have st:Step (j5 s.H.length) s.H.length gh w (gh.bK w.heap.size s.H.length) (w.alloc (.cells (madeCells zv.cells (k*i.size)) e)):=DO.mono (fun _ h=>h.elim)
 have hρ:(gh.bK w.heap.size s.H.length).ρ s.H.length=w.heap.size:=by simp[Gh.bK]
 obtain⟨Ua,QD⟩:=lP (gh:=gh) (n:=s.H.length) (w:=w) hzc;have ai8:zero.length=i.size:=by rw[<- hzs];simpa using Ua.symm
 have abh:∀ r∈List.replicate k (zero.map AV.drop),r.length=i.size:=fun r hr=>by rw[axn hr];simpa using ai8
 have w9:(List.replicate k (zero.map AV.drop)).flatten.length=k*i.size:=by rw[kR _ abh];simp
 have ij:∀ x,x∈(List.replicate k (zero.map AV.drop)).flatten->x.plain=true:=by
  intro x hx;obtain⟨r,hr,hx⟩:=awS.1 hx
  grind [o7]
 have hB:iL (gh.bK w.heap.size s.H.length) (s.H.length+1) (w.alloc (.cells (madeCells zv.cells (k*i.size)) e)) ((gh.bK w.heap.size s.H.length).ρ s.H.length) (.hb s.H.length) (fun j=>.hs s.H.length j) (List.replicate k (zero.map AV.drop)).flatten:=by
  rw[hρ];refine⟨by simp[Gh.bK,Gh.alloc],?_,_,e,oz.new,by rw[w9,size_madeCells];exact Nat.le_refl _,fun j v x hv hx=>?_⟩
  ·rintro o (ho|⟨_,ho⟩)
   ·have:=hW.pN _ o ho;omega
   ·exact ho
  ·obtain⟨m,q,r,h1,h2,rfl⟩:=BE _ j x abh hx
   have hr:=axn (au0 h1);subst hr;have hq:q<i.size:=by rw[<- ai8];simpa using (auU.1 h2).1
   simp only[List.getElem?_map,auP] at h2;obtain⟨y,hy,rfl⟩:=h2;have tU:=(auZ.1 hv).1;rw[size_madeCells] at tU;simp only[madeCells,Array.getElem?_map,Array.getElem?_range,if_pos tU,au2,auR] at hv;have aiz:(m*i.size+q) % zv.cells.size=q:=by rw[hzs,axQ,Nat.mul_add_mod,Nat.mod_eq_of_lt hq]
   rw[aiz] at hv;have hqz:q<zv.cells.size:=ah;have hc:=au' hqz;have RM:v=zv.cells[q]:=by rw[<- hv];exact getElem!_pos zv.cells q hqz
   subst RM;obtain⟨k1,k2⟩:=QD q _ y (by rw[avD];exact hc) hy
   exact⟨k2,.inl ((k1.dropped).mono st (Nat.le_succ _))⟩
 have hr:(List.replicate k (zero.map AV.drop)).flatten.all (aX s.H.length)=true:=auX.2 fun x hx=>nM (ij x hx) _
 have nL:=hW.arr DO (H':=s.H) rfl (fun loc o h=>.inl ⟨h,id,fun _=>id⟩) (fun b o h=>h.elim id (fun h=>h.2.elim)) (fun b hb=>by
  rw[oz.size];have iJ:(if b=w.heap.size then bL.hb s.H.length else gh.κ b)≠.none:=hb
  split at iJ
  ·have:=hW.size;omega
  ·have:=hW.qN b iJ;omega) hB hr
 refine⟨.slice (some ⟨w.heap.size,0,none⟩) k k,gh.bK w.heap.size s.H.length,w.alloc (.cells (madeCells zv.cells (k*i.size)) e),.inl ?_,?_⟩
 ·have e1:(k:Int).toNat=k:=ag
  rw[e1] at fe;simp only[execOp,ho,hyx,HP];simp[fe]
 ·have:=Out.arr (lo:=s.H.length) (k:=k) (cap:=k) (z:=i.size) hF hd st (fun b hb=>(kY hW oz).out b hb) rfl nL (Nat.le_refl _) ⟨e,by rw[hρ];exact⟨_,(0,0),oz.new,by rw[size_madeCells,avt]⟩⟩
  rw[hρ] at this;exact this
end
end
section
section
variable {P:Program}{G:Nat->List AV}{base nt:Nat}{L:List Nat}{gh og:Gh}{w w' : World}{a:Act}{s:AS}{H:ae}
def Xr(hW:bf G base s.H gh w)(hF:FR L nt gh w a s){op:BinOp}{t:TypeId}{neg b:Bool}
  (ho:o.op=.binOp op t x y u) (hc:ar nt x=some ix) (hn:Nh P op t y=some neg) (he:U4 (ix.eval G s.T)=some b) :
  ∃ v,(execOp a.eval o).run P w=.ok (.value v) w/\oN gh s.H.length nt w s.T s.gen (gN a) v (.bool (neg != b)):=by
 unfold Nh at hn;split at hn
 ·rename_i e hu
  have hx:∃ ad n c,a.eval x=.slice ad n c/\ad.isNone=b:=by
   generalize hX:ix.eval G s.T=X at he;unfold U4 at he;split at he
   ·injection he with he
    subst he;have hv:=cX hW hF hc hX rfl;generalize a.eval x=V at hv;cases hv with
    | plain _ _ h=>cases h;exact⟨_,_,_,rfl,rfl⟩
   ·injection he with he
    subst he;rename_i r es own;have hp:=(cX hW hF hc hX rfl).iT;generalize a.eval x=V at hp;cases hp with
    | slice b of n cap sz _ f hn kT bU dm dv=>exact⟨_,_,_,rfl,rfl⟩
   ·cases he
  obtain⟨ad,n,c,hA,hb⟩:=hx;have hg:(eqGuard op t x (.const (.slice none 0 0)) (.slice ad n c) (.slice none 0 0)).run P w=.ok () w:=gz (by intro c;simp) (.inl ag)
  split at hn
  ·injection hn with hn
   subst hn;have hr:=Lib.run_eql_slice_nil w t e ad n c 0 0 hu;refine⟨.bool ad.isNone,?_,.dU (.plain _ _ ?_)⟩
   ·simp only[execOp,ho,hA,show a.eval (.const (.slice none 0 0))=.slice none 0 0 from rfl,Sem.run_bind,hg,hr,Result.andThen_ok,Sem.run_pure]
   ·rw[hb];cases b<;>exact .bool _
  ·injection hn with hn
   subst hn;have hr:=run_neq_slice_nil_any w t e ad n c 0 0 hu;refine⟨.bool (!ad.isNone),?_,.dU (.plain _ _ ?_)⟩
   ·simp only[execOp,ho,hA,show a.eval (.const (.slice none 0 0))=.slice none 0 0 from rfl,Sem.run_bind,hg,hr,Result.andThen_ok,Sem.run_pure]
   ·rw[hb];cases b<;>exact .bool _
  ·cases hn
 ·cases hn
def Xk(hW:bf G base s.H gh w)(hF:FR L nt gh w a s){t:TypeId}{y:aE}(ho:o.op=.box t x)(hc:ar nt x=some y)(iG:(y.eval G s.T).drop.cells=some cs)
  (hd:∀ k,o.dst=some k->k<nt) :
  ∃ v' bt w',wJ P a o w v' w'/\Out G base nt L gh w a s o.dst (.ref s.H.length 0) (s.iF ⟨s.H++[.bV (cs.map AV.drop)],s.H.length⟩) v' bt w':=by
 have bU:=(rE hW hF hc cs iG).dropped;have hp:fS w (w.alloc (.cells (a.eval x).cells t)) (.cells (a.eval x).cells t):=.alloc w _;have st:=gQ hW hp;have hρ:(gh.bK w.heap.size s.H.length).ρ s.H.length=w.heap.size:=by simp[Gh.bK]
 have hB:iL (gh.bK w.heap.size s.H.length) (s.H.length+1) (w.alloc (.cells (a.eval x).cells t)) w.heap.size (.hb s.H.length) (fun j=>.hs s.H.length j) (cs.map AV.drop):=by
  refine⟨by simp[Gh.bK,Gh.alloc],?_,_,t,hp.new,awc bU.1.symm,fun j v x hv hx=>?_⟩
  ·rintro o (ho|⟨_,ho⟩)
   ·have:=hW.pN _ o ho;omega
   ·exact ho
  ·obtain⟨h1,h2⟩:=bU.2 j v x hv hx
   exact⟨h2,.inl (h1.mono st (Nat.le_succ _))⟩
 have hv:VR (gh.bK w.heap.size s.H.length) (s.H++[bM.bV (cs.map AV.drop)]).length (w.alloc (.cells (a.eval x).cells t)) (.pointer (some ⟨w.heap.size,0,none⟩)) (.ref s.H.length 0):=by
  have:=VR.ref (gh:=gh.bK w.heap.size s.H.length) (w:=w.alloc (.cells (a.eval x).cells t)) (n:=(s.H++[bM.bV (cs.map AV.drop)]).length) s.H.length 0 ag
  rw[hρ] at this;exact this
 refine⟨_,_,_,.inl ?_,⟨hW.Dw hp (fun _ _ h=>by cases h) hB,hF.put st (fun i=>⟨id,id,fun _=>id⟩) ag o.dst hd (.dU hv),kY hW hp⟩⟩
 simp[execOp,ho,Instr.box,newVar,newRow]
def P4(hW:bf G base s.H gh w)(hF:FR L nt gh w a s){t:TypeId}{z:List AV}(ho:o.op=.alloc t){kp:Bool}(hz:(gX P t).map (fun z=>cond kp (z.map oB) z)=some z)
  (hd:∀ k,o.dst=some k->k<nt) :
  ∃ v' bt w',wJ P a o w v' w'/\Out G base nt L gh w a s o.dst (.ref s.H.length 0) (s.iF ⟨s.H++[.bV (z.map AV.drop)],s.H.length⟩) v' bt w':=by
 obtain⟨i,zv,hi,QD,aiP⟩:=rR (gh:=gh) (n:=s.H.length) (w:=w) hz;have bU:=aiP.dropped;have hp:fS w (w.alloc (.cells zv.cells t)) (.cells zv.cells t):=.alloc w _;have st:=gQ hW hp;have hρ:(gh.bK w.heap.size s.H.length).ρ s.H.length=w.heap.size:=by simp[Gh.bK]
 have hB:iL (gh.bK w.heap.size s.H.length) (s.H.length+1) (w.alloc (.cells zv.cells t)) w.heap.size (.hb s.H.length) (fun j=>.hs s.H.length j) (z.map AV.drop):=by
  refine⟨by simp[Gh.bK,Gh.alloc],?_,_,t,hp.new,awc bU.1.symm,fun j v x hv hx=>?_⟩
  ·rintro o (ho|⟨_,ho⟩)
   ·have:=hW.pN _ o ho;omega
   ·exact ho
  ·obtain⟨h1,h2⟩:=bU.2 j v x hv hx
   exact⟨h2,.inl (h1.mono st (Nat.le_succ _))⟩
 have hv:VR (gh.bK w.heap.size s.H.length) (s.H++[bM.bV (z.map AV.drop)]).length (w.alloc (.cells zv.cells t)) (.pointer (some ⟨w.heap.size,0,none⟩)) (.ref s.H.length 0):=by
  have:=VR.ref (gh:=gh.bK w.heap.size s.H.length) (w:=w.alloc (.cells zv.cells t)) (n:=(s.H++[bM.bV (z.map AV.drop)]).length) s.H.length 0 ag
  rw[hρ] at this;exact this
 refine⟨_,_,_,.inl ?_,⟨hW.Dw hp (fun _ _ h=>by cases h) hB,hF.put st (fun i=>⟨id,id,fun _=>id⟩) ag o.dst hd (.dU hv),kY hW hp⟩⟩
 simp[execOp,ho,Ae hi QD]
def wz{c:Call}{t:TypeId}(ho:o.op=.call c)(jE:c.callee=.builtin .copy)(gp:c.args.toList=[x,y])(mY:c.argTypes.toList=[t,u])
  (fe:(Builtin.copy_ #[t,u] o.type #[a.eval x,a.eval y]).run P w=.ok v w'):(execOp a.eval o).run P w=.ok (.value v) w':=by
 have e1:c.args=#[x,y]:=by apply awQ;simpa using gp
 have e2:c.argTypes=#[t,u]:=by apply awQ;simpa using mY
 unfold execOp;simp only[ho,resolve,jE,e1,e2,invoke,builtin,Sem.run_bind,Sem.run_pure,Result.andThen_ok,awR,au9,avC,fe]
theorem KV{j':Nat}(h:(List.range k)[j]?=some j'):j<k/\j'=j:=by
 grind
theorem SE{n:Nat}(h:PR gh.S w V (.slice f false))(hh:gF 1 f=true)(hk:k<=f.length) :
  ∃ (ad:Option Addr) (ln cp:Nat) (Br:List Value),V=.slice ad ln cp/\ln=f.length/\Br.length=k/\(0<k->∃ q,ad=some q/\∀ j v,Br[j]?=some v->w.cell? (q.add j)=some v)/\(∀ r∈f.take k,r.length=1) /\
   ∀ (j:Nat) (u:Value) (x:AV),Br[j]?=some u->((f.take k).flatten)[j]?=some x->u.oneCell'=true/\PR gh.S w u x:=by
 cases h with
 | dq =>
  simp_all
 | slice b of ln cap sz _ g hn kT bU dm dv =>
  have j9:f≠[]->sz=1:=fun dp=>CM hh bU dp
  have akE:∀ (i:Nat) (r:List AV),f[i]?=some r->r.length=1:=fun i r hi=>by
   grind
  have vat:∀ j,j<k->∃ r x,f[j]?=some r/\r[0]?=some x:=fun j hj=>by
   have hr:=auS (show j<f.length by omega)
   exact⟨_,_,hr,auS (by rw[akE _ _ hr];exact Nat.one_pos)⟩
  have dF:∀ r∈f.take k,r.length=1:=fun r hm=>by
   obtain⟨i,hi⟩:=avl (avL hm);exact akE i r hi
  refine⟨some ⟨b,of,none⟩,ln,cap,(List.range k).map fun j=>g j 0,rfl,hn.symm,ag,fun _=>⟨_,rfl,fun j v hv=>?_⟩,dF,fun j u x hu hx=>?_⟩
  ·grind [KV,addr_add]
  ·simp only[List.getElem?_map,auP] at hu
   obtain⟨j',Bh,rfl⟩:=hu;obtain⟨aZ,rfl⟩:=KV Bh;obtain⟨i,q,r,e1,e2,e3⟩:=BE (f.take k) _ x dF hx;have hq:q=0:=by
    have:=(auU.1 e2).1
    rw[dF r (au0 e1)] at this;omega
   subst hq;rw[awK,au7] at e3;subst e3;have e1' : f[j']?=some r:=by
    rw[avn,if_pos aZ] at e1;exact e1
   exact⟨(dm _ 0 r x e1' e2).2.2,dv _ 0 r x e1' e2⟩
def SY(hW:bf G base s.H gh w)(hF:FR L nt gh w a s){c:Call}{t:TypeId}
  (ho:o.op=.call c) (jE:c.callee=.builtin .copy) (gp:c.args.toList=[x,y]) (mY:c.argTypes.toList=[t,u]) (hu:P.underlying t=some (.slice e)) (hs:fD P e=some 1)
  (ji:ar nt x=some yx) (D4:ar nt y=some yy) (he:yj s (yx.addr G s.T) (yy.eval G s.T)=some (z,s')) (hd:∀ k,o.dst=some k->k<nt) :
  ∃ v' bt w',wJ P a o w v' w'/\Out G base nt L gh w a s o.dst z (s'.getD s) v' bt w':=by
 have j9:(P.info? e).map (·.size)=some 1:=hs;have hm:=arg_val hW hF ji;unfold yj at he;split at he
 ·
  rename_i l o0 n zz f own hX hY;rw[hX] at hm;obtain⟨aZ,cap,hk,_,hA⟩:=VR.kU (hm:VR gh s.H.length w (a.eval x) (.sref l o0 n zz));have hp:=(cX hW hF D4 hY rfl).iT;split at he
  ·rename_i cs hH
   obtain⟨h0,iY⟩:=al he;clear he;simp only[auR,auV] at iY;obtain⟨rfl,rfl⟩:=iY;simp only[auT,iE,au1,avm] at h0;obtain⟨⟨⟨rfl,hh⟩,ij⟩,gS⟩:=h0;obtain⟨hκ,hS,C,ty,hb,hC,iG⟩:=(hW.more l _ hH:iL gh s.H.length w (gh.ρ l) (.hb l) (fun j=>.hs l j) cs)
   have Ft:Nat.min f.length n<=f.length:=Nat.min_le_left _ _;have Qr:Nat.min f.length n<=n:=Nat.min_le_right _ _;obtain⟨ad,ln,cp,Br,hV,hln,Wz,hq,abg,dv⟩:=SE (n:=0) hp hh Ft;generalize MB:Nat.min f.length n=k at *;have iw:∀ u∈Br,u.oneCell'=true:=by
    intro u hu;obtain⟨j,hj⟩:=avl hu;have tU:j<k:=by rw[<- Wz];exact (auU.1 hj).1
    have w9:(f.take k).flatten.length=k:=by rw[kR _ abg];simp;omega
    exact (dv j u _ hj (auS (by rw[w9];exact tU))).1
   have TG:o0+Br.toArray.size<=C.size:=dw;have fe:(Builtin.copy_ #[t,u] o.type #[a.eval x,a.eval y]).run P w=.ok (.int .i64 (k:Int)) (w.setRow (gh.ρ l) (gy C o0 Br.toArray)):=by
    rw[hA,hV]
    by_cases zh:k=0
    ·have hv0:Br=[]:=avc.1 ah
     have X4:gy C o0 (#[]:Array Value)=C:=by simp[gy]
     rw[hv0,X4,setRow_self w _ C ty (0,0) hb];have:=run_copy_none (P:=P) w t u o.type e (some ⟨gh.ρ l,o0,none⟩) ad n cap ln cp hu j9 (by rw[hln,MB];exact zh)
     rw[this,zh];rfl
    ·obtain⟨q,rfl,an5⟩:=hq ah
     have:=run_copy_row (P:=P) w t u o.type e (gh.ρ l) o0 n cap q ln cp C ty Br hu j9 hb (by rw[Wz,hln,MB]) an5 (cT TG) iw
     rw[this];simp[gy,Wz,goInt]
   have mH:∀ o,gh.S (gh.ρ l) o->(gy C o0 Br.toArray)[o]?=C[o]?:=fun o ho=>(hS o ho).elim
   have OG:=dY TG;have st:=nE hW hb OG mH s.H.length;have hE:=DB hW hb OG mH (by rw[hκ];simp) (by rw[hκ];simp) s.H.length
   rw[hκ] at st;have dF:(f.take k).flatten.length=k:=by
    rw[kR _ abg];simp;omega
   have hB:iL gh s.H.length (w.setRow (gh.ρ l) (gy C o0 Br.toArray)) (gh.ρ l) (.hb l) (fun j=>.hs l j) (putAt cs o0 (f.take k).flatten):=by
    refine⟨hκ,hS,_,ty,setRow_heap w _ C _ ty _ hb,by rw[OG,rG (by rw[dF];omega)];exact hC,fun j u x Gm Bi=>?_⟩
    rw[k9 TG] at Gm;rw[vC (by rw[dF];omega)] at Bi
    simp only[awe,Wz] at Gm;rw[dF] at Bi;split at Gm
    ·rename_i hc
     rw[if_pos hc] at Bi;obtain⟨k1,k2⟩:=dv _ u x (cT Gm) Bi;exact⟨k1,.inl (.plain _ _ (k2.mono st.S st.cell st.mp))⟩
    ·rename_i hc
     rw[if_neg hc] at Bi;obtain⟨k1,k2⟩:=iG j u x Gm Bi;exact⟨k1,k2.mono st (Nat.le_refl _) ag⟩
   have HK:bf G base (s.H.set l (.bV (putAt cs o0 (f.take k).flatten))) gh (w.setRow (gh.ρ l) (gy C o0 Br.toArray)) :=
    hW.BT st aZ (by intro k hk;simp[hk]) (fun b o ho=>by simpa using hW.pN b o ho) (fun b hb=>by simpa using hW.qN b hb) (fun _ _ h=>by cases h) hB (fun _ _ _ h=>.inl h)
   refine⟨.int .i64 k,gh,_,.inl (wz ho jE gp mY fe),HK,?_,hE⟩;exact hF.put (H':=s.H.set l (.bV (putAt cs o0 (f.take k).flatten))) (lo':=cond (Nat.blt l s.lo) l s.lo) st (fun i=>⟨ag,ag,ag⟩) ag o.dst hd (.dU (.plain _ _ (.int _ _)))
  ·cases he
 ·
  rename_i own f atd hX hY;simp only[auR,auV] at he;obtain⟨rfl,rfl⟩:=he;rw[hX] at hm;have h1:∃ ad cp,a.eval x=.slice ad 0 cp:=by
   have hp:=VR.iT (hm:VR gh s.H.length w (a.eval x) (.slice [] false));generalize a.eval x=V at hp;cases hp with
   | dq=>exact⟨_,_,rfl⟩
   | slice b of n cap sz _ f hn _ _ _ _=>simp at hn;subst hn;exact⟨_,_,rfl⟩
  have h2:∃ ad n cp,a.eval y=.slice ad n cp:=by
   have hp:=(cX hW hF D4 hY rfl).iT;generalize a.eval y=V at hp;cases hp with
   | dq=>exact⟨_,_,_,rfl⟩
   | slice b of n cap sz _ f hn _ _ _ _=>exact⟨_,_,_,rfl⟩
  obtain⟨ad,cp,h1⟩:=h1;obtain⟨ad',n',cp',h2⟩:=h2;have fe:=run_copy_none (P:=P) w t u o.type e ad ad' 0 cp n' cp' hu j9 (Nat.min_zero _);rw[<- h1,<- h2] at fe;refine⟨.int .i64 0,gh,w,.inl (wz ho jE gp mY fe),?_⟩;exact Out.pure hW hF hd (.dU (.plain _ _ (.int _ _)))
 ·cases he
end
end
section
section
variable {P:Program}{G:Nat->List AV}{base nt:Nat}{L:List Nat}{gh:Gh}{w w' : World}{a:Act}{s:AS}{H:ae}
def AT(h:isLocal locals d=true):∃ k,d=some k/\k∈locals:=by
 cases d with
 | none=>cases h
 | some k=>exact⟨k,rfl,by simpa [isLocal] using h⟩
theorem xi{l:List Nat}(h:lM l d=true):∃ k,d=some k/\k∈l:=by
 cases d with
 | none=>cases h
 | some k=>exact⟨k,rfl,by simpa [lM] using h⟩
def QS{k:rT}{e:List (List AV)}{t:TypeId}{ao:Option Addr}(hV:V=.slice ao e.length cap)(ht:match k with|.str=>P.underlying t=some .string|.sl=>∃ e,P.underlying t=some (.slice e)|.arr m=>∃ e,P.underlying t=some (.array m e))
  (he:cZ k (.slice e false)=some z) (ty:TypeId) {n:Nat} : ∃ v,(Builtin.len_ #[t] ty #[V]).run P w=.ok v w/\VR gh n w v z:=by
 subst hV;cases k<;>simp only[cZ,auR,reduceCtorEq] at he<;>subst he
 ·obtain⟨e',ht⟩:=ht
  exact⟨.int .i64 e.length,by simp[Builtin.len_,run_underlying ht,goInt],.plain _ _ (.int _ _)⟩
 ·obtain⟨e',ht⟩:=ht
  exact⟨.int .i64 _,by simp[Builtin.len_,run_underlying ht,goInt],.plain _ _ (.int _ _)⟩
def aaQ(hW:bf G base s.H gh w)(hF:FR L nt gh w a s){c:Call}{iy:aE}{mx:Bool}(ho:o.op=.call c)(jE:c.callee=.builtin (cond mx .max .min))(gp:c.args.toList=[x,y])
  (hx:ar nt x=some ix) (hy:ar nt y=some iy) (he:aeW mx (ix.eval G s.T) (iy.eval G s.T)=some z):∃ v,(execOp a.eval o).run P w=.ok (.value v) w/\oN gh s.H.length nt w s.T s.gen (gN a) v z:=by
 generalize hX:ix.eval G s.T=X at he;generalize hY:iy.eval G s.T=Y at he;unfold aeW at he;split at he
 ·obtain⟨h0,he⟩:=al he
  injection he with he
  subst he;have h1:=(cX hW hF hx hX rfl).kC;have h2:=(cX hW hF hy hY rfl).kC;have e1:c.args=#[x,y]:=by apply awQ;simpa using gp
  cases mx
  ·refine⟨_,?_,.dU (.plain _ _ (.int _ _))⟩
   unfold execOp;simp only[ho,resolve,jE,e1,invoke,builtin,Sem.run_bind,Sem.run_pure,Result.andThen_ok,awR,au9,avC,cond_false,h1,h2,Builtin.min_,Builtin.min2,List.foldlM_cons,List.foldlM_nil]
  ·refine⟨_,?_,.dU (.plain _ _ (.int _ _))⟩
   unfold execOp;simp only[ho,resolve,jE,e1,invoke,builtin,Sem.run_bind,Sem.run_pure,Result.andThen_ok,awR,au9,avC,cond_true,h1,h2,Builtin.max_,Builtin.max2,List.foldlM_cons,List.foldlM_nil]
 ·cases he
def YD{t:TypeId}(ht:P.underlying t=some (.array m e))(ty:TypeId){n:Nat} : ∃ v,(Builtin.len_ #[t] ty #[V]).run P w=.ok v w/\VR gh n w v (.int .i64 m) :=
 ⟨.int .i64 _,by simp[Builtin.len_,run_underlying ht,goInt],.plain _ _ (.int _ _)⟩
def Mn(hW:bf G base s.H gh w)(hF:FR L nt gh w a s){c:Call}{t:TypeId}{y:aE}{k:rT}
  (ho:o.op=.call c) (jE:c.callee=.builtin .len) (gp:c.args.toList=[x]) (mY:c.argTypes.toList=[t]) (hc:ar nt x=some y)
  (ht:match k with|.str=>P.underlying t=some .string|.sl=>∃ e,P.underlying t=some (.slice e)|.arr m=>∃ e,P.underlying t=some (.array m e))
  (he:aQ G cf s (.len k y)=some (z,s')):s'=none/\∃ v,(execOp a.eval o).run P w=.ok (.value v) w/\oN gh s.H.length nt w s.T s.gen (gN a) v z:=by
 simp only[aQ] at he;have fin:∀ {zz:AV},(∃ v,(Builtin.len_ #[t] o.type #[a.eval x]).run P w=.ok v w/\VR gh s.H.length w v zz)->∃ v,(execOp a.eval o).run P w=.ok (.value v) w/\oN gh s.H.length nt w s.T s.gen (gN a) v zz :=
  fun ⟨v,h1,h2⟩=>⟨v,Ix ho jE gp mY h1,.dU h2⟩
 split at he
 ·rename_i tt g hy
  split at he
  ·rename_i g' e hT
   obtain⟨h0,he⟩:=al he;have Ka:g=g':=by simpa [iE] using h0
   simp only[auP,auV] at he;obtain⟨z',hz,rfl,rfl⟩:=he;refine⟨rfl,fin ?_⟩;have hv:=arg_val hW hF hc;rw[hy] at hv;obtain⟨hb,_,hr⟩:=(hv:_/\_/\_);have tE:=hr (by rw[hT,<- Ka];rfl)
   obtain⟨ad,cap,hV,_⟩:=pR hF hb hT;exact QS (tE.trans hV) ht hz o.type
  ·cases he
 ·simp only[auP,auV] at he
  obtain⟨z',hz,rfl,rfl⟩:=he;refine⟨rfl,fin ?_⟩;cases k with
  | arr m =>
   obtain⟨e,ht⟩:=ht;simp only[cZ,auR] at hz;subst hz;exact YD ht o.type
  | _ =>
   have J' : aM (y.addr G s.T)=true:=by
    generalize y.addr G s.T=Y at hz
    cases Y<;>first|rfl|(simp[cZ] at hz)
   exact Xn (qh hW hF hc rfl J') ht hz o.type
theorem Cu(tO:je P G cf)(hW:bf G base s.H gh w)(hF:FR L nt gh w a s){io:oc}(cg:dI P dW locals muts nt o.dst o.op=some io)
  (Lt:∀ x,x∈locals->x∈L) (Lu:∀ x,x∈muts->x∈L) {z:AV} {s' : Option AS} (he:aQ G cf s io=some (z,s')) (hd:∀ k,o.dst=some k->k<nt) (K:Act->World->Prop) (Q:Exit->Act->World->Prop)
  (hK:∀ v' bt w',Out G base nt L gh w a s o.dst z (s'.getD s) v' bt w'->K (a.put o.dst v') w'):o.wp P a w K Q:=by
 have fin:s'=none->(∃ v,(execOp a.eval o).run P w=.ok (.value v) w/\oN gh s.H.length nt w s.T s.gen (gN a) v z)->o.wp P a w K Q:=by
  rintro rfl ⟨v,h1,h2⟩
  exact wJ.wp (.inl h1) (hK v gh w (Out.pure hW hF hd h2))
 have sy:(∃ v' bt w',wJ P a o w v' w'/\Out G base nt L gh w a s o.dst z (s'.getD s) v' bt w')->o.wp P a w K Q:=by
  grind [wJ.wp]
 have ase:∀ x y,(o.op=.move x\/o.op=.assign x)->ar nt x=some y->io=.mov (lM dW o.dst) (lM muts o.dst) (cond (lM muts o.dst) (Ij y) y)->o.wp P a w K Q:=by
  intro x y ho hc hio;subst hio;simp only[aQ] at he
  by_cases HS:∃ v,y=.xI v/\lM muts o.dst=true
  ·obtain⟨v,rfl,hm⟩:=HS
   rw[hm] at he;simp only[cond_true,Ij,qZ,auR,auV,aE.eval] at he;obtain⟨rfl,rfl⟩:=he;refine fin rfl ⟨a.eval x,?_,.dU ?_⟩
   ·rcases ho with ho|ho<;>simp[execOp,ho]
   ·cases x with
    | tmp k =>
     simp only[ar] at hc
     grind
    | const u =>
     simp only[ar,auP] at hc;obtain⟨zz,hz,h⟩:=hc;injection h with h
     subst h;exact Ht hz
    | global g=>simp[ar] at hc
    | func f=>simp[ar] at hc
  have aiR:cond (lM muts o.dst) (Ij y) y=y:=by
   cases hm:lM muts o.dst with
   | false=>rfl
   | true=>cases y<;>first|rfl|exact absurd ⟨_,rfl,hm⟩ HS
  rw[aiR] at he;cases s' with
  | none =>
   refine fin rfl ⟨a.eval x,?_,acR hW hF hc he⟩
   rcases ho with ho|ho<;>simp[execOp,ho]
  | some s' =>
   refine sy (HB hW hF ho hc he hd (fun h k hk=>?_))
   grind [xi]
 cases fa:o.op with
 | move x =>
  rw[fa] at cg;simp only[dI,auP] at cg
  grind
 | assign x =>
  rw[fa] at cg;simp only[dI,auP] at cg
  grind
 | pick c x y =>
  rw[fa] at cg;simp only[dI,auQ,auP] at cg;obtain⟨ic,hc,ix,hx,iy,hy,rfl⟩:=cg;simp only[aQ] at he;split at he
  ·rename_i t ht
   simp only[auR,auV] at he;obtain⟨rfl,rfl⟩:=he;exact fin rfl (Xs hW hF fa hc hx hy ht)
  ·cases he
 | alloc t =>
  rw[fa] at cg;simp only[dI,auQ] at cg;obtain⟨zz,hz,cg⟩:=cg;cases hl:isLocal locals o.dst with
  | true =>
   rw[hl] at cg;simp only[cond_true,auR] at cg;subst cg;simp only[aQ,auR,auV] at he;obtain⟨rfl,rfl⟩:=he;obtain⟨k,hk,Ft⟩:=AT hl;exact sy (P0 hW hF fa hz (fun k' tF=>⟨hd k' tF,by rw[hk] at tF;injection tF with e;subst e;exact Lt _ Ft⟩))
  | false =>
   rw[hl] at cg;simp only[cond_false,auR] at cg;subst cg;rcases av7 (JS 500000 muts o.dst) with hm|hm
   ·rw[hm] at he
    simp only[cond_true,aQ,Nl] at he;obtain⟨cs,iG,h0,rfl,rfl⟩:=he;have WD:cs=zz:=(avF iG).symm;subst WD;exact sy (P4 hW hF fa hz hd)
   ·rw[hm] at he
    simp only[cond_false,aQ,auR,auV] at he;obtain⟨rfl,rfl⟩:=he;exact sy (PZ hW hF fa hz hd)
 | box t x =>
  rw[fa] at cg;simp only[dI,auP] at cg;obtain⟨y,hc,rfl⟩:=cg;cases hl:isLocal locals o.dst with
  | true =>
   rw[hl] at he;simp only[cond_true,aQ,auP,auV] at he;obtain⟨cs,iG,rfl,rfl⟩:=he;obtain⟨k,hk,Ft⟩:=AT hl;exact sy (Xj hW hF fa hc iG (fun k' tF=>⟨hd k' tF,by rw[hk] at tF;injection tF with e;subst e;exact Lt _ Ft⟩))
  | false =>
  rw[hl,cond_false] at he;rcases av7 (JS 500000 muts o.dst) with hm|hm
  ·rw[hm] at he
   simp only[cond_true,aQ,Nl] at he;obtain⟨cs,iG,h0,rfl,rfl⟩:=he;exact sy (Xk hW hF fa hc iG hd)
  ·rw[hm] at he
   simp only[cond_false,aQ,Nl] at he;obtain⟨cs,iG,h0,rfl,rfl⟩:=he;exact sy (acP hW hF fa hc iG h0 hd)
 | build t parts =>
  rw[fa] at cg;simp only[dI,auQ] at cg;obtain⟨zz,hz,cg⟩:=cg;split at cg
  ·rename_i fs hu
   simp only[Nl] at cg;obtain⟨h0,ps,hp,rfl⟩:=cg;simp only[aQ,auP,auV] at he;obtain⟨Z,hZ,rfl,rfl⟩:=he;exact fin rfl (Bb hW hF fa hz hu hp (Option.isSome_iff_exists.1 h0) hZ)
  ·rename_i n e hu
   simp only[auQ,auP] at cg;obtain⟨sz,hs,ps,hp,rfl⟩:=cg;simp only[aQ,auP,auV] at he;obtain⟨Z,hZ,rfl,rfl⟩:=he;exact fin rfl (Cw hW hF fa hz hu hs hp hZ)
  ·cases cg
 | buildSlice t len parts =>
  rw[fa] at cg;simp only[dI] at cg;split at cg
  ·rename_i e hu
   simp only[auQ] at cg;obtain⟨sz,hs,zz,hz,ps,hp,cg⟩:=cg;obtain⟨h0,cg⟩:=al cg;injection cg with cg
   subst cg;simp only[auT,avm,iE,au1,avh] at h0;cases hl:isLocal locals o.dst with
   | true =>
    rw[hl] at he;simp only[cond_true,aQ,Nl] at he;obtain⟨E,hE,qE,rfl,rfl⟩:=he;exact sy (JK hW hF fa hu hs hz hp h0.1.1 h0.1.2 h0.2 qE hE hd)
   | false =>
   rw[hl] at he;simp only[cond_false,aQ,Nl] at he;obtain⟨E,hE,qE,rfl,rfl⟩:=he;exact sy (Mo hW hF fa hu hs hz hp qE (fun h=>avR h) h0.1.1 h0.1.2 h0.2 hE hd)
  ·cases cg
 | load t x =>
  rw[fa] at cg;simp only[dI,auQ,auP] at cg;obtain⟨y,hc,g,hg,sz,hs,rfl⟩:=cg;simp only[aQ] at he;cases s' with
  | none =>
   obtain⟨v,h1,h2⟩:=Xo (P:=P) hW hF hc hg hs he;exact fin rfl ⟨v,by simp[execOp,fa,h1],h2⟩
  | some s'=>exact sy (HA hW hF fa hc hg hs he hd)
 | store t x y =>
  rw[fa] at cg;simp only[dI,auQ,auP] at cg;obtain⟨ya,Oz,yv,hcv,sz,hs,rfl⟩:=cg;simp only[aQ,auP,auV] at he;obtain⟨s1,he,rfl,rfl⟩:=he;exact sy (S4 hW hF fa Oz hcv hs he hd)
 | nilCheck x =>
  rw[fa] at cg;simp only[dI,auP] at cg;obtain⟨y,hc,rfl⟩:=cg;simp only[aQ,Nl] at he;obtain⟨h0,rfl,rfl⟩:=he;exact fin rfl (JL hW hF fa hc h0)
 | binOp op t x y u =>
  rw[fa] at cg;simp only[dI,auQ] at cg;obtain⟨ix,hx,iy,hy,cg⟩:=cg;split at cg
  ·rename_i neg hn
   injection cg with cg
   subst cg;simp only[aQ,auP,auV] at he;obtain⟨b,hb,rfl,rfl⟩:=he;exact fin rfl (Xr hW hF fa hx hn hb)
  ·injection cg with cg
   subst cg;simp only[aQ,auP,auV] at he;obtain⟨z',hz,rfl,rfl⟩:=he;exact fin rfl (acO hW hF fa hx hy hz)
 | unOp op t x =>
  rw[fa] at cg;simp only[dI,auP] at cg;obtain⟨y,hc,rfl⟩:=cg;simp only[aQ,auP,auV] at he;obtain⟨z',hz,rfl,rfl⟩:=he;exact fin rfl (ahD hW hF fa hc hz)
 | convert st dt x =>
  rw[fa] at cg;simp only[dI,auQ] at cg;obtain⟨y,hc,cg⟩:=cg;split at cg
  ·rename_i k' k h1 h2
   injection cg with cg
   subst cg;simp only[aQ,auP,auV] at he;obtain⟨z',hz,rfl,rfl⟩:=he;exact fin rfl (S5 hW hF fa hc h1 h2 hz)
  ·rename_i h1 h2
   injection cg with cg
   subst cg;simp only[aQ,auP,auV] at he;obtain⟨z',hz,rfl,rfl⟩:=he;exact fin rfl (Mp hW hF fa hc h1 h2 hz)
  ·rename_i e h1 h2
   split at cg
   ·rename_i hE
    injection cg with cg
    subst cg;simp only[aQ,auP,auV] at he;obtain⟨z',hz,rfl,rfl⟩:=he;exact fin rfl (JI hW hF fa hc h1 hE h2 hz)
   ·cases cg
  ·cases cg
 | makeFunc f first captured =>
  rw[fa] at cg;simp only[dI,auQ,auP] at cg;obtain⟨fs,h1,cs,h2,rfl⟩:=cg;simp only[aQ,Nl] at he;obtain⟨h0,rfl,rfl⟩:=he;simp only[auT] at h0;exact fin rfl (P7 hW hF fa h1 h2 h0.1 h0.2)
 | slice t x lo hi mx =>
  rw[fa] at cg;simp only[dI,auQ] at cg;obtain⟨ix,hc,QE,h1,OJ,h2,HX,h3,cg⟩:=cg;split at cg
  ·rename_i hu
   injection cg with cg
   subst cg;simp only[aQ,auP,auV] at he;obtain⟨z',hz,rfl,rfl⟩:=he;exact fin rfl (HD hW hF fa hc h1 h2 h3 hu hz)
  ·rename_i e hu
   simp only[auP] at cg;obtain⟨sz,hs,rfl⟩:=cg;simp only[aQ,auP,auV] at he;obtain⟨z',hz,rfl,rfl⟩:=he;exact fin rfl (JM hW hF fa hc h1 h2 h3 hu hs hz)
  ·rename_i n e hu
   simp only[auQ] at cg;obtain⟨sz,hs,cg⟩:=cg;obtain⟨h0,cg⟩:=al cg;injection cg with cg
   subst cg;simp only[aQ,auP,auV] at he;obtain⟨z',hz,rfl,rfl⟩:=he;exact fin rfl (HC hW hF fa hc h1 h2 h3 hu hs (by simpa [avh] using h0) hz)
  ·cases cg
 | fieldAddr t x f =>
  rw[fa] at cg;simp only[dI,auQ] at cg;obtain⟨ix,hc,cg⟩:=cg;split at cg
  ·rename_i fs hu
   simp only[auQ] at cg;obtain⟨q,hq,sz,hs,cg⟩:=cg;obtain⟨h0,cg⟩:=al cg;injection cg with cg
   subst cg;simp only[aQ,Nl] at he;obtain⟨hl,z',hz,rfl,rfl⟩:=he;exact fin rfl (Hz hW hF fa hc hu hq hs (by simpa [avh] using h0) hl hz)
  ·cases cg
 | indexAddr t x i =>
  rw[fa] at cg;simp only[dI,auQ] at cg;obtain⟨ix,hc,ii,hi,cg⟩:=cg;split at cg
  ·rename_i e hu
   simp only[auP] at cg;obtain⟨sz,hs,rfl⟩:=cg;simp only[aQ] at he;split at he
   ·rename_i el own hy
    simp only[Nl] at he;obtain⟨k,hk,r,hr,h0,rfl,rfl⟩:=he;exact fin rfl (Xm hW hF fa hc hi hu hs hk hy hr (by simpa [iE] using h0))
   ·rename_i l of m hy
    simp only[Nl] at he;obtain⟨k,hk,h0,rfl,rfl⟩:=he;exact fin rfl (P6 hW hF fa hc hi hu hs hk hy (by simpa [avh] using h0))
   ·rename_i b g hy
    split at he
    ·rename_i g' el hT
     obtain⟨h0,he⟩:=al he;have Ka:g=g':=by simpa [iE] using h0
     simp only[Nl] at he;obtain⟨k,hk,r,hr,h0,rfl,rfl⟩:=he;exact fin rfl (S1 hW hF fa hc hi hu hs hk hy (by rw[hT,Ka]) hr (by simpa [iE] using h0))
    ·cases he
   ·cases he
  ·rename_i n e hu
   simp only[auP] at cg;obtain⟨sz,hs,rfl⟩:=cg;simp only[aQ,auQ] at he;obtain⟨k,hk,he⟩:=he;obtain⟨h0,he⟩:=al he;simp only[auT,avh] at h0;simp only[auP,auV] at he;obtain⟨z',hz,rfl,rfl⟩:=he;exact fin rfl (S0 hW hF fa hc hi hu hs hk h0.1 h0.2 hz)
  ·cases cg
 | index t x i =>
  rw[fa] at cg;simp only[dI,auQ] at cg;obtain⟨ix,hc,ii,hi,cg⟩:=cg;split at cg
  ·rename_i hu
   injection cg with cg
   subst cg;simp only[aQ] at he;split at he
   ·rename_i l hz
    simp only[auQ,auP,auV] at he;obtain⟨k,hk,b,hb,rfl,rfl⟩:=he;exact fin rfl (JJ hW hF fa hc hi hu hk hz hb)
   ·cases he
  ·rename_i n e hu
   simp only[auQ,auP] at cg;obtain⟨sz,hs,g,hg,rfl⟩:=cg;simp only[aQ,auQ] at he;obtain⟨k,hk,he⟩:=he;obtain⟨h0,he⟩:=al he;split at he
   ·rename_i cs hz
    simp only[auP,auV] at he;obtain⟨z',hl,rfl,rfl⟩:=he;exact fin rfl (SZ hW hF fa hc hi hu hs hg hk (by simpa [avh] using h0) hz hl)
   ·cases he
  ·cases cg
 | extract x i =>
  rw[fa] at cg;simp only[dI,auP] at cg;obtain⟨y,hc,rfl⟩:=cg;simp only[aQ] at he;split at he
  ·rename_i vs hz
   simp only[auP,auV] at he;obtain⟨z',WD,rfl,rfl⟩:=he;exact fin rfl (Mm hW hF fa hc hz WD)
  ·cases he
 | call c =>
  rw[fa] at cg;simp only[dI,x7] at cg;split at cg
  ·rename_i fx jE
   simp only[auQ,auP] at cg;obtain⟨yf,ji,ys,D4,rfl⟩:=cg;simp only[aQ] at he;split at he
   ·rename_i f fs cs adv
    obtain⟨h0,he⟩:=al he;simp only[auP,auV] at he;obtain⟨⟨r,ch⟩,hr,rfl,rfl⟩:=he;exact Xl tO hW hF fa jE ji D4 adv h0 hr hd K Q hK
   ·cases he
  ·rename_i jE
   split at cg
   ·rename_i x t gp mY
    simp only[auQ] at cg;obtain⟨y,hc,cg⟩:=cg;split at cg
    ·rename_i hu
     injection cg with cg
     subst cg;obtain⟨h1,h2⟩:=Mn (P:=P) hW hF fa jE gp mY hc (k:=.str) hu he;exact fin h1 h2
    ·rename_i e hu
     injection cg with cg
     subst cg;obtain⟨h1,h2⟩:=Mn (P:=P) hW hF fa jE gp mY hc (k:=.sl) ⟨_,hu⟩ he;exact fin h1 h2
    ·rename_i n e hu
     injection cg with cg
     subst cg;obtain⟨h1,h2⟩:=Mn (P:=P) hW hF fa jE gp mY hc (k:=.arr n) ⟨_,hu⟩ he;exact fin h1 h2
    ·cases cg
   ·cases cg
  ·rename_i jE
   split at cg
   ·rename_i x y t u gp mY
    simp only[auQ] at cg;obtain⟨yx,ji,yy,D4,cg⟩:=cg;have go:∀ e,P.underlying t=some (.slice e)->((∃ e',P.underlying u=some (.slice e'))\/P.underlying u=some .string) ->
      ((P.info? e).bind fun i=>cond (Nat.blt 0 i.size&&(i.zero.map fun z=>Nat.beq z.cells.size i.size).getD false) (some (cond (isLocal locals o.dst) (oc.appendO i.size i.bytes yx yy) (oc.append (Nat.beq e jg) (lM muts o.dst) i.size i.bytes yx yy))) none)=some io->o.wp P a w K Q:=by
     intro e ht hu cg;simp only[auQ] at cg;obtain⟨i,hi,cg⟩:=cg;obtain⟨h0,cg⟩:=al cg;injection cg with cg
     subst cg;simp only[auT,avh] at h0;obtain⟨h0,h1⟩:=h0;have hT:Ar P t e i.size i.bytes:=by
      cases hz:i.zero with
      | none=>rw[hz] at h1;cases h1
      | some zv=>rw[hz] at h1;exact⟨ht,⟨i,zv,hi,hz,rfl,rfl,by simpa [iE] using h1⟩,h0⟩
     cases hob:isLocal locals o.dst with
     | true =>
      rw[hob] at he;simp only[cond_true,aQ] at he;exact sy (Ml hW hF fa jE gp mY hT hu ji D4 he hd)
     | false =>
     rw[hob] at he;simp only[cond_false,aQ] at he;refine sy (P5 hW hF fa jE gp mY hT (fun h=>avR h) hu ji D4 he hd (fun h k hk=>?_))
     obtain⟨k',h1,h2⟩:=xi h;rw[h1] at hk;injection hk with hk;subst hk
     exact Lu _ h2
    split at cg
    ·rename_i e e' ht hu
     exact go e ht (.inl ⟨_,hu⟩) cg
    ·rename_i e ht hu
     exact go e ht (.inr hu) cg
    ·cases cg
   ·cases cg
  ·rename_i jE
   split at cg
   ·rename_i x y t u gp mY
    simp only[auQ] at cg;obtain⟨ix,hx,iy,hy,cg⟩:=cg;split at cg
    ·rename_i e e' ht hu
     simp only[auQ] at cg;obtain⟨sz,hs,cg⟩:=cg;obtain⟨h0,cg⟩:=al cg;injection cg with cg
     subst cg;simp only[iE,au1] at h0;subst h0;simp only[aQ] at he;exact sy (SY hW hF fa jE gp mY ht hs hx hy he hd)
    ·cases cg
   ·cases cg
  ·rename_i jE
   split at cg
   ·rename_i x y gp
    simp only[auQ,auP] at cg;obtain⟨ix,hx,iy,hy,rfl⟩:=cg;simp only[aQ,auP,auV] at he;obtain⟨z',hz,rfl,rfl⟩:=he;exact fin rfl (aaQ (mx:=true) hW hF fa jE gp hx hy hz)
   ·cases cg
  ·rename_i jE
   split at cg
   ·rename_i x y gp
    simp only[auQ,auP] at cg;obtain⟨ix,hx,iy,hy,rfl⟩:=cg;simp only[aQ,auP,auV] at he;obtain⟨z',hz,rfl,rfl⟩:=he;exact fin rfl (aaQ (mx:=false) hW hF fa jE gp hx hy hz)
   ·cases cg
  ·injection cg with cg
   subst cg;simp only[aQ,aE.eval,gr,av6] at he;cases he
  ·cases cg
 | makeSlice t x y =>
  rw[fa] at cg;simp only[dI,auQ] at cg;obtain⟨yx,ji,cg⟩:=cg;obtain⟨WC,cg⟩:=al cg;split at cg
  ·rename_i e ht
   simp only[auQ] at cg;obtain⟨i,hi,zv,hz,zero,hzc,cg⟩:=cg;obtain⟨h0,cg⟩:=al cg;injection cg with cg
   subst cg;simp only[auT,avh,iE,au1] at h0;simp only[aQ] at he;exact sy (S2 hW hF fa WC ht hi hz hzc h0.2 h0.1 ji he hd)
  ·cases cg
 | makeMap t r =>
  rw[fa] at cg;cases r with
  | some r=>simp[dI] at cg
  | none =>
   simp only[dI,auP] at cg;obtain⟨m,hm,rfl⟩:=cg;simp only[aQ,auR,auV] at he;obtain⟨rfl,rfl⟩:=he;exact sy (S3 hW hF fa hd _ _ _)
 | lookup t x i ok =>
  rw[fa] at cg;simp only[dI,auQ,auP] at cg;obtain⟨ya,Oz,yb,XM,m,hm,rfl⟩:=cg;obtain⟨kt,et,z,hT⟩:=yT hm;simp only[aQ] at he;obtain⟨h1,h2⟩:=Xp hW hF hT fa Oz XM he;exact fin h1 h2
 | mapUpdate t x i v =>
  rw[fa] at cg;simp only[dI,auQ,auP] at cg;obtain⟨ya,Oz,yb,XM,yc,hcc,m,hm,rfl⟩:=cg;obtain⟨kt,et,z,hT⟩:=yT hm;simp only[aQ,auP,auV] at he;obtain⟨s1,he,rfl,rfl⟩:=he;exact sy (Of hW hF hT (.inl fa) Oz XM hcc he hd)
 | insert t x i v =>
  rw[fa] at cg;simp only[dI,auQ,auP] at cg;obtain⟨ya,Oz,yb,XM,yc,hcc,m,hm,rfl⟩:=cg;obtain⟨kt,et,z,hT⟩:=yT hm;simp only[aQ,auP,auV] at he;obtain⟨s1,he,rfl,rfl⟩:=he;exact sy (Of hW hF hT (.inr fa) Oz XM hcc he hd)
 | range t x =>
  rw[fa] at cg;simp only[dI] at cg;obtain⟨h0,cg⟩:=al cg;simp only[auQ,auP] at cg;obtain⟨ya,Oz,m,hm,rfl⟩:=cg;obtain⟨kt,et,z,hT⟩:=yT hm;obtain⟨k',h1,h2⟩:=xi h0;exact sy (acS hW hF fa Oz hT.ht he (fun k hk=>⟨hd k hk,by rw[h1] at hk;injection hk with hk;subst hk;exact Lu _ h2⟩))
 | next x b =>
  rw[fa] at cg;cases b with
  | true=>simp[dI] at cg
  | false =>
   simp only[dI,auP] at cg;obtain⟨ya,Oz,rfl⟩:=cg;simp[aQ] at he
 | entry x =>
  rw[fa] at cg;simp only[dI,auP] at cg;obtain⟨ya,Oz,rfl⟩:=cg;obtain⟨h1,h2⟩:=acQ hW hF fa Oz he;exact fin h1 h2
 | _=>rw[fa] at cg;simp[dI] at cg
end
end
section
structure iH (H0:ae) (s:AS):Prop where
 lo:s.lo<=H0.length
 len:H0.length<=s.H.length
 same:∀ l,l<s.lo->s.H[l]?=H0[l]?
def Bt(s:AS)(c:fR):Prop:=s.H.length<=c.heap.length/\∀ l,l<c.lo->c.heap[l]?=s.H[l]?
def iH.iF{s:AS}(h:iH H0 s){c:fR}(hc:Bt s c):iH H0 (s.iF c):=by
 have e:(s.iF c).lo=if c.lo<s.lo then c.lo else s.lo:=by
  simp only[AS.iF]
  simp_all
 have:=h.lo
 refine⟨?_,avx h.len hc.1,fun l hl=>?_⟩
 ·rw[e];split<;>omega
 ·rw[e] at hl
  have h1:l<c.lo/\l<s.lo:=by split at hl<;>omega
  exact (hc.2 l h1.1).trans (h.same l h1.2)
def iH.qu{s s':AS}(h:iH H0 s)(hH:s'.H=s.H)(hl:s'.lo=s.lo):iH H0 s' :=
 ⟨by rw[hl];exact h.lo,by rw[hH];exact h.len,fun l Fu=>by rw[hH];exact h.same l (by rw[<- hl];exact Fu)⟩
def re(s:AS)(loc:Nat)(o:bM):Bt s ⟨s.H.set loc o,loc⟩:=⟨ag,fun l hl=>by simp only at hl ⊢;rw[List.getElem?_set_ne ah]⟩
def Qh(s:AS)(loc:Nat)(hl:loc<s.H.length)(o:bM):Bt s ⟨s.H.set loc .dead++[o],loc⟩:=⟨ag,fun l Fu=>by
 simp only at Fu ⊢;rw[au3 dw,List.getElem?_set_ne ah]⟩
def Qi(s:AS)(o:bM):Bt s ⟨s.H++[o],s.H.length⟩:=⟨ag,fun l hl=>by simp only at hl ⊢;rw[au3 hl]⟩
theorem NM{s s1:AS}{a v:AV}(he:au s sz a v=some s1)(h:iH H0 s):iH H0 s1:=by
 have sT:∀ t X,iH H0 (s.cy t X):=fun t X=>h.qu rfl rfl
 unfold au at he;split at he
 ·cases he
 obtain⟨_,he⟩:=al he;split at he
 ·split at he
  ·obtain⟨_,he⟩:=al he
   injection he with he
   rw[<- he];exact h.iF (re s _ _)
  ·obtain⟨_,he⟩:=al he
   injection he with he
   rw[<- he];exact h.iF (re s _ _)
  ·cases he
 ·grind
 ·grind
 ·cases he
def PP(C:AS->Prop)(r:Option (AV × Option AS)):Prop:=∀ z s',r=some (z,some s')->C s'
section
variable {C:AS->Prop}{α:Type}
def PP.none:PP C none:=fun _ _ h=>by cases h
def PP.stay : PP C (some (z,Option.none)):=fun _ _ h=>by cases h
def PP.c{b:Bool}{s':AS}(h:C s'):PP C (some (z,bif b then some s' else Option.none)):=fun _ _ e=>by cases b<;>cases e;exact h
def PP.ok{s':AS}(h:C s'):PP C (some (z,some s')):=fun _ _ e=>by cases e;exact h
def PP.cond{b:Bool}{x y:Option (AV × Option AS)}(h1:PP C x)(h2:PP C y):PP C (bif b then x else y):=by cases b<;>assumption
def PP.bind{x:Option α}{f:α->Option (AV × Option AS)}(h:∀ a,PP C (f a)):PP C (x.bind f):=by
 cases x with
 | none=>exact PP.none
 | some a=>exact h a
def PP.map{x:Option α}{f:α->AV × Option AS}(h:∀ a,PP C (some (f a))):PP C (x.map f):=by
 cases x with
 | none=>exact PP.none
 | some a=>exact h a
end
theorem Oe{G:Nat->List AV}(tO:∀ f args H r c,cf f args H=some (r,c)->jF H c){s s':AS}{o:oc}(he:aQ G cf s o=some (z,some s'))(h:iH H0 s):iH H0 s':=by
 suffices key:PP (iH H0) (aQ G cf s o) from key z s' he
 clear he;have sT:∀ {s' : AS},s'.H=s.H->s'.lo=s.lo->iH H0 s':=fun a b=>h.qu a b
 cases o with
 | store sz x y =>
  intro z s' he;simp only[aQ,auP,auV,auR] at he;obtain⟨s1,he,_,rfl⟩:=he;exact (NM he h).qu (iZ _ _).1 (iZ _ _).2.2
 | call f args =>
  intro z s' he;simp only[aQ] at he;split at he
  ·obtain⟨_,he⟩:=al he
   simp only[auP,auV] at he;obtain⟨⟨r,c⟩,hr,_,he⟩:=he;simp only[] at he;obtain⟨c',rfl,rfl⟩:=he;obtain⟨h1,h2⟩:=tO _ _ _ _ _ hr;exact h.iF ⟨by simp only[qe] at h1;omega,(h2 c' rfl).2⟩
  ·cases he
 | Na kz ka va vz ks m k v =>
  intro z s' he;simp only[aQ,auP,auV,auR] at he;obtain⟨s1,he,_,rfl⟩:=he;have h1:iH H0 s1:=by
   unfold sx at he;split at he
   ·split at he
    ·simp only[auQ] at he
     obtain⟨_,_,_,_,he⟩:=he;obtain⟨_,he⟩:=al he;simp only[auP] at he;obtain⟨_,_,he⟩:=he;rw[<- he];exact h.iF (re s _ _)
    ·cases he
   ·cases he
  exact h1.qu (iZ _ _).1 (iZ _ _).2.2
 | _ =>
  simp only[aQ,qZ,br,cO,ju,jN,yj,BA,wU]
  repeat' first
   | exact PP.none
   | exact PP.stay
   | exact PP.ok (sT rfl rfl)
   | exact PP.c (sT rfl rfl)
   | exact PP.ok (h.iF (Qi s _))
   | exact PP.ok (h.iF (re s _ _))
   | exact PP.c (h.iF (re s _ _))
   | exact PP.ok ((h.iF (re s _ _)).qu rfl rfl)
   | exact PP.ok (h.iF (Qh s _ (auU.1 (by assumption)).1 _))
   | refine PP.cond ?_ ?_
   | refine PP.bind fun _=>?_
   | refine PP.map fun _=>?_
   | split
section
variable {P:Program}{G:Nat->List AV}{base nt:Nat}{L:List Nat}{gh:Gh}{w w' : World}{a:Act}{s:AS}{H:ae}
structure Inv (G:Nat->List AV) (base nt:Nat) (L:List Nat) (H0:ae) (lT:Gh) (w0:World) (s:AS) (gh:Gh) (w:World) (a:Act):Prop where
 W:bf G base s.H gh w
 F:FR L nt gh w a s
 E:Ext H0.length lT w0 gh w
 lo:iH H0 s
def Inv.out{lT:Gh}{w':World}{x:AV}{s':AS}{v':Value}(h:Inv G base nt L H0 lT w0 s gh w a)(hO:Out G base nt L gh w a s d x s' v' bt w')(hl:iH H0 s') :
  Inv G base nt L H0 lT w0 (s'.bW d x) bt w' (a.put d v') :=
 ⟨by rw[(ni s' d x).1];exact hO.W,hO.F,h.E.trans hO.E h.lo.len,hl.qu (ni s' d x).1 (ni s' d x).2.2⟩
def Cv(G:Nat->List AV)(cf:gD)(s:AS)(o:aS):Option (AV × AS) :=
 let run:Option (AV × AS):=(aQ G cf s o.op).bind fun r=>match r.2 with
  | none=>some (r.1,s)
  | some s'=>some (r.1,s')
 match o.guard with
 | none=>run
 | some (g,want)=>match s.T g with
  | .bool b=>cond (b==want) run (some (.undef,s))
  | .tuple []=>some (.undef,s)
  | _=>none
theorem wV{G:Nat->List AV}{s:AS}{o:aS} : aP G cf s o=(Cv G cf s o).map fun r=>r.2.bW o.dst r.1:=by
 have fe:((aQ G cf s o.op).bind fun r=>match r.2 with
   | none=>some (s.bW o.dst r.1)
   | some s'=>some (s'.bW o.dst r.1)) =
  ((aQ G cf s o.op).bind fun r=>match r.2 with
   | none=>some (r.1,s)
   | some s'=>some (r.1,s')).map fun r=>r.2.bW o.dst r.1:=by
  cases aQ G cf s o.op with
  | none=>rfl
  | some r =>
   grind
 unfold aP Cv
 grind
theorem sj(h:uj P dW locals muts nt ops o=some io) :
  dI P dW locals muts nt o.dst o.op=some io.op/\qY nt ops o.guard=some io.guard/\io.dst=o.dst/\∀ k,o.dst=some k->k<nt:=by
 simp only[uj,auQ] at h;obtain⟨p,hp,g,hg,h⟩:=h;split at h
 ·grind
 ·rename_i d hd
  obtain⟨h0,h⟩:=al h;injection h with h
  subst h
  simp_all
theorem GL(tO:je P G cf){lT:Gh}(hI:Inv G base nt L H0 lT w0 s gh w a)
  (hc:uj P dW locals muts nt ops o=some io) (Lt:∀ x,x∈locals->x∈L) (Lu:∀ x,x∈muts->x∈L) {z:AV} {s1:AS} (he:Cv G cf s io=some (z,s1)) (K:Act->World->Prop) (Q:Exit->Act->World->Prop)
  (hK:∀ a' bt w',Inv G base nt L H0 lT w0 (s1.bW o.dst z) bt w' a'->K a' w') :
  if Region.wanted o (yielded ops a.tmps) then o.wp P a w K Q\/(o.asks P a w/\LetsOut Q) else K (a.put o.dst undef) w:=by
 obtain⟨fa,hg,arP,hd⟩:=sj hc;have aqa:s1=s->z=.undef->K (a.put o.dst undef) w:=by
  rintro rfl rfl
  exact hK _ gh w (hI.out (Out.pure hI.W hI.F hd (.dU .undef)) hI.lo)
 have fe:((aQ G cf s io.op).bind fun r=>match r.2 with
   | none=>some (r.1,s)
   | some s'=>some (r.1,s'))=some (z,s1)->o.wp P a w K Q:=by
  intro h;simp only[auQ] at h;obtain⟨⟨z',s'⟩,cu,h⟩:=h;cases s' with
  | none =>
   simp only at h;have h' : z'=z/\s=s1:=by
    grind
   obtain⟨rfl,rfl⟩:=h';exact Cu tO hI.W hI.F fa Lt Lu cu hd K Q (fun v' bt w' hO=>hK _ bt w' (hI.out hO hI.lo))
  | some s' =>
   simp only at h;have h' : z'=z/\s'=s1:=by
    grind
   obtain⟨rfl,rfl⟩:=h';exact Cu tO hI.W hI.F fa Lt Lu cu hd K Q (fun v' bt w' hO=>hK _ bt w' (hI.out hO (Oe (fun f args H r c h=>(tO f args H r c h).2.1) cu hI.lo)))
 cases hog:o.guard with
 | none =>
  rw[hog] at hg;simp only[qY,auR] at hg;have hw:Region.wanted o (yielded ops a.tmps)=true:=by simp[Region.wanted,hog]
  rw[if_pos hw];unfold Cv at he
  grind
 | some jw =>
  obtain⟨j,want⟩:=jw;rw[hog] at hg;simp only[qY,auQ] at hg;obtain⟨t,⟨oj,hoj,hdj⟩,hg⟩:=hg;obtain⟨aZ,hg⟩:=al hg;injection hg with hg
  have ht:t<nt:=by simpa [avh] using aZ
  have htm:a.tmps[t]?=some (gN a t):=by
   have:t<a.tmps.size:=by rw[hI.F.size];exact ht
   simp[gN,this]
  have hy:∀ v,gN a t=v->yielded ops a.tmps j=match v with|.bool b=>some b|_=>none:=by
   intro v hv;unfold yielded
   grind
  have ri:=hI.F.slot t ht
  change SR gh s.H.length nt w s.T s.gen (gN a) t (gN a t) (s.T t) at ri
  unfold Cv at he;rw[<- hg] at he;simp only at he;split at he
  ·rename_i b hT
   rw[hT] at ri;have hv:=VR.lW (CR.dropped (ri:CR gh s.H.length w (.sl t) (gN a t) (.bool b)));have hw:Region.wanted o (yielded ops a.tmps)=(b==want):=by
    simp only[Region.wanted,hog,hy _ hv]
    grind
   grind
  ·rename_i hT
   rw[hT] at ri;have hv:=VR.QJ (CR.dropped (ri:CR gh s.H.length w (.sl t) (gN a t) (.tuple [])));have hw:Region.wanted o (yielded ops a.tmps)=false:=by
    simp only[Region.wanted,hog,hy _ hv];rfl
   grind
  ·cases he
end
end
end Go.Abs
end
