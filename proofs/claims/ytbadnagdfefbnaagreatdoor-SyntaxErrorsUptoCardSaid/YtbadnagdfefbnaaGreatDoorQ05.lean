/-
  A part of the proof of SyntaxErrors: AbsMap6, AbsArr, AbsCopy, AbsEvOp, AbsRun.
-/
import Derived.Maps.RangeRun
import Derived.Laws.MakeOwn
import Derived.Laws.IdiomCopy
import Derived.WalkSpells
import Derived.LoopN
import Derived.Scope
import Derived.Tactics
import Derived.Test.YtbadnagdfefbnaaGreatDoorQ04
set_option linter.unusedSimpArgs false
set_option linter.unusedVariables false
set_option linter.defProp false
noncomputable section
namespace Go.Abs
open Go.ChangeMaps (setBlock)
variable {z:AV}{E:Array MapEntry}{ka va:Bool}{es todo:List (List AV)}{cur:List AV}{ck g i:Nat}{f:Nat->Nat->Value}{o:Oper}{it:Operand}{s':Option AS}{y:aE}{cf:gz}
section
section
variable {P:Program}{G:Nat->List AV}{base nt:Nat}{L:List Nat}{gh:Gh}{w w' : World}{a:Act}{s:AS}{H:ae}
theorem Kz{α:Type}{key:α->Nat} : ∀ (l:List α) (x:α),x∈l->(∀ (i j:Nat) (a b:α),l[i]?=some a->l[j]?=some b->key a=key b->i=j)->l.Perm (x :: l.filter fun y=>decide (key y≠key x))
 | [],x,h,_=>by cases h
 | y :: l,x,h,hd=>by
  have hd' : ∀ (i j:Nat) (a b:α),l[i]?=some a->l[j]?=some b->key a=key b->i=j:=fun i j a b h1 h2 h3=>by
   have:=hd (i+1) (j+1) a b (cY h1) (cY h2) h3
   omega
  by_cases W5:key y=key x
  ·have ft:l.filter (fun z=>decide (key z≠key x))=l:=by
    refine List.filter_eq_self.2 fun z hz=>?_
    obtain⟨j,hj⟩:=avu hz;simp only[avf];intro e;have:=hd 0 (j+1) y z rfl (cY hj) (W5.trans e.symm)
    omega
   have hxe:x=y:=by
    grind
   subst hxe;rw[axy,if_neg ag,ft]
  ·have hxl:x∈l:=by
    grind
   have ih:=Kz l x hxl hd';rw[axy,if_pos (cY W5)];exact (List.Perm.cons y ih).trans (List.Perm.swap x y _)
theorem FG(hW:a8 G base H gh w){b:Nat}{o:Obj}{w1:World}(Gq:w1=w\/w1=w.drew)(aZ:b<w.heap.size)(hS:∀ o,¬ gh.S b o)(hnc:∀ C ty fr,w.heap[b]?≠some (.cells C ty fr))(n:Nat):Step (fun r=>r=gh.κ b) n gh w gh (setBlock w1 b o):=by
 have uM:(setBlock w1 b o).heap=w.heap.setIfInBounds b o:=by rcases Gq with rfl|rfl<;>rfl
 have Mn:∀ b',b'≠b->(setBlock w1 b o).heap[b']?=w.heap[b']?:=fun b' h=>by rw[uM];simp[awr h]
 have dk:∀ b' o,gh.S b' o->b'≠b:=fun b' o h=>by rintro rfl;exact hS o h
 refine⟨fun _ _ h=>h,fun b' o h=>cell_of_heap (Mn b' (dk b' o h)),by rw[uM];simp,?_,?_,?_,fun b' iR hn=>?_,fun b' iR=>?_,fun _ _=>rfl,fun b' ty m hm=>?_,fun b' E1 c1 hs hm=>?_⟩
 ·rcases Gq with rfl|rfl<;>rfl
 ·rcases Gq with rfl|rfl<;>rfl
 ·rcases Gq with rfl|rfl<;>rfl
 ·have Fx:b'≠b:=by rintro rfl;exact hn rfl
  exact⟨.inl (Mn b' Fx),rfl,fun _ h=>h⟩
 ·have:w.heap.size<=b':=by first|exact iR|(rw[uM] at iR;simpa using iR)
  exact hW.cB b' this
 ·obtain⟨C,fr,h1,h2⟩:=hm
  have Fx:b'≠b:=by rintro rfl;exact hnc C ty fr h1
  exact⟨C,fr,by rw[Mn b' Fx];exact h1,h2⟩
 ·grind
def wx{x:AV}(h:x.plain=true):x.drop=x:=by
 cases x<;>try rfl
 rename_i e own;cases own
 ·rfl
 ·simp[AV.plain] at h
def Gh.L'(gh:Gh)(b:Nat):Gh:={ gh with S:=fun b' o=>gh.S b' o\/(b'=b/\o=0) }
def ML(hW:a8 G base s.H gh w)(hF:FR L nt gh w a s){l kz:Nat}(hH:s.H[l]?=some (.map kz ka va es))(gW:(es.all fun r=>r.all AV.plain)=true) :
  ∃ oz,a8 G base (s.H.set l (.je kz ka va es)) oz w/\FR L nt oz w a (s.iK ⟨s.H.set l (.je kz ka va es),l⟩)/\Ext s.H.length gh w oz w/\oz.ρ l=gh.ρ l/\PR oz.S w (.map (some (gh.ρ l))) (.je kz ka va es):=by
 have aZ:=(au7.1 hH).1;obtain⟨⟨hκ,hS,E,ck,f,hb,hE,h1,h2⟩,_⟩:=hW.more l _ hH;have yH:=(avc.1 hb).1;have st:∀ n,Step (fun r=>r=.hb l) n gh w (gh.L' (gh.ρ l)) w:=fun n=>by
  refine⟨fun b o h=>.inl h,fun _ _ _=>rfl,Nat.le_refl _,rfl,rfl,rfl,fun b hb hn=>⟨.inl rfl,rfl,fun o ho=>?_⟩,fun b hb=>hW.cB b hb,fun _ _=>rfl,fun _ _ _ h=>h,fun _ _ _ _ h=>h⟩
  rcases ho with ho|⟨rfl,_⟩
  ·exact ho
  ·exact absurd hκ hn
 have hP:PR (gh.L' (gh.ρ l)).S w (.map (some (gh.ρ l))) (.je kz ka va es):=by
  refine .je (gh.ρ l) kz ka va es E ck f (.inr ⟨rfl,rfl⟩) hb hE (fun i j r x hi hj=>?_)
  have hx:=ava.1 (ava.1 gW r (avb hi)) x (avb hj);have hp:PR gh.S w (f i j) x:=by
   by_cases aZ:j<kz
   ·exact h1 i j r x hi hj aZ
   ·have:=((h2 i j r x hi hj ah).2.2).dropped
    rw[wx hx] at this;exact this.mh hx
  exact hp.mono (st 0).S (st 0).cell (st 0).mp
 refine⟨gh.L' (gh.ρ l),?_,?_,⟨(st _).mono (fun r h=>by rw[h];exact⟨ag,ag⟩),fun b hb=>hb⟩,rfl,hP⟩
 ·refine hW.B5 (st _) aZ (by intro k hk;simp[hk]) (fun b o ho=>?_) hW.ry (fun _ _ h=>by cases h) hP (fun b o m ho=>?_)
  ·rcases ho with ho|⟨rfl,_⟩
   ·exact hW.qa b o ho
   ·exact yH
  ·rcases ho with ho|⟨rfl,rfl⟩
   ·exact .inl ho
   ·exact .inr (fun hc=>by simp[World.cell?,hb] at hc)
 ·exact hF.grown (st _) (fun i=>⟨ag,ag,ag⟩) ag
theorem KL(hW:a8 G base s.H gh w)(hF:FR L nt gh w a s){kz:Nat}(hd:∀ k,o.dst=some k->k<nt/\k∈L) :
  ∀ (m:Option Nat) (since:Nat) (es:List (List AV)),(execOp a.eval o).run P w=.ok (.value (.pointer (some ⟨w.heap.size,0,none⟩))) (w.alloc (.mapIter m since #[] since)) ->
   ((m=none/\es=[])\/∃ m0 E ck f,m=some m0/\gh.S m0 0/\w.heap[m0]?=some (.map E ck)/\since=ck/\∃ uI:List (List AV),zI E ck kz ka va uI f/\es.Perm uI/\(∀ (i j:Nat) (r:List AV) (x:AV),uI[i]?=some r->r[j]?=some x->PR gh.S w (f i j) x)) ->
   ∃ v' br w',wS P a o w v' w'/\Out G base nt L gh w a s o.dst (.iter s.gen kz ka va [] es) { s with gen:=s.gen+1 } v' br w':=by
  intro m since es dO hm;have hp:=fQ.alloc w (.mapIter m since #[] since);have dk:=x9 o.dst;have st:=jn hW hp dk (fun _=>False) s.H.length
  have JM:=hF.grown (H':=s.H) (lo':=s.lo) st (fun i=>⟨id,id,fun _=>id⟩) (Nat.le_refl _)
  have nW:=hW.alloc hp dk (fun _=>False) (fun _ _ h=>h.elim)
  refine⟨.pointer (some ⟨w.heap.size,0,none⟩),_,_,.inl dO,nW,JM.Vx (gen':=s.gen+1) (Nat.le_succ _) (fun b hb=>nW.cB b hb) o.dst (fun k hk=>(hd k hk).1) (.inr ⟨⟨s.gen,Nat.le_refl _,rfl⟩,fun k hk=>(hd k hk).2⟩) ?_,o8 hW hp dk _ _⟩
  intro k hk;refine⟨aw5 _,w.heap.size,rfl,?_⟩;rw[hk] at st ⊢;refine⟨by simp[Gh.alloc,Pr],?_,m,since,#[],since,hp.new,?_⟩
  ·rintro o (ho|⟨_,ho⟩)
   ·have:=hW.qa _ o ho;omega
   ·exact ho
  ·rcases hm with ⟨rfl,rfl⟩|⟨m0,E,ck,f,rfl,h1,h2,rfl,uI,h3,hpm,h4⟩
   ·grind
   ·refine .inr ⟨m0,E,uI,since,f,rfl,st.S _ _ h1,st.mp _ _ _ h1 h2,h3,rfl,rfl,fun i j r x hi hj=>(h4 i j r x hi hj).mono st.S st.cell st.mp,.inl ⟨rfl,rfl⟩,?_⟩
    have:((E.toList.zip uI).filter fun p=>!(#[]:Array Nat).contains p.1.born)=E.toList.zip uI:=List.filter_eq_self.2 fun p _=>ag
    rw[this];have hz:(E.toList.zip uI).map (·.2)=uI:=List.map_snd_zip (by have:=h3.size;simp;omega)
    rw[hz];exact hpm
def acY(hW:a8 G base s.H gh w)(hF:FR L nt gh w a s){t kt et:TypeId}{x:Operand}{kz:Nat}(ho:o.op=.range t x)(hc:av nt x=some y)(ht:P.underlying t=some (.map kt et))
  (he:aR G cf s (.rng kz ka va y)=some (z,s')) (hd:∀ k,o.dst=some k->k<nt/\k∈L) :
  ∃ v' br w',wS P a o w v' w'/\Out G base nt L gh w a s o.dst z (s'.getD s) v' br w':=by
 obtain⟨m1,m2,m3⟩:=YP hW hF hc;have key:=KL (P:=P) hW hF (o:=o) (kz:=kz) (ka:=ka) (va:=va) hd;simp only[aR] at he;split at he
 ·rename_i hY
  simp only[au4,au8] at he;obtain⟨rfl,rfl⟩:=he;refine key none 0 [] ?_ (.inl ⟨rfl,rfl⟩);simp[execOp,ho,m1 hY,Instr.range,run_underlying ht,newObj,Sem.run]
 ·rename_i hY
  obtain⟨h0,iZ⟩:=al he;clear he;simp only[au6,iI,avf,avM] at h0;obtain⟨⟨rfl,rfl⟩,rfl⟩:=h0;simp only[au4,au8] at iZ;obtain⟨rfl,rfl⟩:=iZ;have hp:=m2 _ _ _ _ hY;generalize hA:a.eval x=V at hp;cases hp with
  | je b _ _ _ _ E ck f hS hb hE dr =>
   refine key (some b) ck _ ?_ (.inr ⟨b,E,ck,f,rfl,hS,hb,rfl,_,hE.iter,axJ _,dr⟩);simp[execOp,ho,hA,Instr.range,run_underlying ht,newObj,getObj,Sem.run,hb]
 ·rename_i hY
  obtain⟨h0,iZ⟩:=al he;clear he;simp only[au6,iI,avf,avM] at h0;obtain⟨⟨rfl,rfl⟩,rfl⟩:=h0;simp only[au4,au8] at iZ;obtain⟨rfl,rfl⟩:=iZ;have hp:=Tq hW hF hc hY;generalize hA:a.eval x=V at hp;cases hp with
  | mz b _ _ _ _ uI E ck f hS hb hE hpm dr =>
   refine key (some b) ck _ ?_ (.inr ⟨b,E,ck,f,rfl,hS,hb,rfl,_,hE,hpm.symm,dr⟩);simp[execOp,ho,hA,Instr.range,run_underlying ht,newObj,getObj,Sem.run,hb]
 ·rename_i l hY
  split at he
  ·rename_i qo qm qp es hH
   obtain⟨h0,iZ⟩:=al he;clear he;simp only[au6,iI,avf,avM] at h0;obtain⟨⟨⟨rfl,rfl⟩,rfl⟩,gW⟩:=h0;simp only[au4,au8] at iZ;obtain⟨rfl,rfl⟩:=iZ;obtain⟨aZ,tU⟩:=m3 l hY;obtain⟨oz,tT,Bm,HD,hρ,hP⟩:=ML hW hF hH gW;generalize hV:Value.map (some (gh.ρ l))=V at hP;cases hP with
   | je b _ _ _ _ E ck f hS hb hE dr =>
    injection hV with hV
    injection hV with hV
    subst hV;obtain⟨v',br,w',k1,k2⟩:=KL (P:=P) (s:=s.iK ⟨s.H.set l (.je kz ka va es),l⟩) tT Bm (o:=o) hd (some (gh.ρ l)) ck es (by
     simp[execOp,ho,tU,Instr.range,run_underlying ht,newObj,getObj,Sem.run,hb]) (.inr ⟨_,E,ck,f,rfl,hS,hb,rfl,_,hE.iter,axJ _,dr⟩)
    exact⟨v',br,w',k1,k2.W,k2.F,HD.trans k2.E (by simp[AS.iK])⟩
  ·cases he
 ·cases he
theorem JE:∀ (l:List MapEntry) (e:MapEntry),e∈l->(∀ x∈l,x.born=e.born->x=e)->l.find? (fun x=>x.born==e.born)=some e
 | [],e,h,_=>by cases h
 | x :: l,e,h,hu=>by
  rw[List.find?_cons]
  by_cases hx:x.born=e.born
  ·grind
  ·have hb:(x.born==e.born)=false:=cY hx
   rw[hb]
   rcases avs.1 h with h|h
   ·subst h;exact absurd rfl hx
   ·exact JE l e h (fun y hy=>hu y (zo hy))
def NY{n:Nat}{m:Nat}{g:Nat->Value}{cs:List AV}(hm:cs.length=m)(h1:va=false->m=1)(h:∀ (j:Nat) (x:AV),cs[j]?=some x->PR gh.S w (g j) x):VR gh n w (uf va m g) (qY va cs) :=
 U4 hm h1 (fun j x hj=>⟨VR.dropped (.plain _ _ (h j x hj)),(h j x hj).gb⟩)
theorem Jq{n kz:Nat}(hE:zI E ck kz ka va es f)(dr:∀ (i j:Nat) (r:List AV) (x:AV),es[i]?=some r->r[j]?=some x->PR gh.S w (f i j) x)
  {e:MapEntry} {r:List AV} (he:E[i]?=some e) (hr:es[i]?=some r):VR gh n w e.key (qY ka (r.take kz))/\VR gh n w e.val (qY va (r.drop kz)):=by
 obtain⟨k1,k2,k3,k4,k5⟩:=hE.row i e r he hr;rw[k4,k5];refine⟨NY dq k2 (fun j x hj=>?_),NY ag (fun h=>by rw[k3 h];omega) (fun j x hj=>?_)⟩
 ·grind
 ·grind
def O3(hF:FR L nt gh w a s){t kz:Nat}(ht:t<nt)(hT:s.T t=.iter g kz ka va cur todo):g<s.gen/\∃ b,gP a t=.pointer (some ⟨b,0,none⟩)/\zH gh w b (.bx t) kz ka va cur todo:=by
 have h:=hF.slot t ht;rw[hT] at h;exact h
theorem acW(hW:a8 G base s.H gh w)(hF:FR L nt gh w a s)(ho:o.op=.entry it)(hc:av nt it=some y)(he:aR G cf s (.ent y)=some (z,s')) :
  s'=none/\∃ v,(execOp a.eval o).run P w=.ok (.value v) w/\oZ gh s.H.length nt w s.T s.gen (gP a) v z:=by
 cases y with
 | tmp t =>
  obtain⟨rfl,ht⟩:=kR hc;simp only[aR] at he;split at he
  ·rename_i g kz ka va cur todo hT
   obtain⟨h0,he⟩:=al he;simp only[au6,avv,avo,axb] at h0;simp only[au4,au8] at he;obtain⟨rfl,rfl⟩:=he;obtain⟨_,b,hb,_,_,m,since,seen,last,HL,hm⟩:=O3 hF ht hT;refine⟨rfl,?_⟩
   rcases hm with ⟨_,_,_,TD⟩|⟨m0,E,es,ck,f,rfl,hS,Od,hE,rfl,rfl,dr,TD,_⟩
   ·exact absurd TD h0.2
   ·rcases TD with ⟨_,TD⟩|⟨st,i,e,yG,hEi,hbe,amA⟩
    ·exact absurd TD h0.2
    ·obtain⟨v1,v2⟩:=Jq (n:=s.H.length) hE dr hEi amA
     have adO:e∈E.toList:=by
      grind
     have ah' : E.find? (fun x=>x.born==e.born)=some e:=by
      rw[<- Array.find?_toList];refine JE _ e adO (fun x hx hxb=>?_)
      obtain⟨j,hj⟩:=avu hx;rw[avP] at hj;have:=hE.apart j i x e hj hEi hxb
      grind
     have tU:a.eval (.tmp t)=.pointer (some ⟨b,0,none⟩):=hb;refine⟨.tuple #[e.key,e.val],?_,.dG (.tuple _ _ rfl (fun j u x hu hx=>?_))⟩
     ·subst hbe
      simp[execOp,ho,tU,Instr.entry,getObj,Sem.run,HL];simp[yG,Od,Sem.run,ah']
     ·grind
  ·cases he
 | _=>simp only[aR] at he;cases he
theorem QK{seen:Array Nat}{kz:Nat}(hE:zI E ck kz ka va es f){e:MapEntry}{r:List AV}(he:E[i]?=some e)(hr:es[i]?=some r)(hs:seen.contains e.born=false) :
  (((E.toList.zip es).filter fun p=>!seen.contains p.1.born).map (·.2)).Perm (r :: ((E.toList.zip es).filter fun p=>!(seen.push e.born).contains p.1.born).map (·.2)):=by
 have hz:(E.toList.zip es)[i]?=some (e,r):=by rw[axa];exact⟨by rw[avP];exact he,hr⟩
 have h1:=Kz (key:=fun p:MapEntry × List AV=>p.1.born) (E.toList.zip es) (e,r) (avb hz) (fun j k p q hj hk hpq=>by
  rw[axa,avP] at hj hk;exact hE.apart j k p.1 q.1 hj.1 hk.1 hpq)
 have h2:=h1.filter (fun p=>!seen.contains p.1.born)
 rw[axy,if_pos (by show (!seen.contains e.born)=true;rw[hs];rfl),List.filter_filter] at h2
 grind
theorem XI(hW:a8 G base s.H gh w)(hF:FR L nt gh w a s){t kz:Nat}(ho:o.op=.next it false)(hc:av nt it=some (.tmp t))(hT:s.T t=.iter g kz ka va cur todo)(hL:t∈L)
  (hd:∀ k,o.dst=some k->k<nt) (K:Act->World->Prop) (Q:Exit->Act->World->Prop)
  (hK0:todo=[]->∀ v' br w',Out G base nt L gh w a s o.dst (.tuple [.bool false]) s v' br w'->K (a.put o.dst v') w')
  (hK1:∀ r rest,todo.Perm (r :: rest)->∀ v' br w',Out G base nt L gh w a s o.dst (.tuple [.bool true,qY ka (r.take kz),qY va (r.drop kz)]) (s.cx t (.iter g kz ka va r rest)) v' br w'->K (a.put o.dst v') w'):o.wp P a w K Q:=by
 obtain⟨rfl,ht⟩:=kR hc;obtain⟨hg,b,hb,hκ,hS,m,since,seen,last,HL,hm⟩:=O3 hF ht hT;have tU:a.eval (.tmp t)=.pointer (some ⟨b,0,none⟩):=hb;have TH:∀ {n:Nat},VR gh n w (.tuple #[.bool false]) (.tuple [.bool false]):=fun {n}=>.tuple _ _ rfl (fun j u x hu hx=>by
  match j with
  | 0=>injection hu with hu;injection hx with hx;subst hu hx;exact .plain _ _ (.bool _)
  | j+1=>simp at hx)
 rcases hm with ⟨rfl,rfl,_,_⟩|⟨m0,E,es,ck,f,rfl,hSm,Od,hE,rfl,rfl,dr,_,Gn⟩
 ·refine wS.wp (.inl ?_) (hK0 rfl (.tuple #[.bool false]) gh w (Out.pure hW hF hd (.dG TH)))
  simp[execOp,ho,tU,Instr.next,getObj,Sem.run,HL]
 ·rcases run_next_at (P:=P) w o.type b m0 last last seen E last HL Od (fun x hx=>by
   obtain⟨j,hj⟩:=avu hx;rw[avP] at hj;exact hE.born j x hj) (Nat.le_refl _) with ⟨hz,dO⟩|⟨e,hem,w1,Gq,dO⟩
  ·have Qp:todo=[]:=by
    have hl:((E.toList.zip es).filter fun p=>!seen.contains p.1.born)=[]:=by
     refine List.filter_eq_nil_iff.2 fun p hp dk=>?_
     have hpe:=(List.of_mem_zip (a:=p.1) (b:=p.2) hp).1;have:p.1∈(leftOf E seen).toList:=by
      unfold leftOf
      grind
     grind
    rw[hl] at Gn;exact Gn.eq_nil
   refine wS.wp (.inl ?_) (hK0 Qp (.tuple #[.bool false]) gh w (Out.pure hW hF hd (.dG TH)));simp[execOp,ho,tU,dO]
  ·unfold leftOf at hem
   simp only[Array.toList_filter,axn] at hem;obtain⟨heE,A1⟩:=hem;obtain⟨i,hi⟩:=avu heE;rw[avP] at hi;have adG:i<es.length:=by rw[<- hE.size];exact (avc.1 hi).1
   have hr:=au5 adG;have anb:seen.contains e.born=false:=cY A1;have aiL:=QK hE hi hr anb;have Me:=(avc.1 HL).1;have st:=FG (o:=.mapIter (some m0) last (seen.push e.born) last) hW Gq Me hS (fun C ty fr h=>by rw[HL] at h;cases h) s.H.length
   rw[hκ] at st;have uM:(setBlock w1 b (.mapIter (some m0) last (seen.push e.born) last)).heap=w.heap.setIfInBounds b (.mapIter (some m0) last (seen.push e.born) last):=by rcases Gq with rfl|rfl<;>rfl
   have kj:(setBlock w1 b (.mapIter (some m0) last (seen.push e.born) last)).heap.size=w.heap.size:=by rw[uM];simp
   have nW:=hW.step st (fun l=>⟨ag,ag⟩) (fun b o h=>by rw[kj];exact hW.qa b o h) (fun b h=>by rw[kj];exact hW.ry b h) (fun _ _ _ h=>.inl h)
   have hE' : Ext s.H.length gh w gh (setBlock w1 b (.mapIter (some m0) last (seen.push e.born) last)):=⟨st.mono (fun r h=>by rw[h];simp[sw]),fun _ h=>h⟩
   have hIt:zH gh (setBlock w1 b (.mapIter (some m0) last (seen.push e.born) last)) b (.bx t) kz ka va es[i] (((E.toList.zip es).filter fun p=>!(seen.push e.born).contains p.1.born).map (·.2)):=by
    refine⟨hκ,hS,some m0,last,seen.push e.born,last,by rw[uM];simp[Me],.inr ⟨m0,E,es,last,f,rfl,hSm,st.mp _ _ _ hSm Od,hE,rfl,rfl,fun i j r x h1 h2=>(dr i j r x h1 h2).mono st.S st.cell st.mp,.inr ⟨e.born,i,e,ag,hi,rfl,hr⟩,axJ _⟩⟩
   have JM:FR L nt gh (setBlock w1 b (.mapIter (some m0) last (seen.push e.born) last)) a (s.cx t (.iter g kz ka va es[i] (((E.toList.zip es).filter fun p=>!(seen.push e.born).contains p.1.born).map (·.2)))) :=
    hF.cx (H':=s.H) (lo':=s.lo) st (Nat.le_refl _) (fun i hi=>⟨cY hi,ag,ag⟩) (.inl ⟨ht,by rw[hT];rfl⟩) (fun _=>⟨hg,b,hb,hIt⟩)
   obtain⟨v1,v2⟩:=Jq (n:=s.H.length) hE dr hi hr;have hv:VR gh s.H.length (setBlock w1 b (.mapIter (some m0) last (seen.push e.born) last)) (.tuple #[.bool true,e.key,e.val]) (.tuple [.bool true,qY ka (es[i].take kz),qY va (es[i].drop kz)]):=by
    refine .tuple _ _ rfl (fun j u x hu hx=>?_)
    match j with
    | 0=>injection hu with hu;injection hx with hx;subst hu hx;exact .plain _ _ (.bool _)
    | 1=>injection hu with hu;injection hx with hx;subst hu hx;exact v1.mono st (Nat.le_refl _)
    | 2=>injection hu with hu;injection hx with hx;subst hu hx;exact v2.mono st (Nat.le_refl _)
    | j+3=>simp at hx
   have hO:Out G base nt L gh w a s o.dst (.tuple [.bool true,qY ka (es[i].take kz),qY va (es[i].drop kz)]) (s.cx t (.iter g kz ka va es[i] (((E.toList.zip es).filter fun p=>!(seen.push e.born).contains p.1.born).map (·.2)))) (.tuple #[.bool true,e.key,e.val]) gh (setBlock w1 b (.mapIter (some m0) last (seen.push e.born) last)) :=
    Out.of (s1:=s.cx t (.iter g kz ka va es[i] (((E.toList.zip es).filter fun p=>!(seen.push e.born).contains p.1.born).map (·.2)))) (gen':=s.gen) nW JM hE' (Nat.le_refl _) hd (.inl rfl) (fun k hk=>qf rfl (.inl hv))
   refine wS.wp (.inl ?_) (hK1 es[i] _ (Gn.trans aiL) (.tuple #[.bool true,e.key,e.val]) gh _ hO);simp[execOp,ho,tU,dO]
end
end
end Go.Abs
namespace Go.Abs
variable {z:AV}{ops:Array Oper}{br:Gh}{E f:List (List AV)}{cs:List AV}{dI locals muts:List Nat}{b bytes cap j k m sz:Nat}{o:Oper}{x y:Operand}{s':Option AS}{d:Option Nat}{e u:TypeId}{V v:Value}{w0:World}{ix yx yy:aE}{io:aV}{H' H0:ae}{touch:bM->Prop}{cf:gz}
section
section
variable {P:Program}{G:Nat->List AV}{base nt:Nat}{L:List Nat}{gh oz:Gh}{w w' : World}{a:Act}{s:AS}{H:ae}
def BP{α:Type} : ∀ (e:List (List α)) (idx:Nat) (x:α),(∀ r∈e,r.length=sz)->e.flatten[idx]?=some x->∃ i j r,e[i]?=some r/\r[j]?=some x/\idx=i*sz+j
 | [],_,_,_,h=>by simp at h
 | r :: e,idx,x,hr,h=>by
  rw[avy] at h
  by_cases hl:idx<r.length
  ·rw[avd hl] at h;exact⟨0,idx,r,rfl,h,ag⟩
  ·rw[List.getElem?_append_right ah] at h
   obtain⟨i,j,r',h1,h2,h3⟩:=BP e _ x (fun r h=>hr r (zo h)) h
   have:=hr r ag
   exact⟨i+1,j,r',cY h1,h2,by rw[avV];omega⟩
theorem kW{α:Type} : ∀ (e:List (List α)),(∀ r∈e,r.length=sz)->e.flatten.length=e.length*sz
 | [],_=>ag
 | r :: e,hr=>by
  have:=hr r ag
  have ih:=kW e (fun r h=>hr r (zo h))
  grind
theorem HJ{l:Nat}{x:AV}(h:iH l x=true)(hl:l<=m):iH m x=true:=by
 cases x<;>first|exact h|(simp only[iH,avv] at h ⊢;omega)
theorem JU{l:Nat}{x:AV}(h:l8 l x=true)(hl:l<=m):l8 m x=true:=by
 unfold l8 at h ⊢
 grind [HJ]
theorem JS{l:Nat}{x:AV}(h:bf l x=true)(hl:l<=m):bf m x=true:=by
 cases x
 case func f fs cs =>
  simp only[bf,au6,ava] at h ⊢
  grind [JU]
 all_goals first|exact h|(simp only[bf,avv] at h ⊢;omega)
theorem a8.arr(hW:a8 G base H gh w)(st:Step touch H.length gh w br w')(hlen:H'.length=H.length)
  (hold:∀ (loc:Nat) (o:bS),H'[loc]?=some o->(H[loc]?=some o/\¬ touch (.hb loc)/\∀ j,¬ touch (.hs loc j))\/o=.dead)
  (hs:∀ b o,br.S b o->gh.S b o) (hk:∀ b,br.κ b≠.none->base<=b/\b<w'.heap.size) {cs:List AV}
  (hB:iT br (H.length+1) w' (br.ρ H.length) (.hb H.length) (fun j=>.hs H.length j) cs) (hr:cs.all (bf H.length)=true):a8 G base (H'++[.box bD cs]) br w':=by
 have last:∀ {loc:Nat} {o:bS},(H'++[bS.box bD cs])[loc]?=some o->(loc<H.length/\H'[loc]?=some o)\/(loc=H.length/\o=.box bD cs):=by
  grind
 have hln:(H'++[bS.box bD cs]).length=H.length+1:=by simp[hlen]
 refine⟨avz hW.size st.size,fun b o ho=>awk (hW.qa b o (hs b o ho)) st.size,hk,fun g j x hx=>?_,fun loc ty ds hl=>?_,fun loc ty ds hl=>?_,fun g hg=>(hW.BA g hg).imp fun ty h=>st.len g ty _ h,hW.mw st (fun b o m h=>.inl (hs b o h)),fun loc o hl=>?_,fun loc ty ds hl hf=>?_⟩
 ·obtain⟨v,h1,h2,h3⟩:=hW.aY g j x hx
  exact⟨v,(st.cell g j h3).trans h1,h2.mono st.S st.cell st.mp,st.S g j h3⟩
 ·rw[hln]
  rcases last hl with ⟨aZ,hl⟩|⟨rfl,ho⟩
  ·rcases hold loc _ hl with ⟨h0,h1,h2⟩|h0
   ·rw[st.ρ loc aZ];exact (hW.boxes loc ty ds h0).mono st (Nat.le_succ _) h1 h2
   ·cases h0
  ·grind
 ·rcases last hl with ⟨aZ,hl⟩|⟨rfl,ho⟩
  ·rcases hold loc _ hl with ⟨h0,_⟩|h0
   ·exact hW.refs loc ty ds h0
   ·cases h0
  ·grind
 ·rw[hln]
  rcases last hl with ⟨aZ,hl⟩|⟨rfl,rfl⟩
  ·rcases hold loc _ hl with ⟨h0,h1,h2⟩|rfl
   ·rw[st.ρ loc aZ];exact (hW.more loc o h0).mono st (Nat.le_succ _) h1 h2
   ·trivial
  ·trivial
 ·rcases last hl with ⟨aZ,hl⟩|⟨rfl,ho⟩
  ·rcases hold loc _ hl with ⟨h0,_⟩|h0
   ·rw[st.ρ loc aZ];exact st.len _ _ _ (hW.types loc ty ds h0 hf)
   ·cases h0
  ·grind
def Gh.rename(gh:Gh)(l n b:Nat):Gh where
 S:=gh.S
 κ:=fun x=>match gh.κ x with
  | .hb i=>if i=l then .hb n else .hb i
  | .hs i j=>if i=l then .hs n j else .hs i j
  | k=>k
 ρ:=fun i=>if i=n then b else gh.ρ i
theorem VQ{l n x:Nat}(h:gh.κ x≠.hb l/\∀ j,gh.κ x≠.hs l j):(gh.rename l n b).κ x=gh.κ x:=by
 simp only[Gh.rename]
 grind
theorem Bd{l n x:Nat} : (gh.rename l n b).κ x=.none↔gh.κ x=.none:=by
 simp only[Gh.rename]
 grind
theorem tG{l n x:Nat} : (gh.rename l n b).κ x=.outer↔gh.κ x=.outer:=by
 simp only[Gh.rename]
 grind
def kg(l:Nat)(r:bM):Prop:=r=.hb l\/∃ j,r=.hs l j
def Step.renamed{l n:Nat}(st:Step touch m gh w oz w')(hn:m<=n)(ht:∀ r,touch r->kg l r):Step (kg l) m gh w (oz.rename l n b) w':=by
 refine⟨st.S,st.cell,st.size,st.os,st.tape,st.output,fun x hx mJ=>?_,fun x hx=>?_,fun loc hl=>?_,st.len,st.mp⟩
 ·obtain⟨k1,k2,k3⟩:=st.oH x hx (fun h=>mJ (ht _ h))
  refine⟨k1,?_,k3⟩;rw[VQ (by rw[k2];exact⟨fun h=>mJ (.inl h),fun j h=>mJ (.inr ⟨j,h⟩)⟩),k2]
 ·intro h
  exact st.fresh x hx (tG.1 h)
 ·show (if loc=n then _ else _)=_
  rw[if_neg ah];exact st.ρ loc hl
def CR.rename{m' l n:Nat}{x:AV}(h:CR gh m w (.hs l j) v x)(hf:∀ b,w.heap.size<=b->gh.κ b≠.outer)(hm:m<=n)(RE:m<=m'):CR (gh.rename l n b) m' w (.hs n j) v x:=by
 have st:Step (kg l) m gh w (gh.rename l n b) w:=Step.renamed (touch:=fun _=>False) (Step.refl _ _ _ _ hf) hm (fun _ h=>h.elim)
 rcases h with h|⟨e,rfl,h1,b',cap,C,ty,lo,hi,sz,hv,hk,he,hb,hC,hr,hl,hh,hS⟩
 ·exact .inl (h.mono st RE)
 ·exact .inr ⟨e,rfl,h1,b',cap,C,ty,lo,hi,sz,hv,by simp[Gh.rename,hk],he,hb,hC,hr,hl,hh,hS⟩
def DT(l:Nat)(i:Nat):¬ kg l (.bx i)/\¬ kg l (.sl i)/\∀ j,¬ kg l (.sc i j):=by
 refine⟨?_,?_,fun j=>?_⟩<;>(rintro (h|⟨_,h⟩)<;>cases h)
def IB(l:Nat)(r:bM)(h:kg l r):sw r:=by
 rcases h with rfl|⟨j,rfl⟩<;>exact⟨ag,ag⟩
def Out.arr(hF:FR L nt gh w a s)(hd:∀ k,d=some k->k<nt){l:Nat}(st:Step (kg l) s.H.length gh w br w')(ho:∀ b,br.κ b=.outer->gh.κ b=.outer){lo z:Nat}(hlen:H'.length=s.H.length)
  (hW:a8 G base (H'++[.box bD cs]) br w') (hk:k<=cap) (hz:∃ ty,sy w' (br.ρ s.H.length) ty (0+cap*z)) :
  Out G base nt L gh w a s d (.sref s.H.length 0 k z) (s.iK ⟨H'++[.box bD cs],lo⟩) (.slice (some ⟨br.ρ s.H.length,0,none⟩) k cap) br w':=by
 have hv:VR br (H'++[bS.box bD cs]).length w' (.slice (some ⟨br.ρ s.H.length,0,none⟩) k cap) (.sref s.H.length 0 k z):=.sref _ 0 k cap z (zo hlen) hk (fun _=>hz)
 exact⟨hW,hF.put st (DT l) (zo hlen) d hd (.dG hv),⟨st.mono (IB l),ho⟩⟩
def vt{A:Array Value}{S:Nat->Nat->Prop}(h:jz S w sz A E){x:AV}(hx:E.flatten[j]?=some x):∃ v,A[j]?=some v/\PR S w v x:=by
 obtain⟨i,k,r,h1,h2,rfl⟩:=BP E j x (fun r hm=>by obtain⟨i,hi⟩:=avu hm;exact h.2.1 i r hi) hx
 exact h.2.2 i k r x h1 h2
theorem GC{n:Nat}{p:bM}(h:CR gh n w p V (.slice [] true)):∃ ao,V=.slice ao 0 0:=by
 rcases h with h|⟨e',heq,_,b,cap,C,ty,lo,hi,lI,js,hk,dk,_⟩
 ·cases h with
  | plain _ _ h=>cases h
  | full ao k _ h hz =>
   cases h with
   | dF=>exact⟨none,rfl⟩
   | slice b o _ _ lI _ _ hn=>simp at hn;subst hn;exact⟨_,rfl⟩
 ·grind
def Z5{t:TypeId}(ht:P.underlying t=some (.slice e))(ao:Option Addr):Src P sz t (.slice ao 0 0) 0 [] w:=by
 refine⟨.inl ⟨_,ht⟩,fun _=>rfl,?_,?_,ag,fun _ h=>by cases h⟩
 ·cases ao with
  | none=>exact run_firstCells_none w _ 0 0 0
  | some ad=>exact run_firstCells_some w _ 0 ad 0 0 [] ag (fun j v h=>by simp at h)
 ·cases ao with
  | none=>exact run_firstCells_none w.drew _ 0 0 0
  | some ad=>exact run_firstCells_some w.drew _ 0 ad 0 0 [] ag (fun j v h=>by simp at h)
def rp(h:dM f=true){x:AV}(hx:x∈f.flatten):x.plain=true:=by
 obtain⟨r,hr,hx⟩:=aw4.1 hx;exact ava.1 (ava.1 h r hr) x hx
def nX{x:AV}(h:x.plain=true)(n:Nat):bf n x=true:=uL h
theorem Jv(hW:a8 G base s.H gh w)(hF:FR L nt gh w a s){c:Call}{t:TypeId}
  (ho:o.op=.call c) (jM:c.callee=.builtin .append) (gm:c.args.toList=[x,y]) (mW:c.argTypes.toList=[t,u]) (hT:AD P t e sz bytes) (hu:(∃ e',P.underlying u=some (.slice e'))\/P.underlying u=some .string)
  (jr:av nt x=some yx) (D5:av nt y=some yy) (he:jU s sz bytes (yx.addr G s.T) (yy.eval G s.T)=some (z,s')) (hd:∀ k,o.dst=some k->k<nt) :
  ∃ v' br w',wS P a o w v' w'/\Out G base nt L gh w a s o.dst z (s'.getD s) v' br w':=by
 have gJ:=fun b hb=>hW.cB (gh:=gh) b hb
 simp only[jU,au3] at he;obtain⟨f,hf,he⟩:=he;obtain⟨i,zv,hi,_,rfl,_⟩:=hT.hi;have fresh:∀ ao,a.eval x=.slice ao 0 0->cond (!f.isEmpty&&cK i.size bytes [] f&&dM f) (some (AV.sref s.H.length 0 f.length i.size,some (s.iK ⟨s.H++[.box bD f.flatten],s.H.length⟩))) none=some (z,s') ->
   ∃ v' br w',wS P a o w v' w'/\Out G base nt L gh w a s o.dst z (s'.getD s) v' br w':=by
  intro ao hV he;obtain⟨h0,he⟩:=al he;simp only[au4,au8] at he;obtain⟨rfl,rfl⟩:=he;simp only[au6,cK,avv,List.length_nil,avA,avo,axb] at h0;obtain⟨⟨dk,⟨⟨Ft,kO⟩,_⟩,hh⟩,gW⟩:=h0;obtain⟨news,hs,dw⟩:=vU (P:=P) hW hF D5 hf hh hu;have apn:=awq.2 dk;obtain⟨ye,C',dO,kY,Qd,yN⟩:=grow (P:=P) (ty:=o.type) (ao:=ao) (sLen:=0) (sCap:=0) hT (Z5 (w:=w) hT.ht ao).cellsD ag hs ah ah (cY Ft);have oK:fQ w (w.drew.alloc (.cells C' e)) (.cells C' e):=.drew w _;have DQ:=gS hW oK;have st:Step (kg s.H.length) s.H.length gh w (gh.bK w.heap.size s.H.length) (w.drew.alloc (.cells C' e)):=DQ.mono (fun _ h=>h.elim)
  have hρ:(gh.bK w.heap.size s.H.length).ρ s.H.length=w.heap.size:=by simp[Gh.bK]
  have aia:f.flatten.length<=C'.size:=by
   have h1:=kW f (fun r hm=>by obtain⟨k,hk⟩:=avu hm;exact dw.2.1 k r hk)
   rw[h1,Qd];exact avg _ ah
  have hB:iT (gh.bK w.heap.size s.H.length) (s.H.length+1) (w.drew.alloc (.cells C' e)) ((gh.bK w.heap.size s.H.length).ρ s.H.length) (.hb s.H.length) (fun j=>.hs s.H.length j) f.flatten:=by
   rw[hρ];refine⟨by simp[Gh.bK,Gh.alloc],?_,C',e,oK.new,aia,fun j v x hv hx=>?_⟩
   ·rintro o (ho|⟨_,ho⟩)
    ·have:=hW.qa _ o ho;omega
    ·exact ho
   ·obtain⟨v',oT,hp⟩:=vt dw hx
    have aZ:=(avc.1 oT).1;rw[yN j (cY aZ)] at hv;simp only[avO] at hv;rw[oT] at hv;injection hv with hv
    subst hv;exact⟨hp.gb,.inl (.plain _ _ (hp.mono st.S st.cell st.mp))⟩
  have hr:f.flatten.all (bf s.H.length)=true:=ava.2 fun x hx=>nX (rp gW hx) _
  have nW:=hW.arr DQ (H':=s.H) rfl (fun loc o h=>.inl ⟨h,id,fun _=>id⟩) (fun b o h=>h.elim id (fun h=>h.2.elim)) (fun b hb=>by
   rw[oK.size];have iR:(if b=w.heap.size then bM.hb s.H.length else gh.κ b)≠.none:=hb
   split at iR
   ·have:=hW.size;omega
   ·have:=hW.ry b iR;omega) hB hr
  refine⟨_,gh.bK w.heap.size s.H.length,w.drew.alloc (.cells C' e),.inl (iv ho jM gm mW (by rw[hV];exact dO)),?_⟩
  have:=Out.arr (lo:=s.H.length) (k:=0+f.length) (cap:=ye) (z:=i.size) hF hd st (fun b hb=>(lq hW oK).out b hb) rfl nW kY ⟨e,by rw[hρ];exact⟨C',(0,0),oK.new,by rw[Qd,avA]⟩⟩
  rw[hρ,avA] at this;rw[avA];exact this
 split at he
 ·rename_i hx
  have oJ:∃ p,CR gh s.H.length w p (a.eval x) (.slice [] true):=by
   cases yx with
   | tmp t0 =>
    obtain⟨rfl,ht⟩:=kR jr;have oS:s.T t0=.slice [] true:=by
     simp only[aE.addr] at hx
     split at hx<;>first|cases hx|exact hx
    exact⟨_,Hj hF ht oS⟩
   | xQ v =>
    simp only[aE.addr] at hx;subst hx;cases x with
    | tmp k =>
     simp only[av] at jr;rcases awg (Nat.blt k nt) with hb|hb<;>rw[hb] at jr<;>simp at jr
    | const u =>
     simp only[av,au2] at jr;obtain⟨zz,hz,h⟩:=jr;injection h with h
     subst h;exact⟨.none,.inl (kU hz)⟩
    | global g=>simp[av] at jr
    | func f=>simp[av] at jr
   | aY g=>simp[aE.addr] at hx
   | fn f=>simp[aE.addr] at hx
  obtain⟨_,oJ⟩:=oJ;obtain⟨ao,hV⟩:=GC oJ;exact fresh ao hV he
 ·rename_i hx
  exact fresh none (qB hW hF jr hx rfl).mK he
 ·rename_i l of n zz hx
  split at he
  ·rename_i ty cs hH
   obtain⟨h0,he⟩:=al he;simp only[au4,au8] at he;obtain⟨rfl,rfl⟩:=he;simp only[au6,iI,avf,avv] at h0;obtain⟨⟨⟨⟨⟨⟨rfl,rfl⟩,iL⟩,Ft⟩,kO⟩,hh⟩,gW⟩:=h0;obtain⟨news,hs,dw⟩:=vU (P:=P) hW hF D5 hf hh hu;obtain⟨aZ,cap,apv,hzB,hV⟩:=VR.k9 (qB hW hF jr hx rfl);obtain⟨tyb,Cb,frb,xR,hCb⟩:=hzB (by have:=hT.pos;omega)
   obtain⟨hκ,hS,C,RJ,hb,hle,di⟩:=hW.boxes l ty cs hH;rw[hb] at xR;injection xR with xR
   injection xR with e1 e2 e3
   subst e1 e2 e3;rw[avA] at hCb;have yM:(C.toList.take (n*i.size)).length=n*i.size:=dq;have hold:∀ {j:Nat} {x:AV},cs[j]?=some x->∃ v,C[j]?=some v/\v.oneCell'=true/\CR gh s.H.length w (.hs l j) v x:=by
    intro j x hj;have h1:=(au7.1 hj).1;have hv:C[j]?=some C[j]:=avh ah;obtain⟨k1,k2⟩:=di j _ x hv hj;exact⟨_,hv,k1,k2⟩
   have iC:∀ v∈C.toList.take (n*i.size),v.oneCell'=true:=by
    intro v hv;obtain⟨j,hj⟩:=avu hv;have h1:j<n*i.size:=by rw[<- yM];exact (au7.1 hj).1
    rw[avw,if_pos h1] at hj;obtain⟨v',k1,k2,_⟩:=hold (au5 (show j<cs.length by omega))
    rw[avP,k1] at hj;injection hj with hj
    subst hj;exact k2
   have T3:Src P i.size t (.slice (some ⟨gh.ρ l,0,none⟩) n cap) n (C.toList.take (n*i.size)) w:=.ofSlice w hT.ht ⟨gh.ρ l,0,none⟩ n cap _ yM (fun j u hj=>by
    rw[addr_add,avA,cell_of_row w _ j C RJ _ hb];rw[avw] at hj;split at hj
    ·simpa using hj
    ·cases hj) iC
   have uQ:=hs.newsLen;have yK:=kW f (fun r hm=>by obtain⟨k,hk⟩:=avu hm;exact dw.2.1 k r hk)
   have hrefs:(cs++f.flatten).all (bf s.H.length)=true:=by
    rw[aw',au6];refine⟨ava.2 fun x hx=>?_,ava.2 fun x hx=>nX (rp gW hx) _⟩
    exact JS (ava.1 (hW.refs l ty cs hH) x hx) ah
   have aa' : ∀ {touch:bM->Prop},(∀ r,touch r->kg l r)->∀ (loc:Nat) (o:bS),(s.H.set l .dead)[loc]?=some o->(s.H[loc]?=some o/\¬ touch (.hb loc)/\∀ j,¬ touch (.hs loc j))\/o=.dead:=by
    intro touch ht loc o h;rw[av2] at h;split at h
    ·injection h with h;exact .inr h.symm
    ·rename_i dk
     refine .inl ⟨h,fun k=>?_,fun j k=>?_⟩
     ·rcases ht _ k with k|⟨_,k⟩
      ·injection k with k;exact dk k.symm
      ·cases k
     ·rcases ht _ k with k|⟨_,k⟩
      ·cases k
      ·injection k with k;exact dk k.symm
   by_cases hgr:cap<n+f.length
   ·
    obtain⟨ye,C',dO,kY,Qd,yN⟩:=grow (P:=P) (ty:=o.type) hT T3.cellsD yM hs hgr kO Ft;have oK:fQ w (w.drew.alloc (.cells C' e)) (.cells C' e):=.drew w _;have DQ:=jn hW oK (p:=.hb l) ag (fun _=>False) s.H.length
    have st:=DQ.renamed (n:=s.H.length) (b:=w.heap.size) (l:=l) (Nat.le_refl _) (fun _ h=>h.elim)
    have hρ:((gh.alloc w.heap.size (.hb l) fun _=>False).rename l s.H.length w.heap.size).ρ s.H.length=w.heap.size:=by simp[Gh.rename]
    have adB:∀ b,(w.drew.alloc (.cells C' e)).heap.size<=b->(gh.alloc w.heap.size (.hb l) fun _=>False).κ b≠.outer:=fun b hb=>by
     have hb0:=oK.size ▸ hb
     show (if b=w.heap.size then bM.hb l else gh.κ b)≠_
     rw[if_neg ah];exact hW.cB b ah
    have hB:iT ((gh.alloc w.heap.size (.hb l) fun _=>False).rename l s.H.length w.heap.size) (s.H.length+1) (w.drew.alloc (.cells C' e)) (((gh.alloc w.heap.size (.hb l) fun _=>False).rename l s.H.length w.heap.size).ρ s.H.length) (.hb s.H.length) (fun j=>.hs s.H.length j) (cs++f.flatten):=by
     rw[hρ];refine⟨by simp[Gh.rename,Gh.alloc],?_,C',e,oK.new,?_,fun j v x hv hx=>?_⟩
     ·rintro o (ho|⟨_,ho⟩)
      ·have:=hW.qa _ o ho;omega
      ·exact ho
     ·rw[List.length_append,iL,yK,Qd,<- avV]
      exact avg _ kY
     ·have hj:j<(C.toList.take (n*i.size)++news).toArray.size:=by
       have:=(au7.1 hx).1
       rw[List.length_append,iL,yK] at this;simp only[awp,List.length_append,yM,uQ];exact this
      rw[yN j hj] at hv;simp only[avC,avZ,yM] at hv;rw[avZ,iL] at hx;split at hv
      ·rename_i h1
       rw[if_pos h1] at hx;obtain⟨v',k1,k2,k3⟩:=hold hx;rw[avw,if_pos h1,avP,k1] at hv;injection hv with hv
       subst hv;exact⟨k2,(k3.mono DQ (Nat.le_refl _) id).rename adB (Nat.le_refl _) (Nat.le_succ _)⟩
      ·rename_i h1
       rw[if_neg h1] at hx;obtain⟨v',k1,k2⟩:=vt dw hx;simp only[avC] at k1;rw[k1] at hv;injection hv with hv
       subst hv;exact⟨k2.gb,.inl (.plain _ _ (k2.mono st.S st.cell st.mp))⟩
    have nW:=hW.arr st (H':=s.H.set l .dead) ag (aa' (fun _ h=>h)) (fun b o h=>h.elim id (fun h=>h.2.elim)) (fun b hb=>by
     rw[oK.size];have Ft:(gh.alloc w.heap.size (.hb l) fun _=>False).κ b≠.none:=fun h=>hb (Bd.2 h)
     have iR:(if b=w.heap.size then bM.hb l else gh.κ b)≠.none:=Ft
     split at iR
     ·have:=hW.size;omega
     ·have:=hW.ry b iR;omega) hB hrefs
    refine⟨_,(gh.alloc w.heap.size (.hb l) fun _=>False).rename l s.H.length w.heap.size,w.drew.alloc (.cells C' e),.inl (iv ho jM gm mW (by rw[hV];exact dO)),?_⟩
    have:=Out.arr (lo:=l) (k:=n+f.length) (cap:=ye) (z:=i.size) hF hd st (fun b hb=>by
     have Ft:=tG.1 hb;have iR:(if b=w.heap.size then bM.hb l else gh.κ b)=.outer:=Ft
     split at iR
     ·cases iR
     ·exact iR) ag nW kY ⟨e,by rw[hρ];exact⟨C',(0,0),oK.new,by rw[Qd,avA]⟩⟩
    rw[hρ] at this;exact this
   ·
    have pN:n+f.length<=cap:=ah;have gY:n*i.size+news.length<=C.size:=by rw[uQ,hCb,<- avV];exact avg _ pN
    have dO:=room (P:=P) (ty:=o.type) hT hs hb (avB _) pN gY;have l9:n*i.size+news.toArray.size<=C.size:=cY gY;have mJ:∀ o,gh.S (gh.ρ l) o->(gv C (n*i.size) news.toArray)[o]?=C[o]?:=fun o ho=>(hS o ho).elim
    have DQ:=nN hW hb (dL l9) mJ s.H.length;rw[hκ] at DQ;have st:=DQ.renamed (n:=s.H.length) (b:=gh.ρ l) (l:=l) (Nat.le_refl _) (fun r h=>.inl h)
    have hρ:(gh.rename l s.H.length (gh.ρ l)).ρ s.H.length=gh.ρ l:=by simp[Gh.rename]
    have kj:(w.setRow (gh.ρ l) (gv C (n*i.size) news.toArray)).heap.size=w.heap.size:=ag;have Me:=(avc.1 hb).1;have adB:∀ b,(w.setRow (gh.ρ l) (gv C (n*i.size) news.toArray)).heap.size<=b->gh.κ b≠.outer:=fun b hb=>hW.cB b (by rw[kj] at hb;exact hb)
    have hB:iT (gh.rename l s.H.length (gh.ρ l)) (s.H.length+1) (w.setRow (gh.ρ l) (gv C (n*i.size) news.toArray)) ((gh.rename l s.H.length (gh.ρ l)).ρ s.H.length) (.hb s.H.length) (fun j=>.hs s.H.length j) (cs++f.flatten):=by
     rw[hρ];refine⟨by simp[Gh.rename,hκ],hS,_,RJ,setRow_heap w _ C _ RJ _ hb,?_,fun j v x hv hx=>?_⟩
     ·rw[List.length_append,iL,yK,dL l9,hCb,<- avV]
      exact avg _ pN
     ·rw[lD l9] at hv
      have wz:=(au7.1 hx).1;rw[List.length_append,iL,yK] at wz;rw[avZ,iL] at hx;simp only[awp] at hv;split at hx
      ·rename_i h1
       rw[if_neg ah] at hv;obtain⟨v',k1,k2,k3⟩:=hold hx;rw[k1] at hv;injection hv with hv
       subst hv;exact⟨k2,(k3.mono DQ (Nat.le_refl _) ag).rename adB (Nat.le_refl _) (Nat.le_succ _)⟩
      ·rename_i h1
       rw[if_pos ah] at hv;obtain⟨v',k1,k2⟩:=vt dw hx;rw[k1] at hv;injection hv with hv
       subst hv;exact⟨k2.gb,.inl (.plain _ _ (k2.mono st.S st.cell st.mp))⟩
    have nW:=hW.arr st (H':=s.H.set l .dead) ag (aa' (fun _ h=>h)) (fun b o h=>h) (fun b hb=>by
     rw[kj];exact hW.ry b (fun h=>hb (Bd.2 h))) hB hrefs
    refine⟨_,gh.rename l s.H.length (gh.ρ l),w.setRow (gh.ρ l) (gv C (n*i.size) news.toArray),.inl (iv ho jM gm mW (by rw[hV];exact dO)),?_⟩
    have:=Out.arr (lo:=l) (k:=n+f.length) (cap:=cap) (z:=i.size) hF hd st (fun b hb=>tG.1 hb) ag nW pN ⟨RJ,by rw[hρ];exact⟨_,(0,0),setRow_heap w _ C _ RJ _ hb,by rw[dL l9,hCb,avA]⟩⟩
    rw[hρ] at this;exact this
  ·cases he
 ·cases he
theorem L4(hW:a8 G base s.H gh w)(hF:FR L nt gh w a s){c:Call}{t:TypeId}
  (ho:o.op=.call c) (jM:c.callee=.builtin .append) (gm:c.args.toList=[x,y]) (mW:c.argTypes.toList=[t,u]) (hT:AD P t e sz bytes) (hu:(∃ e',P.underlying u=some (.slice e'))\/P.underlying u=some .string)
  (jr:av nt x=some yx) (D5:av nt y=some yy) (he:jE s sz bytes (yx.addr G s.T) (yy.eval G s.T)=some (z,s')) (hd:∀ k,o.dst=some k->k<nt) :
  ∃ v' br w',wS P a o w v' w'/\Out G base nt L gh w a s o.dst z (s'.getD s) v' br w':=by
 unfold jE at he;split at he
 ·rename_i v hn
  simp only[au4,au8] at he;obtain⟨rfl,rfl⟩:=he;obtain⟨i,zv,hi,_,rfl,_⟩:=hT.hi;have Qw:((∃ o,yy.eval G s.T=.slice [] o)\/yy.eval G s.T=.ar)->∃ news,Src P i.size u (a.eval y) 0 news w:=by
   rintro (⟨o,hY⟩|hY)
   ·obtain⟨news,k1,_⟩:=vU (P:=P) (sz:=i.size) (f:=[]) hW hF D5 (by rw[hY];rfl) rfl hu
    exact⟨news,k1⟩
   ·rw[(cU hW hF D5 hY rfl).mK]
    refine⟨[],hu,fun _=>rfl,run_firstCells_none w _ 0 0 0,run_firstCells_none w.drew _ 0 0 0,ag,fun _ h=>by cases h⟩
  have key:(∃ ao,a.eval x=.slice ao 0 0/\VR gh s.H.length w (a.eval x) v)/\((∃ o,yy.eval G s.T=.slice [] o)\/yy.eval G s.T=.ar):=by
   generalize hY:yy.eval G s.T=Y at hn;generalize hX:yx.addr G s.T=X at hn;unfold GD at hn;split at hn
   ·have ui:∃ ao,a.eval x=.slice ao 0 0:=by
     have oJ:∃ p,CR gh s.H.length w p (a.eval x) (.slice [] true):=by
      cases yx with
      | tmp t0 =>
       obtain⟨rfl,ht⟩:=kR jr;have oS:s.T t0=.slice [] true:=by
        simp only[aE.addr] at hX
        grind
       exact⟨_,Hj hF ht oS⟩
      | xQ v =>
       simp only[aE.addr] at hX;subst hX;cases x with
       | tmp k =>
        simp only[av] at jr
        grind
       | const u =>
        simp only[av,au2] at jr;obtain⟨zz,hz,h⟩:=jr;injection h with h
        subst h;exact⟨.none,.inl (kU hz)⟩
       | global g=>simp[av] at jr
       | func f=>simp[av] at jr
      | aY g=>simp[aE.addr] at hX
      | fn f=>simp[aE.addr] at hX
     grind [GC]
    obtain⟨ao,hao⟩:=ui;have Ua:=qB hW hF jr hX rfl;split at hn
    ·injection hn with hn;subst hn;exact⟨⟨ao,hao,Ua⟩,.inl ⟨_,rfl⟩⟩
    ·injection hn with hn;subst hn;exact⟨⟨ao,hao,Ua⟩,.inr rfl⟩
    ·cases hn
   ·have Ua:=qB hW hF jr hX rfl
    split at hn
    ·injection hn with hn;subst hn;exact⟨⟨none,Ua.mK,Ua⟩,.inl ⟨_,rfl⟩⟩
    ·injection hn with hn;subst hn;exact⟨⟨none,Ua.mK,Ua⟩,.inr rfl⟩
    ·cases hn
   ·cases hn
  obtain⟨hxs,hyc⟩:=key;have Qw:=Qw hyc;obtain⟨ao,hV,hv⟩:=hxs;obtain⟨news,hs⟩:=Qw;have hnn:news=[]:=by have:=hs.newsLen;simp at this;exact this
  subst hnn;refine⟨a.eval x,gh,w,.inl (iv ho jM gm mW ?_),Out.pure hW hF hd (.dG hv)⟩;rw[hV];exact run_append_nothing w t u o.type e i hT.ht hi ao 0 0 (Nat.le_refl _) _ hs
 ·grind [Jv]
theorem Jy(hW:a8 G base s.H gh w)(hF:FR L nt gh w a s){t:TypeId}{len:Nat}{parts:Array (Nat × Operand)}{z:List AV}{ps:List (Nat × aE)}
  (ho:o.op=.buildSlice t len parts) (hu:P.underlying t=some (.slice e)) (hs:fC P e=some sz) (hz:im P e=some z) (hp:mH nt parts.toList=some ps)
  (HO:len*sz<=16777216) (Ub:z.length=sz) (Ab:0<sz) (gW:dM E=true)
  (he:cN sz (List.replicate len (z.map AV.drop)) (ps.map fun p=>(p.1,(p.2.eval G s.T).drop))=some E) (hd:∀ k,o.dst=some k->k<nt) :
  ∃ v' br w',wS P a o w v' w'/\Out G base nt L gh w a s o.dst (.sref s.H.length 0 E.length sz) (s.iK ⟨s.H++[.box bD E.flatten],s.H.length⟩) v' br w':=by
 obtain⟨C',dO,dw,Gm⟩:=A8 (P:=P) hW hF hu hs hz hp HO Ub Ab he;have oK:=fQ.alloc w (.cells C' e);have DQ:=gS hW oK;have st:Step (kg s.H.length) s.H.length gh w (gh.bK w.heap.size s.H.length) (w.alloc (.cells C' e)):=DQ.mono (fun _ h=>h.elim)
 have hρ:(gh.bK w.heap.size s.H.length).ρ s.H.length=w.heap.size:=by simp[Gh.bK]
 have yK:=kW E (fun r hm=>by obtain⟨k,hk⟩:=avu hm;exact dw.2.1 k r hk)
 have hB:iT (gh.bK w.heap.size s.H.length) (s.H.length+1) (w.alloc (.cells C' e)) ((gh.bK w.heap.size s.H.length).ρ s.H.length) (.hb s.H.length) (fun j=>.hs s.H.length j) E.flatten:=by
  rw[hρ];refine⟨by simp[Gh.bK,Gh.alloc],?_,C',e,oK.new,by rw[yK,dw.1];exact Nat.le_refl _,fun j v x hv hx=>?_⟩
  ·rintro o (ho|⟨_,ho⟩)
   ·have:=hW.qa _ o ho;omega
   ·exact ho
  ·obtain⟨v',oT,hp⟩:=vt dw hx
   rw[oT] at hv;injection hv with hv
   subst hv;exact⟨hp.gb,.inl (.plain _ _ (hp.mono st.S st.cell st.mp))⟩
 have hr:E.flatten.all (bf s.H.length)=true:=ava.2 fun x hx=>nX (rp gW hx) _
 have nW:=hW.arr DQ (H':=s.H) rfl (fun loc o h=>.inl ⟨h,id,fun _=>id⟩) (fun b o h=>h.elim id (fun h=>h.2.elim)) (fun b hb=>by
  rw[oK.size];have iR:(if b=w.heap.size then bM.hb s.H.length else gh.κ b)≠.none:=hb
  split at iR
  ·have:=hW.size;omega
  ·have:=hW.ry b iR;omega) hB hr
 refine⟨.slice (some ⟨w.heap.size,0,none⟩) len len,gh.bK w.heap.size s.H.length,w.alloc (.cells C' e),.inl ?_,?_⟩
 ·have:(parts.map fun x=>(x.1,a.eval x.2))=parts.map fun p=>(p.1,a.eval p.2):=rfl
  simp[execOp,ho,dO]
 ·have:=Out.arr (lo:=s.H.length) (k:=E.length) (cap:=len) (z:=sz) hF hd st (fun b hb=>(lq hW oK).out b hb) rfl nW (awn Gm) ⟨e,by rw[hρ];exact⟨_,(0,0),oK.new,by rw[dw.1,Gm,avA]⟩⟩
  grind
theorem S1(hW:a8 G base s.H gh w)(hF:FR L nt gh w a s){t:TypeId}{i:TypeInfo}{zv:Value}{zero:List AV}
  (ho:o.op=.makeSlice t x y) (W5:Ir x y=true) (ht:P.underlying t=some (.slice e)) (hi:P.info? e=some i) (hz:i.zero=some zv) (hzc:fy zv.cells.toList=some zero) (hzs:zv.cells.size=i.size) (Ab:0<i.size)
  (jr:av nt x=some yx) (he:BL s i.size i.bytes (zero.map AV.drop) (yx.eval G s.T)=some (z,s')) (hd:∀ k,o.dst=some k->k<nt) :
  ∃ v' br w',wS P a o w v' w'/\Out G base nt L gh w a s o.dst z (s'.getD s) v' br w':=by
 simp only[BL,au3] at he;obtain⟨k,hk,he⟩:=he;obtain⟨h0,he⟩:=al he;simp only[au4,au8] at he;obtain⟨rfl,rfl⟩:=he;simp only[au6,avv] at h0;obtain⟨Ft,kO⟩:=h0;obtain⟨kd,Gj⟩:=mF hW hF jr hk;have hyx:a.eval y=a.eval x:=by
  cases x<;>cases y<;>simp only[Ir] at W5<;>try (cases W5;done)
  simp_all
 have dO:=run_make (P:=P) w t e i zv ht hi hz kd kd (k:Int) (k:Int) ah ah (by
  have:(i.bytes:Int)*k=((k*i.bytes:Nat):Int):=by rw[axW];simp
  rw[this];omega) ah
 have oK:fQ w (w.alloc (.cells (madeCells zv.cells (k*i.size)) e)) (.cells (madeCells zv.cells (k*i.size)) e):=.alloc w _;have DQ:=gS hW oK;have st:Step (kg s.H.length) s.H.length gh w (gh.bK w.heap.size s.H.length) (w.alloc (.cells (madeCells zv.cells (k*i.size)) e)):=DQ.mono (fun _ h=>h.elim)
 have hρ:(gh.bK w.heap.size s.H.length).ρ s.H.length=w.heap.size:=by simp[Gh.bK]
 obtain⟨Ub,Qx⟩:=l7 (gh:=gh) (n:=s.H.length) (w:=w) hzc;have ai1:zero.length=i.size:=by rw[<- hzs];simpa using Ub.symm
 have abu:∀ r∈List.replicate k (zero.map AV.drop),r.length=i.size:=fun r hr=>by rw[axx hr];simpa using ai1
 have yK:(List.replicate k (zero.map AV.drop)).flatten.length=k*i.size:=by rw[kW _ abu];simp
 have gW:∀ x,x∈(List.replicate k (zero.map AV.drop)).flatten->x.plain=true:=by
  intro x hx;obtain⟨r,hr,hx⟩:=aw4.1 hx
  grind [pD]
 have hB:iT (gh.bK w.heap.size s.H.length) (s.H.length+1) (w.alloc (.cells (madeCells zv.cells (k*i.size)) e)) ((gh.bK w.heap.size s.H.length).ρ s.H.length) (.hb s.H.length) (fun j=>.hs s.H.length j) (List.replicate k (zero.map AV.drop)).flatten:=by
  rw[hρ];refine⟨by simp[Gh.bK,Gh.alloc],?_,_,e,oK.new,by rw[yK,size_madeCells];exact Nat.le_refl _,fun j v x hv hx=>?_⟩
  ·rintro o (ho|⟨_,ho⟩)
   ·have:=hW.qa _ o ho;omega
   ·exact ho
  ·obtain⟨m,q,r,h1,h2,rfl⟩:=BP _ j x abu hx
   have hr:=axx (avb h1);subst hr;have hq:q<i.size:=by rw[<- ai1];simpa using (au7.1 h2).1
   simp only[List.getElem?_map,au2] at h2;obtain⟨y,hy,rfl⟩:=h2;have wz:=(avc.1 hv).1;rw[size_madeCells] at wz;simp only[madeCells,Array.getElem?_map,Array.getElem?_range,if_pos wz,ave,au4] at hv;have aip:(m*i.size+q) % zv.cells.size=q:=by rw[hzs,axW,Nat.mul_add_mod,Nat.mod_eq_of_lt hq]
   rw[aip] at hv;have hqz:q<zv.cells.size:=ah;have hc:=avh hqz;have RF:v=zv.cells[q]:=by rw[<- hv];exact getElem!_pos zv.cells q hqz
   subst RF;obtain⟨k1,k2⟩:=Qx q _ y (by rw[avP];exact hc) hy
   exact⟨k2,.inl ((k1.dropped).mono st (Nat.le_succ _))⟩
 have hr:(List.replicate k (zero.map AV.drop)).flatten.all (bf s.H.length)=true:=ava.2 fun x hx=>nX (gW x hx) _
 have nW:=hW.arr DQ (H':=s.H) rfl (fun loc o h=>.inl ⟨h,id,fun _=>id⟩) (fun b o h=>h.elim id (fun h=>h.2.elim)) (fun b hb=>by
  rw[oK.size];have iR:(if b=w.heap.size then bM.hb s.H.length else gh.κ b)≠.none:=hb
  split at iR
  ·have:=hW.size;omega
  ·have:=hW.ry b iR;omega) hB hr
 refine⟨.slice (some ⟨w.heap.size,0,none⟩) k k,gh.bK w.heap.size s.H.length,w.alloc (.cells (madeCells zv.cells (k*i.size)) e),.inl ?_,?_⟩
 ·have e1:(k:Int).toNat=k:=ag
  rw[e1] at dO;simp only[execOp,ho,hyx,Gj];simp[dO]
 ·have:=Out.arr (lo:=s.H.length) (k:=k) (cap:=k) (z:=i.size) hF hd st (fun b hb=>(lq hW oK).out b hb) rfl nW (Nat.le_refl _) ⟨e,by rw[hρ];exact⟨_,(0,0),oK.new,by rw[size_madeCells,avA]⟩⟩
  rw[hρ] at this;exact this
end
end
section
section
variable {P:Program}{G:Nat->List AV}{base nt:Nat}{L:List Nat}{gh oz:Gh}{w w' : World}{a:Act}{s:AS}{H:ae}
def XJ(hW:a8 G base s.H gh w)(hF:FR L nt gh w a s){op:BinOp}{t:TypeId}{neg b:Bool}
  (ho:o.op=.binOp op t x y u) (hc:av nt x=some ix) (hn:MT P op t y=some neg) (he:Vf (ix.eval G s.T)=some b) :
  ∃ v,(execOp a.eval o).run P w=.ok (.value v) w/\oZ gh s.H.length nt w s.T s.gen (gP a) v (.bool (neg != b)):=by
 unfold MT at hn;split at hn
 ·rename_i e hu
  have hx:∃ ad n c,a.eval x=.slice ad n c/\ad.isNone=b:=by
   generalize hX:ix.eval G s.T=X at he;unfold Vf at he;split at he
   ·injection he with he
    subst he;have hv:=cU hW hF hc hX rfl;generalize a.eval x=V at hv;cases hv with
    | plain _ _ h=>cases h;exact⟨_,_,_,rfl,rfl⟩
   ·injection he with he
    subst he;rename_i r es own;have hp:=(cU hW hF hc hX rfl).jF;generalize a.eval x=V at hp;cases hp with
    | slice b of n cap sz _ f hn kY bX di dr=>exact⟨_,_,_,rfl,rfl⟩
   ·cases he
  obtain⟨ad,n,c,hA,hb⟩:=hx;have hg:(eqGuard op t x (.const (.slice none 0 0)) (.slice ad n c) (.slice none 0 0)).run P w=.ok () w:=gx (by intro c;simp) (.inl ag)
  split at hn
  ·injection hn with hn
   subst hn;have hr:=Lib.run_eql_slice_nil w t e ad n c 0 0 hu;refine⟨.bool ad.isNone,?_,.dG (.plain _ _ ?_)⟩
   ·simp only[execOp,ho,hA,show a.eval (.const (.slice none 0 0))=.slice none 0 0 from rfl,Sem.run_bind,hg,hr,Result.andThen_ok,Sem.run_pure]
   ·rw[hb];cases b<;>exact .bool _
  ·injection hn with hn
   subst hn;have hr:=run_neq_slice_nil_any w t e ad n c 0 0 hu;refine⟨.bool (!ad.isNone),?_,.dG (.plain _ _ ?_)⟩
   ·simp only[execOp,ho,hA,show a.eval (.const (.slice none 0 0))=.slice none 0 0 from rfl,Sem.run_bind,hg,hr,Result.andThen_ok,Sem.run_pure]
   ·rw[hb];cases b<;>exact .bool _
  ·cases hn
 ·cases hn
def XC(hW:a8 G base s.H gh w)(hF:FR L nt gh w a s){t:TypeId}{y:aE}(ho:o.op=.box t x)(hc:av nt x=some y)(iL:(y.eval G s.T).drop.cells=some cs)
  (hd:∀ k,o.dst=some k->k<nt) :
  ∃ v' br w',wS P a o w v' w'/\Out G base nt L gh w a s o.dst (.ref s.H.length 0) (s.iK ⟨s.H++[.bZ (cs.map AV.drop)],s.H.length⟩) v' br w':=by
 have bX:=(se hW hF hc cs iL).dropped;have hp:fQ w (w.alloc (.cells (a.eval x).cells t)) (.cells (a.eval x).cells t):=.alloc w _;have st:=gS hW hp;have hρ:(gh.bK w.heap.size s.H.length).ρ s.H.length=w.heap.size:=by simp[Gh.bK]
 have hB:iT (gh.bK w.heap.size s.H.length) (s.H.length+1) (w.alloc (.cells (a.eval x).cells t)) w.heap.size (.hb s.H.length) (fun j=>.hs s.H.length j) (cs.map AV.drop):=by
  refine⟨by simp[Gh.bK,Gh.alloc],?_,_,t,hp.new,awn bX.1.symm,fun j v x hv hx=>?_⟩
  ·rintro o (ho|⟨_,ho⟩)
   ·have:=hW.qa _ o ho;omega
   ·exact ho
  ·obtain⟨h1,h2⟩:=bX.2 j v x hv hx
   exact⟨h2,.inl (h1.mono st (Nat.le_succ _))⟩
 have hv:VR (gh.bK w.heap.size s.H.length) (s.H++[bS.bZ (cs.map AV.drop)]).length (w.alloc (.cells (a.eval x).cells t)) (.pointer (some ⟨w.heap.size,0,none⟩)) (.ref s.H.length 0):=by
  have:=VR.ref (gh:=gh.bK w.heap.size s.H.length) (w:=w.alloc (.cells (a.eval x).cells t)) (n:=(s.H++[bS.bZ (cs.map AV.drop)]).length) s.H.length 0 ag
  rw[hρ] at this;exact this
 refine⟨_,_,_,.inl ?_,⟨hW.Dx hp (fun _ _ h=>by cases h) hB,hF.put st (fun i=>⟨id,id,fun _=>id⟩) ag o.dst hd (.dG hv),lq hW hp⟩⟩
 simp[execOp,ho,Instr.box,newVar,newRow]
def PO(hW:a8 G base s.H gh w)(hF:FR L nt gh w a s){t:TypeId}{z:List AV}(ho:o.op=.alloc t){kp:Bool}(hz:(im P t).map (fun z=>cond kp (z.map oM) z)=some z)
  (hd:∀ k,o.dst=some k->k<nt) :
  ∃ v' br w',wS P a o w v' w'/\Out G base nt L gh w a s o.dst (.ref s.H.length 0) (s.iK ⟨s.H++[.bZ (z.map AV.drop)],s.H.length⟩) v' br w':=by
 obtain⟨i,zv,hi,Qx,aiI⟩:=sx (gh:=gh) (n:=s.H.length) (w:=w) hz;have bX:=aiI.dropped;have hp:fQ w (w.alloc (.cells zv.cells t)) (.cells zv.cells t):=.alloc w _;have st:=gS hW hp;have hρ:(gh.bK w.heap.size s.H.length).ρ s.H.length=w.heap.size:=by simp[Gh.bK]
 have hB:iT (gh.bK w.heap.size s.H.length) (s.H.length+1) (w.alloc (.cells zv.cells t)) w.heap.size (.hb s.H.length) (fun j=>.hs s.H.length j) (z.map AV.drop):=by
  refine⟨by simp[Gh.bK,Gh.alloc],?_,_,t,hp.new,awn bX.1.symm,fun j v x hv hx=>?_⟩
  ·rintro o (ho|⟨_,ho⟩)
   ·have:=hW.qa _ o ho;omega
   ·exact ho
  ·obtain⟨h1,h2⟩:=bX.2 j v x hv hx
   exact⟨h2,.inl (h1.mono st (Nat.le_succ _))⟩
 have hv:VR (gh.bK w.heap.size s.H.length) (s.H++[bS.bZ (z.map AV.drop)]).length (w.alloc (.cells zv.cells t)) (.pointer (some ⟨w.heap.size,0,none⟩)) (.ref s.H.length 0):=by
  have:=VR.ref (gh:=gh.bK w.heap.size s.H.length) (w:=w.alloc (.cells zv.cells t)) (n:=(s.H++[bS.bZ (z.map AV.drop)]).length) s.H.length 0 ag
  rw[hρ] at this;exact this
 refine⟨_,_,_,.inl ?_,⟨hW.Dx hp (fun _ _ h=>by cases h) hB,hF.put st (fun i=>⟨id,id,fun _=>id⟩) ag o.dst hd (.dG hv),lq hW hp⟩⟩
 simp[execOp,ho,Aq hi Qx]
def wG{c:Call}{t:TypeId}(ho:o.op=.call c)(jM:c.callee=.builtin .copy)(gm:c.args.toList=[x,y])(mW:c.argTypes.toList=[t,u])
  (dO:(Builtin.copy_ #[t,u] o.type #[a.eval x,a.eval y]).run P w=.ok v w'):(execOp a.eval o).run P w=.ok (.value v) w':=by
 have e1:c.args=#[x,y]:=by apply aw1;simpa using gm
 have e2:c.argTypes=#[t,u]:=by apply aw1;simpa using mW
 unfold execOp;simp only[ho,resolve,jM,e1,e2,invoke,builtin,Sem.run_bind,Sem.run_pure,Result.andThen_ok,aw3,avm,avN,dO]
theorem KK{j':Nat}(h:(List.range k)[j]?=some j'):j<k/\j'=j:=by
 grind
theorem Sz{n:Nat}(h:PR gh.S w V (.slice f false))(hh:gC 1 f=true)(hk:k<=f.length) :
  ∃ (ad:Option Addr) (ln cp:Nat) (BB:List Value),V=.slice ad ln cp/\ln=f.length/\BB.length=k/\(0<k->∃ q,ad=some q/\∀ j v,BB[j]?=some v->w.cell? (q.add j)=some v)/\(∀ r∈f.take k,r.length=1) /\
   ∀ (j:Nat) (u:Value) (x:AV),BB[j]?=some u->((f.take k).flatten)[j]?=some x->u.oneCell'=true/\PR gh.S w u x:=by
 cases h with
 | dF =>
  simp_all
 | slice b of ln cap sz _ g hn kY bX di dr =>
  have kj:f≠[]->sz=1:=fun dk=>CU hh bX dk
  have akg:∀ (i:Nat) (r:List AV),f[i]?=some r->r.length=1:=fun i r hi=>by
   grind
  have vat:∀ j,j<k->∃ r x,f[j]?=some r/\r[0]?=some x:=fun j hj=>by
   have hr:=au5 (show j<f.length by omega)
   exact⟨_,_,hr,au5 (by rw[akg _ _ hr];exact Nat.one_pos)⟩
  have dw:∀ r∈f.take k,r.length=1:=fun r hm=>by
   obtain⟨i,hi⟩:=avu (awm hm);exact akg i r hi
  refine⟨some ⟨b,of,none⟩,ln,cap,(List.range k).map fun j=>g j 0,rfl,hn.symm,ag,fun _=>⟨_,rfl,fun j v hv=>?_⟩,dw,fun j u x hu hx=>?_⟩
  ·grind [KK,addr_add]
  ·simp only[List.getElem?_map,au2] at hu
   obtain⟨j',Bq,rfl⟩:=hu;obtain⟨aZ,rfl⟩:=KK Bq;obtain⟨i,q,r,e1,e2,e3⟩:=BP (f.take k) _ x dw hx;have hq:q=0:=by
    have:=(au7.1 e2).1
    rw[dw r (avb e1)] at this;omega
   subst hq;rw[axq,avG] at e3;subst e3;have e1' : f[j']?=some r:=by
    rw[avw,if_pos aZ] at e1;exact e1
   exact⟨(di _ 0 r x e1' e2).2.2,dr _ 0 r x e1' e2⟩
def SX(hW:a8 G base s.H gh w)(hF:FR L nt gh w a s){c:Call}{t:TypeId}
  (ho:o.op=.call c) (jM:c.callee=.builtin .copy) (gm:c.args.toList=[x,y]) (mW:c.argTypes.toList=[t,u]) (hu:P.underlying t=some (.slice e)) (hs:fC P e=some 1)
  (jr:av nt x=some yx) (D5:av nt y=some yy) (he:yw s (yx.addr G s.T) (yy.eval G s.T)=some (z,s')) (hd:∀ k,o.dst=some k->k<nt) :
  ∃ v' br w',wS P a o w v' w'/\Out G base nt L gh w a s o.dst z (s'.getD s) v' br w':=by
 have kj:(P.info? e).map (·.size)=some 1:=hs;have hm:=arg_val hW hF jr;unfold yw at he;split at he
 ·
  rename_i l o0 n zz f own hX hY;rw[hX] at hm;obtain⟨aZ,cap,hk,_,hA⟩:=VR.k9 (hm:VR gh s.H.length w (a.eval x) (.sref l o0 n zz));have hp:=(cU hW hF D5 hY rfl).jF;split at he
  ·rename_i cs hH
   obtain⟨h0,iZ⟩:=al he;clear he;simp only[au4,au8] at iZ;obtain⟨rfl,rfl⟩:=iZ;simp only[au6,iI,avf,avv] at h0;obtain⟨⟨⟨rfl,hh⟩,gW⟩,gY⟩:=h0;obtain⟨hκ,hS,C,ty,hb,hC,iL⟩:=(hW.more l _ hH:iT gh s.H.length w (gh.ρ l) (.hb l) (fun j=>.hs l j) cs)
   have Fu:Nat.min f.length n<=f.length:=Nat.min_le_left _ _;have Qk:Nat.min f.length n<=n:=Nat.min_le_right _ _;obtain⟨ad,ln,cp,BB,hV,hln,W3,hq,abt,dr⟩:=Sz (n:=0) hp hh Fu;generalize Mj:Nat.min f.length n=k at *;have iC:∀ u∈BB,u.oneCell'=true:=by
    intro u hu;obtain⟨j,hj⟩:=avu hu;have wz:j<k:=by rw[<- W3];exact (au7.1 hj).1
    have yK:(f.take k).flatten.length=k:=by rw[kW _ abt];simp;omega
    exact (dr j u _ hj (au5 (by rw[yK];exact wz))).1
   have TI:o0+BB.toArray.size<=C.size:=dq;have dO:(Builtin.copy_ #[t,u] o.type #[a.eval x,a.eval y]).run P w=.ok (.int .i64 (k:Int)) (w.setRow (gh.ρ l) (gv C o0 BB.toArray)):=by
    rw[hA,hV]
    by_cases yL:k=0
    ·have hv0:BB=[]:=avl.1 ah
     have Yi:gv C o0 (#[]:Array Value)=C:=by simp[gv]
     rw[hv0,Yi,setRow_self w _ C ty (0,0) hb];have:=run_copy_none (P:=P) w t u o.type e (some ⟨gh.ρ l,o0,none⟩) ad n cap ln cp hu kj (by rw[hln,Mj];exact yL)
     rw[this,yL];rfl
    ·obtain⟨q,rfl,ans⟩:=hq ah
     have:=run_copy_row (P:=P) w t u o.type e (gh.ρ l) o0 n cap q ln cp C ty BB hu kj hb (by rw[W3,hln,Mj]) ans (cY TI) iC
     rw[this];simp[gv,W3,goInt]
   have mJ:∀ o,gh.S (gh.ρ l) o->(gv C o0 BB.toArray)[o]?=C[o]?:=fun o ho=>(hS o ho).elim
   have Oq:=dL TI;have st:=nN hW hb Oq mJ s.H.length;have hE:=DD hW hb Oq mJ (by rw[hκ];simp) (by rw[hκ];simp) s.H.length
   rw[hκ] at st;have dw:(f.take k).flatten.length=k:=by
    rw[kW _ abt];simp;omega
   have hB:iT gh s.H.length (w.setRow (gh.ρ l) (gv C o0 BB.toArray)) (gh.ρ l) (.hb l) (fun j=>.hs l j) (putAt cs o0 (f.take k).flatten):=by
    refine⟨hκ,hS,_,ty,setRow_heap w _ C _ ty _ hb,by rw[Oq,si (by rw[dw];omega)];exact hC,fun j u x Gk Br=>?_⟩
    rw[lD TI] at Gk;rw[vM (by rw[dw];omega)] at Br
    simp only[awp,W3] at Gk;rw[dw] at Br;split at Gk
    ·rename_i hc
     rw[if_pos hc] at Br;obtain⟨k1,k2⟩:=dr _ u x (cY Gk) Br;exact⟨k1,.inl (.plain _ _ (k2.mono st.S st.cell st.mp))⟩
    ·rename_i hc
     rw[if_neg hc] at Br;obtain⟨k1,k2⟩:=iL j u x Gk Br;exact⟨k1,k2.mono st (Nat.le_refl _) ag⟩
   have HG:a8 G base (s.H.set l (.bZ (putAt cs o0 (f.take k).flatten))) gh (w.setRow (gh.ρ l) (gv C o0 BB.toArray)) :=
    hW.B5 st aZ (by intro k hk;simp[hk]) (fun b o ho=>by simpa using hW.qa b o ho) (fun b hb=>by simpa using hW.ry b hb) (fun _ _ h=>by cases h) hB (fun _ _ _ h=>.inl h)
   refine⟨.int .i64 k,gh,_,.inl (wG ho jM gm mW dO),HG,?_,hE⟩;exact hF.put (H':=s.H.set l (.bZ (putAt cs o0 (f.take k).flatten))) (lo':=cond (Nat.blt l s.lo) l s.lo) st (fun i=>⟨ag,ag,ag⟩) ag o.dst hd (.dG (.plain _ _ (.int _ _)))
  ·cases he
 ·
  rename_i own f asM hX hY;simp only[au4,au8] at he;obtain⟨rfl,rfl⟩:=he;rw[hX] at hm;have h1:∃ ad cp,a.eval x=.slice ad 0 cp:=by
   have hp:=VR.jF (hm:VR gh s.H.length w (a.eval x) (.slice [] false));generalize a.eval x=V at hp;cases hp with
   | dF=>exact⟨_,_,rfl⟩
   | slice b of n cap sz _ f hn _ _ _ _=>simp at hn;subst hn;exact⟨_,_,rfl⟩
  have h2:∃ ad n cp,a.eval y=.slice ad n cp:=by
   have hp:=(cU hW hF D5 hY rfl).jF;generalize a.eval y=V at hp;cases hp with
   | dF=>exact⟨_,_,_,rfl⟩
   | slice b of n cap sz _ f hn _ _ _ _=>exact⟨_,_,_,rfl⟩
  obtain⟨ad,cp,h1⟩:=h1;obtain⟨ad',n',cp',h2⟩:=h2;have dO:=run_copy_none (P:=P) w t u o.type e ad ad' 0 cp n' cp' hu kj (Nat.min_zero _);rw[<- h1,<- h2] at dO;refine⟨.int .i64 0,gh,w,.inl (wG ho jM gm mW dO),?_⟩;exact Out.pure hW hF hd (.dG (.plain _ _ (.int _ _)))
 ·cases he
end
end
section
section
variable {P:Program}{G:Nat->List AV}{base nt:Nat}{L:List Nat}{gh:Gh}{w w' : World}{a:Act}{s:AS}{H:ae}
def A5(h:isLocal locals d=true):∃ k,d=some k/\k∈locals:=by
 cases d with
 | none=>cases h
 | some k=>exact⟨k,rfl,by simpa [isLocal] using h⟩
theorem xu{l:List Nat}(h:lW l d=true):∃ k,d=some k/\k∈l:=by
 cases d with
 | none=>cases h
 | some k=>exact⟨k,rfl,by simpa [lW] using h⟩
def QM{k:sD}{e:List (List AV)}{t:TypeId}{ao:Option Addr}(hV:V=.slice ao e.length cap)(ht:match k with|.str=>P.underlying t=some .string|.sl=>∃ e,P.underlying t=some (.slice e)|.arr m=>∃ e,P.underlying t=some (.array m e))
  (he:de k (.slice e false)=some z) (ty:TypeId) {n:Nat} : ∃ v,(Builtin.len_ #[t] ty #[V]).run P w=.ok v w/\VR gh n w v z:=by
 subst hV;cases k<;>simp only[de,au4,reduceCtorEq] at he<;>subst he
 ·obtain⟨e',ht⟩:=ht
  exact⟨.int .i64 e.length,by simp[Builtin.len_,run_underlying ht,goInt],.plain _ _ (.int _ _)⟩
 ·obtain⟨e',ht⟩:=ht
  exact⟨.int .i64 _,by simp[Builtin.len_,run_underlying ht,goInt],.plain _ _ (.int _ _)⟩
def aaZ(hW:a8 G base s.H gh w)(hF:FR L nt gh w a s){c:Call}{iy:aE}{mx:Bool}(ho:o.op=.call c)(jM:c.callee=.builtin (cond mx .max .min))(gm:c.args.toList=[x,y])
  (hx:av nt x=some ix) (hy:av nt y=some iy) (he:aeU mx (ix.eval G s.T) (iy.eval G s.T)=some z):∃ v,(execOp a.eval o).run P w=.ok (.value v) w/\oZ gh s.H.length nt w s.T s.gen (gP a) v z:=by
 generalize hX:ix.eval G s.T=X at he;generalize hY:iy.eval G s.T=Y at he;unfold aeU at he;split at he
 ·obtain⟨h0,he⟩:=al he
  injection he with he
  subst he;have h1:=(cU hW hF hx hX rfl).kE;have h2:=(cU hW hF hy hY rfl).kE;have e1:c.args=#[x,y]:=by apply aw1;simpa using gm
  cases mx
  ·refine⟨_,?_,.dG (.plain _ _ (.int _ _))⟩
   unfold execOp;simp only[ho,resolve,jM,e1,invoke,builtin,Sem.run_bind,Sem.run_pure,Result.andThen_ok,aw3,avm,avN,cond_false,h1,h2,Builtin.min_,Builtin.min2,List.foldlM_cons,List.foldlM_nil]
  ·refine⟨_,?_,.dG (.plain _ _ (.int _ _))⟩
   unfold execOp;simp only[ho,resolve,jM,e1,invoke,builtin,Sem.run_bind,Sem.run_pure,Result.andThen_ok,aw3,avm,avN,cond_true,h1,h2,Builtin.max_,Builtin.max2,List.foldlM_cons,List.foldlM_nil]
 ·cases he
def YL{t:TypeId}(ht:P.underlying t=some (.array m e))(ty:TypeId){n:Nat} : ∃ v,(Builtin.len_ #[t] ty #[V]).run P w=.ok v w/\VR gh n w v (.int .i64 m) :=
 ⟨.int .i64 _,by simp[Builtin.len_,run_underlying ht,goInt],.plain _ _ (.int _ _)⟩
def L6(hW:a8 G base s.H gh w)(hF:FR L nt gh w a s){c:Call}{t:TypeId}{y:aE}{k:sD}
  (ho:o.op=.call c) (jM:c.callee=.builtin .len) (gm:c.args.toList=[x]) (mW:c.argTypes.toList=[t]) (hc:av nt x=some y)
  (ht:match k with|.str=>P.underlying t=some .string|.sl=>∃ e,P.underlying t=some (.slice e)|.arr m=>∃ e,P.underlying t=some (.array m e))
  (he:aR G cf s (.len k y)=some (z,s')):s'=none/\∃ v,(execOp a.eval o).run P w=.ok (.value v) w/\oZ gh s.H.length nt w s.T s.gen (gP a) v z:=by
 simp only[aR] at he;have fin:∀ {zz:AV},(∃ v,(Builtin.len_ #[t] o.type #[a.eval x]).run P w=.ok v w/\VR gh s.H.length w v zz)->∃ v,(execOp a.eval o).run P w=.ok (.value v) w/\oZ gh s.H.length nt w s.T s.gen (gP a) v zz :=
  fun ⟨v,h1,h2⟩=>⟨v,Ip ho jM gm mW h1,.dG h2⟩
 split at he
 ·rename_i tt g hy
  split at he
  ·rename_i g' e hT
   obtain⟨h0,he⟩:=al he;have JZ:g=g':=by simpa [iI] using h0
   simp only[au2,au8] at he;obtain⟨z',hz,rfl,rfl⟩:=he;refine⟨rfl,fin ?_⟩;have hv:=arg_val hW hF hc;rw[hy] at hv;obtain⟨hb,_,hr⟩:=(hv:_/\_/\_);have tU:=hr (by rw[hT,<- JZ];rfl)
   obtain⟨ad,cap,hV,_⟩:=qe hF hb hT;exact QM (tU.trans hV) ht hz o.type
  ·cases he
 ·simp only[au2,au8] at he
  obtain⟨z',hz,rfl,rfl⟩:=he;refine⟨rfl,fin ?_⟩;cases k with
  | arr m =>
   obtain⟨e,ht⟩:=ht;simp only[de,au4] at hz;subst hz;exact YL ht o.type
  | _ =>
   have JX:aN (y.addr G s.T)=true:=by
    generalize y.addr G s.T=Y at hz
    cases Y<;>first|rfl|(simp[de] at hz)
   exact XF (qB hW hF hc rfl JX) ht hz o.type
theorem CD(ua:jm P G cf)(hW:a8 G base s.H gh w)(hF:FR L nt gh w a s){io:ow}(cc:dB P dI locals muts nt o.dst o.op=some io)
  (JO:∀ x,x∈locals->x∈L) (Lg:∀ x,x∈muts->x∈L) {z:AV} {s' : Option AS} (he:aR G cf s io=some (z,s')) (hd:∀ k,o.dst=some k->k<nt) (K:Act->World->Prop) (Q:Exit->Act->World->Prop)
  (hK:∀ v' br w',Out G base nt L gh w a s o.dst z (s'.getD s) v' br w'->K (a.put o.dst v') w'):o.wp P a w K Q:=by
 have fin:s'=none->(∃ v,(execOp a.eval o).run P w=.ok (.value v) w/\oZ gh s.H.length nt w s.T s.gen (gP a) v z)->o.wp P a w K Q:=by
  rintro rfl ⟨v,h1,h2⟩
  exact wS.wp (.inl h1) (hK v gh w (Out.pure hW hF hd h2))
 have tg:(∃ v' br w',wS P a o w v' w'/\Out G base nt L gh w a s o.dst z (s'.getD s) v' br w')->o.wp P a w K Q:=by
  grind [wS.wp]
 have arL:∀ x y,(o.op=.move x\/o.op=.assign x)->av nt x=some y->io=.mov (lW dI o.dst) (lW muts o.dst) (cond (lW muts o.dst) (H9 y) y)->o.wp P a w K Q:=by
  intro x y ho hc hio;subst hio;simp only[aR] at he
  by_cases Qp:∃ v,y=.xQ v/\lW muts o.dst=true
  ·obtain⟨v,rfl,hm⟩:=Qp
   rw[hm] at he;simp only[cond_true,H9,rN,au4,au8,aE.eval] at he;obtain⟨rfl,rfl⟩:=he;refine fin rfl ⟨a.eval x,?_,.dG ?_⟩
   ·rcases ho with ho|ho<;>simp[execOp,ho]
   ·cases x with
    | tmp k =>
     simp only[av] at hc
     grind
    | const u =>
     simp only[av,au2] at hc;obtain⟨zz,hz,h⟩:=hc;injection h with h
     subst h;exact Hp hz
    | global g=>simp[av] at hc
    | func f=>simp[av] at hc
  have aiK:cond (lW muts o.dst) (H9 y) y=y:=by
   cases hm:lW muts o.dst with
   | false=>rfl
   | true=>cases y<;>first|rfl|exact absurd ⟨_,rfl,hm⟩ Qp
  rw[aiK] at he;cases s' with
  | none =>
   refine fin rfl ⟨a.eval x,?_,acX hW hF hc he⟩
   rcases ho with ho|ho<;>simp[execOp,ho]
  | some s' =>
   refine tg (Hy hW hF ho hc he hd (fun h k hk=>?_))
   grind [xu]
 cases dN:o.op with
 | move x =>
  rw[dN] at cc;simp only[dB,au2] at cc
  grind
 | assign x =>
  rw[dN] at cc;simp only[dB,au2] at cc
  grind
 | pick c x y =>
  rw[dN] at cc;simp only[dB,au3,au2] at cc;obtain⟨ic,hc,ix,hx,iy,hy,rfl⟩:=cc;simp only[aR] at he;split at he
  ·rename_i t ht
   simp only[au4,au8] at he;obtain⟨rfl,rfl⟩:=he;exact fin rfl (XK hW hF dN hc hx hy ht)
  ·cases he
 | alloc t =>
  rw[dN] at cc;simp only[dB,au3] at cc;obtain⟨zz,hz,cc⟩:=cc;cases hl:isLocal locals o.dst with
  | true =>
   rw[hl] at cc;simp only[cond_true,au4] at cc;subst cc;simp only[aR,au4,au8] at he;obtain⟨rfl,rfl⟩:=he;obtain⟨k,hk,Fu⟩:=A5 hl;exact tg (PN hW hF dN hz (fun k' tV=>⟨hd k' tV,by rw[hk] at tV;injection tV with e;subst e;exact JO _ Fu⟩))
  | false =>
   rw[hl] at cc;simp only[cond_false,au4] at cc;subst cc;rcases awg (JG 500000 muts o.dst) with hm|hm
   ·rw[hm] at he
    simp only[cond_true,aR,MX] at he;obtain⟨cs,iL,h0,rfl,rfl⟩:=he;have W6:cs=zz:=(avS iL).symm;subst W6;exact tg (PO hW hF dN hz hd)
   ·rw[hm] at he
    simp only[cond_false,aR,au4,au8] at he;obtain⟨rfl,rfl⟩:=he;exact tg (PM hW hF dN hz hd)
 | box t x =>
  rw[dN] at cc;simp only[dB,au2] at cc;obtain⟨y,hc,rfl⟩:=cc;cases hl:isLocal locals o.dst with
  | true =>
   rw[hl] at he;simp only[cond_true,aR,au2,au8] at he;obtain⟨cs,iL,rfl,rfl⟩:=he;obtain⟨k,hk,Fu⟩:=A5 hl;exact tg (XB hW hF dN hc iL (fun k' tV=>⟨hd k' tV,by rw[hk] at tV;injection tV with e;subst e;exact JO _ Fu⟩))
  | false =>
  rw[hl,cond_false] at he;rcases awg (JG 500000 muts o.dst) with hm|hm
  ·rw[hm] at he
   simp only[cond_true,aR,MX] at he;obtain⟨cs,iL,h0,rfl,rfl⟩:=he;exact tg (XC hW hF dN hc iL hd)
  ·rw[hm] at he
   simp only[cond_false,aR,MX] at he;obtain⟨cs,iL,h0,rfl,rfl⟩:=he;exact tg (acV hW hF dN hc iL h0 hd)
 | build t parts =>
  rw[dN] at cc;simp only[dB,au3] at cc;obtain⟨zz,hz,cc⟩:=cc;split at cc
  ·rename_i fs hu
   simp only[MX] at cc;obtain⟨h0,ps,hp,rfl⟩:=cc;simp only[aR,au2,au8] at he;obtain⟨Z,hZ,rfl,rfl⟩:=he;exact fin rfl (Bk hW hF dN hz hu hp (Option.isSome_iff_exists.1 h0) hZ)
  ·rename_i n e hu
   simp only[au3,au2] at cc;obtain⟨sz,hs,ps,hp,rfl⟩:=cc;simp only[aR,au2,au8] at he;obtain⟨Z,hZ,rfl,rfl⟩:=he;exact fin rfl (CF hW hF dN hz hu hs hp hZ)
  ·cases cc
 | buildSlice t len parts =>
  rw[dN] at cc;simp only[dB] at cc;split at cc
  ·rename_i e hu
   simp only[au3] at cc;obtain⟨sz,hs,zz,hz,ps,hp,cc⟩:=cc;obtain⟨h0,cc⟩:=al cc;injection cc with cc
   subst cc;simp only[au6,avv,iI,avf,avn] at h0;cases hl:isLocal locals o.dst with
   | true =>
    rw[hl] at he;simp only[cond_true,aR,MX] at he;obtain⟨E,hE,ri,rfl,rfl⟩:=he;exact tg (Jy hW hF dN hu hs hz hp h0.1.1 h0.1.2 h0.2 ri hE hd)
   | false =>
   rw[hl] at he;simp only[cond_false,aR,MX] at he;obtain⟨E,hE,ri,rfl,rfl⟩:=he;exact tg (L7 hW hF dN hu hs hz hp ri (fun h=>av5 h) h0.1.1 h0.1.2 h0.2 hE hd)
  ·cases cc
 | load t x =>
  rw[dN] at cc;simp only[dB,au3,au2] at cc;obtain⟨y,hc,g,hg,sz,hs,rfl⟩:=cc;simp only[aR] at he;cases s' with
  | none =>
   obtain⟨v,h1,h2⟩:=XG (P:=P) hW hF hc hg hs he;exact fin rfl ⟨v,by simp[execOp,dN,h1],h2⟩
  | some s'=>exact tg (Hw hW hF dN hc hg hs he hd)
 | store t x y =>
  rw[dN] at cc;simp only[dB,au3,au2] at cc;obtain⟨ya,Oh,yv,hcv,sz,hs,rfl⟩:=cc;simp only[aR,au2,au8] at he;obtain⟨s1,he,rfl,rfl⟩:=he;exact tg (S3 hW hF dN Oh hcv hs he hd)
 | nilCheck x =>
  rw[dN] at cc;simp only[dB,au2] at cc;obtain⟨y,hc,rfl⟩:=cc;simp only[aR,MX] at he;obtain⟨h0,rfl,rfl⟩:=he;exact fin rfl (Jz hW hF dN hc h0)
 | binOp op t x y u =>
  rw[dN] at cc;simp only[dB,au3] at cc;obtain⟨ix,hx,iy,hy,cc⟩:=cc;split at cc
  ·rename_i neg hn
   injection cc with cc
   subst cc;simp only[aR,au2,au8] at he;obtain⟨b,hb,rfl,rfl⟩:=he;exact fin rfl (XJ hW hF dN hx hn hb)
  ·injection cc with cc
   subst cc;simp only[aR,au2,au8] at he;obtain⟨z',hz,rfl,rfl⟩:=he;exact fin rfl (acU hW hF dN hx hy hz)
 | unOp op t x =>
  rw[dN] at cc;simp only[dB,au2] at cc;obtain⟨y,hc,rfl⟩:=cc;simp only[aR,au2,au8] at he;obtain⟨z',hz,rfl,rfl⟩:=he;exact fin rfl (ahr hW hF dN hc hz)
 | convert st dt x =>
  rw[dN] at cc;simp only[dB,au3] at cc;obtain⟨y,hc,cc⟩:=cc;split at cc
  ·rename_i k' k h1 h2
   injection cc with cc
   subst cc;simp only[aR,au2,au8] at he;obtain⟨z',hz,rfl,rfl⟩:=he;exact fin rfl (S4 hW hF dN hc h1 h2 hz)
  ·rename_i h1 h2
   injection cc with cc
   subst cc;simp only[aR,au2,au8] at he;obtain⟨z',hz,rfl,rfl⟩:=he;exact fin rfl (L8 hW hF dN hc h1 h2 hz)
  ·rename_i e h1 h2
   split at cc
   ·rename_i hE
    injection cc with cc
    subst cc;simp only[aR,au2,au8] at he;obtain⟨z',hz,rfl,rfl⟩:=he;exact fin rfl (Jw hW hF dN hc h1 hE h2 hz)
   ·cases cc
  ·cases cc
 | makeFunc f first captured =>
  rw[dN] at cc;simp only[dB,au3,au2] at cc;obtain⟨fs,h1,cs,h2,rfl⟩:=cc;simp only[aR,MX] at he;obtain⟨h0,rfl,rfl⟩:=he;simp only[au6] at h0;exact fin rfl (PX hW hF dN h1 h2 h0.1 h0.2)
 | slice t x lo hi mx =>
  rw[dN] at cc;simp only[dB,au3] at cc;obtain⟨ix,hc,Qy,h1,Ow,h2,HR,h3,cc⟩:=cc;split at cc
  ·rename_i hu
   injection cc with cc
   subst cc;simp only[aR,au2,au8] at he;obtain⟨z',hz,rfl,rfl⟩:=he;exact fin rfl (HA hW hF dN hc h1 h2 h3 hu hz)
  ·rename_i e hu
   simp only[au2] at cc;obtain⟨sz,hs,rfl⟩:=cc;simp only[aR,au2,au8] at he;obtain⟨z',hz,rfl,rfl⟩:=he;exact fin rfl (JA hW hF dN hc h1 h2 h3 hu hs hz)
  ·rename_i n e hu
   simp only[au3] at cc;obtain⟨sz,hs,cc⟩:=cc;obtain⟨h0,cc⟩:=al cc;injection cc with cc
   subst cc;simp only[aR,au2,au8] at he;obtain⟨z',hz,rfl,rfl⟩:=he;exact fin rfl (Hz hW hF dN hc h1 h2 h3 hu hs (by simpa [avn] using h0) hz)
  ·cases cc
 | fieldAddr t x f =>
  rw[dN] at cc;simp only[dB,au3] at cc;obtain⟨ix,hc,cc⟩:=cc;split at cc
  ·rename_i fs hu
   simp only[au3] at cc;obtain⟨q,hq,sz,hs,cc⟩:=cc;obtain⟨h0,cc⟩:=al cc;injection cc with cc
   subst cc;simp only[aR,MX] at he;obtain⟨hl,z',hz,rfl,rfl⟩:=he;exact fin rfl (Hv hW hF dN hc hu hq hs (by simpa [avn] using h0) hl hz)
  ·cases cc
 | indexAddr t x i =>
  rw[dN] at cc;simp only[dB,au3] at cc;obtain⟨ix,hc,ii,hi,cc⟩:=cc;split at cc
  ·rename_i e hu
   simp only[au2] at cc;obtain⟨sz,hs,rfl⟩:=cc;simp only[aR] at he;split at he
   ·rename_i el own hy
    simp only[MX] at he;obtain⟨k,hk,r,hr,h0,rfl,rfl⟩:=he;exact fin rfl (XE hW hF dN hc hi hu hs hk hy hr (by simpa [iI] using h0))
   ·rename_i l of m hy
    simp only[MX] at he;obtain⟨k,hk,h0,rfl,rfl⟩:=he;exact fin rfl (PV hW hF dN hc hi hu hs hk hy (by simpa [avn] using h0))
   ·rename_i b g hy
    split at he
    ·rename_i g' el hT
     obtain⟨h0,he⟩:=al he;have JZ:g=g':=by simpa [iI] using h0
     simp only[MX] at he;obtain⟨k,hk,r,hr,h0,rfl,rfl⟩:=he;exact fin rfl (S0 hW hF dN hc hi hu hs hk hy (by rw[hT,JZ]) hr (by simpa [iI] using h0))
    ·cases he
   ·cases he
  ·rename_i n e hu
   simp only[au2] at cc;obtain⟨sz,hs,rfl⟩:=cc;simp only[aR,au3] at he;obtain⟨k,hk,he⟩:=he;obtain⟨h0,he⟩:=al he;simp only[au6,avn] at h0;simp only[au2,au8] at he;obtain⟨z',hz,rfl,rfl⟩:=he;exact fin rfl (SZ hW hF dN hc hi hu hs hk h0.1 h0.2 hz)
  ·cases cc
 | index t x i =>
  rw[dN] at cc;simp only[dB,au3] at cc;obtain⟨ix,hc,ii,hi,cc⟩:=cc;split at cc
  ·rename_i hu
   injection cc with cc
   subst cc;simp only[aR] at he;split at he
   ·rename_i l hz
    simp only[au3,au2,au8] at he;obtain⟨k,hk,b,hb,rfl,rfl⟩:=he;exact fin rfl (Jx hW hF dN hc hi hu hk hz hb)
   ·cases he
  ·rename_i n e hu
   simp only[au3,au2] at cc;obtain⟨sz,hs,g,hg,rfl⟩:=cc;simp only[aR,au3] at he;obtain⟨k,hk,he⟩:=he;obtain⟨h0,he⟩:=al he;split at he
   ·rename_i cs hz
    simp only[au2,au8] at he;obtain⟨z',hl,rfl,rfl⟩:=he;exact fin rfl (SY hW hF dN hc hi hu hs hg hk (by simpa [avn] using h0) hz hl)
   ·cases he
  ·cases cc
 | extract x i =>
  rw[dN] at cc;simp only[dB,au2] at cc;obtain⟨y,hc,rfl⟩:=cc;simp only[aR] at he;split at he
  ·rename_i vs hz
   simp only[au2,au8] at he;obtain⟨z',W6,rfl,rfl⟩:=he;exact fin rfl (L5 hW hF dN hc hz W6)
  ·cases he
 | call c =>
  rw[dN] at cc;simp only[dB,yn] at cc;split at cc
  ·rename_i fx jM
   simp only[au3,au2] at cc;obtain⟨yf,jr,ys,D5,rfl⟩:=cc;simp only[aR] at he;split at he
   ·rename_i f fs cs adC
    obtain⟨h0,he⟩:=al he;simp only[au2,au8] at he;obtain⟨⟨r,ch⟩,hr,rfl,rfl⟩:=he;exact XD ua hW hF dN jM jr D5 adC h0 hr hd K Q hK
   ·cases he
  ·rename_i jM
   split at cc
   ·rename_i x t gm mW
    simp only[au3] at cc;obtain⟨y,hc,cc⟩:=cc;split at cc
    ·rename_i hu
     injection cc with cc
     subst cc;obtain⟨h1,h2⟩:=L6 (P:=P) hW hF dN jM gm mW hc (k:=.str) hu he;exact fin h1 h2
    ·rename_i e hu
     injection cc with cc
     subst cc;obtain⟨h1,h2⟩:=L6 (P:=P) hW hF dN jM gm mW hc (k:=.sl) ⟨_,hu⟩ he;exact fin h1 h2
    ·rename_i n e hu
     injection cc with cc
     subst cc;obtain⟨h1,h2⟩:=L6 (P:=P) hW hF dN jM gm mW hc (k:=.arr n) ⟨_,hu⟩ he;exact fin h1 h2
    ·cases cc
   ·cases cc
  ·rename_i jM
   split at cc
   ·rename_i x y t u gm mW
    simp only[au3] at cc;obtain⟨yx,jr,yy,D5,cc⟩:=cc;have go:∀ e,P.underlying t=some (.slice e)->((∃ e',P.underlying u=some (.slice e'))\/P.underlying u=some .string) ->
      ((P.info? e).bind fun i=>cond (Nat.blt 0 i.size&&(i.zero.map fun z=>Nat.beq z.cells.size i.size).getD false) (some (cond (isLocal locals o.dst) (ow.appendO i.size i.bytes yx yy) (ow.append (Nat.beq e jo) (lW muts o.dst) i.size i.bytes yx yy))) none)=some io->o.wp P a w K Q:=by
     intro e ht hu cc;simp only[au3] at cc;obtain⟨i,hi,cc⟩:=cc;obtain⟨h0,cc⟩:=al cc;injection cc with cc
     subst cc;simp only[au6,avn] at h0;obtain⟨h0,h1⟩:=h0;have hT:AD P t e i.size i.bytes:=by
      cases hz:i.zero with
      | none=>rw[hz] at h1;cases h1
      | some zv=>rw[hz] at h1;exact⟨ht,⟨i,zv,hi,hz,rfl,rfl,by simpa [iI] using h1⟩,h0⟩
     cases hob:isLocal locals o.dst with
     | true =>
      rw[hob] at he;simp only[cond_true,aR] at he;exact tg (L4 hW hF dN jM gm mW hT hu jr D5 he hd)
     | false =>
     rw[hob] at he;simp only[cond_false,aR] at he;refine tg (PU hW hF dN jM gm mW hT (fun h=>av5 h) hu jr D5 he hd (fun h k hk=>?_))
     obtain⟨k',h1,h2⟩:=xu h;rw[h1] at hk;injection hk with hk;subst hk
     exact Lg _ h2
    split at cc
    ·rename_i e e' ht hu
     exact go e ht (.inl ⟨_,hu⟩) cc
    ·rename_i e ht hu
     exact go e ht (.inr hu) cc
    ·cases cc
   ·cases cc
  ·rename_i jM
   split at cc
   ·rename_i x y t u gm mW
    simp only[au3] at cc;obtain⟨ix,hx,iy,hy,cc⟩:=cc;split at cc
    ·rename_i e e' ht hu
     simp only[au3] at cc;obtain⟨sz,hs,cc⟩:=cc;obtain⟨h0,cc⟩:=al cc;injection cc with cc
     subst cc;simp only[iI,avf] at h0;subst h0;simp only[aR] at he;exact tg (SX hW hF dN jM gm mW ht hs hx hy he hd)
    ·cases cc
   ·cases cc
  ·rename_i jM
   split at cc
   ·rename_i x y gm
    simp only[au3,au2] at cc;obtain⟨ix,hx,iy,hy,rfl⟩:=cc;simp only[aR,au2,au8] at he;obtain⟨z',hz,rfl,rfl⟩:=he;exact fin rfl (aaZ (mx:=true) hW hF dN jM gm hx hy hz)
   ·cases cc
  ·rename_i jM
   split at cc
   ·rename_i x y gm
    simp only[au3,au2] at cc;obtain⟨ix,hx,iy,hy,rfl⟩:=cc;simp only[aR,au2,au8] at he;obtain⟨z',hz,rfl,rfl⟩:=he;exact fin rfl (aaZ (mx:=false) hW hF dN jM gm hx hy hz)
   ·cases cc
  ·injection cc with cc
   subst cc;simp only[aR,aE.eval,gF,awf] at he;cases he
  ·cases cc
 | makeSlice t x y =>
  rw[dN] at cc;simp only[dB,au3] at cc;obtain⟨yx,jr,cc⟩:=cc;obtain⟨W5,cc⟩:=al cc;split at cc
  ·rename_i e ht
   simp only[au3] at cc;obtain⟨i,hi,zv,hz,zero,hzc,cc⟩:=cc;obtain⟨h0,cc⟩:=al cc;injection cc with cc
   subst cc;simp only[au6,avn,iI,avf] at h0;simp only[aR] at he;exact tg (S1 hW hF dN W5 ht hi hz hzc h0.2 h0.1 jr he hd)
  ·cases cc
 | makeMap t r =>
  rw[dN] at cc;cases r with
  | some r=>simp[dB] at cc
  | none =>
   simp only[dB,au2] at cc;obtain⟨m,hm,rfl⟩:=cc;simp only[aR,au4,au8] at he;obtain⟨rfl,rfl⟩:=he;exact tg (S2 hW hF dN hd _ _ _)
 | lookup t x i ok =>
  rw[dN] at cc;simp only[dB,au3,au2] at cc;obtain⟨ya,Oh,yb,hcb,m,hm,rfl⟩:=cc;obtain⟨kt,et,z,hT⟩:=y9 hm;simp only[aR] at he;obtain⟨h1,h2⟩:=XH hW hF hT dN Oh hcb he;exact fin h1 h2
 | mapUpdate t x i v =>
  rw[dN] at cc;simp only[dB,au3,au2] at cc;obtain⟨ya,Oh,yb,hcb,yc,hcc,m,hm,rfl⟩:=cc;obtain⟨kt,et,z,hT⟩:=y9 hm;simp only[aR,au2,au8] at he;obtain⟨s1,he,rfl,rfl⟩:=he;exact tg (N0 hW hF hT (.inl dN) Oh hcb hcc he hd)
 | insert t x i v =>
  rw[dN] at cc;simp only[dB,au3,au2] at cc;obtain⟨ya,Oh,yb,hcb,yc,hcc,m,hm,rfl⟩:=cc;obtain⟨kt,et,z,hT⟩:=y9 hm;simp only[aR,au2,au8] at he;obtain⟨s1,he,rfl,rfl⟩:=he;exact tg (N0 hW hF hT (.inr dN) Oh hcb hcc he hd)
 | range t x =>
  rw[dN] at cc;simp only[dB] at cc;obtain⟨h0,cc⟩:=al cc;simp only[au3,au2] at cc;obtain⟨ya,Oh,m,hm,rfl⟩:=cc;obtain⟨kt,et,z,hT⟩:=y9 hm;obtain⟨k',h1,h2⟩:=xu h0;exact tg (acY hW hF dN Oh hT.ht he (fun k hk=>⟨hd k hk,by rw[h1] at hk;injection hk with hk;subst hk;exact Lg _ h2⟩))
 | next x b =>
  rw[dN] at cc;cases b with
  | true=>simp[dB] at cc
  | false =>
   simp only[dB,au2] at cc;obtain⟨ya,Oh,rfl⟩:=cc;simp[aR] at he
 | entry x =>
  rw[dN] at cc;simp only[dB,au2] at cc;obtain⟨ya,Oh,rfl⟩:=cc;obtain⟨h1,h2⟩:=acW hW hF dN Oh he;exact fin h1 h2
 | _=>rw[dN] at cc;simp[dB] at cc
end
end
section
structure iM (H0:ae) (s:AS):Prop where
 lo:s.lo<=H0.length
 len:H0.length<=s.H.length
 same:∀ l,l<s.lo->s.H[l]?=H0[l]?
def BC(s:AS)(c:fP):Prop:=s.H.length<=c.heap.length/\∀ l,l<c.lo->c.heap[l]?=s.H[l]?
def iM.iK{s:AS}(h:iM H0 s){c:fP}(hc:BC s c):iM H0 (s.iK c):=by
 have e:(s.iK c).lo=if c.lo<s.lo then c.lo else s.lo:=by
  simp only[AS.iK]
  simp_all
 have:=h.lo
 refine⟨?_,avz h.len hc.1,fun l hl=>?_⟩
 ·rw[e];split<;>omega
 ·rw[e] at hl
  have h1:l<c.lo/\l<s.lo:=by split at hl<;>omega
  exact (hc.2 l h1.1).trans (h.same l h1.2)
def iM.qR{s s':AS}(h:iM H0 s)(hH:s'.H=s.H)(hl:s'.lo=s.lo):iM H0 s' :=
 ⟨by rw[hl];exact h.lo,by rw[hH];exact h.len,fun l Fv=>by rw[hH];exact h.same l (by rw[<- hl];exact Fv)⟩
def rP(s:AS)(loc:Nat)(o:bS):BC s ⟨s.H.set loc o,loc⟩:=⟨ag,fun l hl=>by simp only at hl ⊢;rw[List.getElem?_set_ne ah]⟩
def Qb(s:AS)(loc:Nat)(hl:loc<s.H.length)(o:bS):BC s ⟨s.H.set loc .dead++[o],loc⟩:=⟨ag,fun l Fv=>by
 simp only at Fv ⊢;rw[avd dq,List.getElem?_set_ne ah]⟩
def Qc(s:AS)(o:bS):BC s ⟨s.H++[o],s.H.length⟩:=⟨ag,fun l hl=>by simp only at hl ⊢;rw[avd hl]⟩
theorem Nq{s s1:AS}{a v:AV}(he:ax s sz a v=some s1)(h:iM H0 s):iM H0 s1:=by
 have sT:∀ t X,iM H0 (s.cx t X):=fun t X=>h.qR rfl rfl
 unfold ax at he;split at he
 ·cases he
 obtain⟨_,he⟩:=al he;split at he
 ·split at he
  ·obtain⟨_,he⟩:=al he
   injection he with he
   rw[<- he];exact h.iK (rP s _ _)
  ·obtain⟨_,he⟩:=al he
   injection he with he
   rw[<- he];exact h.iK (rP s _ _)
  ·cases he
 ·grind
 ·grind
 ·cases he
def PP(C:AS->Prop)(r:Option (AV × Option AS)):Prop:=∀ z s',r=some (z,some s')->C s'
section
variable {C:AS->Prop}{α:Type}
def PP.none:PP C none:=fun _ _ h=>by cases h
def PP.stay : PP C (some (z,Option.none)):=fun _ _ h=>by cases h
def PP.c{b:Bool}{s':AS}(h:C s'):PP C (some (z,bif b then some s' else Option.none)):=fun _ _ e=>by cases b<;>cases e;exact h
def PP.ok{s':AS}(h:C s'):PP C (some (z,some s')):=fun _ _ e=>by cases e;exact h
def PP.cond{b:Bool}{x y:Option (AV × Option AS)}(h1:PP C x)(h2:PP C y):PP C (bif b then x else y):=by cases b<;>assumption
def PP.bind{x:Option α}{f:α->Option (AV × Option AS)}(h:∀ a,PP C (f a)):PP C (x.bind f):=by
 cases x with
 | none=>exact PP.none
 | some a=>exact h a
def PP.map{x:Option α}{f:α->AV × Option AS}(h:∀ a,PP C (some (f a))):PP C (x.map f):=by
 cases x with
 | none=>exact PP.none
 | some a=>exact h a
end
theorem NZ{G:Nat->List AV}(ua:∀ f args H r c,cf f args H=some (r,c)->jN H c){s s':AS}{o:ow}(he:aR G cf s o=some (z,some s'))(h:iM H0 s):iM H0 s':=by
 suffices key:PP (iM H0) (aR G cf s o) from key z s' he
 clear he;have sT:∀ {s' : AS},s'.H=s.H->s'.lo=s.lo->iM H0 s':=fun a b=>h.qR a b
 cases o with
 | store sz x y =>
  intro z s' he;simp only[aR,au2,au8,au4] at he;obtain⟨s1,he,_,rfl⟩:=he;exact (Nq he h).qR (jj _ _).1 (jj _ _).2.2
 | call f args =>
  intro z s' he;simp only[aR] at he;split at he
  ·obtain⟨_,he⟩:=al he
   simp only[au2,au8] at he;obtain⟨⟨r,c⟩,hr,_,he⟩:=he;simp only[] at he;obtain⟨c',rfl,rfl⟩:=he;obtain⟨h1,h2⟩:=ua _ _ _ _ _ hr;exact h.iK ⟨by simp only[qx] at h1;omega,(h2 c' rfl).2⟩
  ·cases he
 | MN kz ka va vz ks m k v =>
  intro z s' he;simp only[aR,au2,au8,au4] at he;obtain⟨s1,he,_,rfl⟩:=he;have h1:iM H0 s1:=by
   unfold tf at he;split at he
   ·split at he
    ·simp only[au3] at he
     obtain⟨_,_,_,_,he⟩:=he;obtain⟨_,he⟩:=al he;simp only[au2] at he;obtain⟨_,_,he⟩:=he;rw[<- he];exact h.iK (rP s _ _)
    ·cases he
   ·cases he
  exact h1.qR (jj _ _).1 (jj _ _).2.2
 | _ =>
  simp only[aR,rN,bt,cS,jE,jU,yw,BL,w7]
  repeat' first
   | exact PP.none
   | exact PP.stay
   | exact PP.ok (sT rfl rfl)
   | exact PP.c (sT rfl rfl)
   | exact PP.ok (h.iK (Qc s _))
   | exact PP.ok (h.iK (rP s _ _))
   | exact PP.c (h.iK (rP s _ _))
   | exact PP.ok ((h.iK (rP s _ _)).qR rfl rfl)
   | exact PP.ok (h.iK (Qb s _ (au7.1 (by assumption)).1 _))
   | refine PP.cond ?_ ?_
   | refine PP.bind fun _=>?_
   | refine PP.map fun _=>?_
   | split
section
variable {P:Program}{G:Nat->List AV}{base nt:Nat}{L:List Nat}{gh:Gh}{w w' : World}{a:Act}{s:AS}{H:ae}
structure Inv (G:Nat->List AV) (base nt:Nat) (L:List Nat) (H0:ae) (mo:Gh) (w0:World) (s:AS) (gh:Gh) (w:World) (a:Act):Prop where
 W:a8 G base s.H gh w
 F:FR L nt gh w a s
 E:Ext H0.length mo w0 gh w
 lo:iM H0 s
def Inv.out{mo:Gh}{w':World}{x:AV}{s':AS}{v':Value}(h:Inv G base nt L H0 mo w0 s gh w a)(hO:Out G base nt L gh w a s d x s' v' br w')(hl:iM H0 s') :
  Inv G base nt L H0 mo w0 (s'.ca d x) br w' (a.put d v') :=
 ⟨by rw[(nr s' d x).1];exact hO.W,hO.F,h.E.trans hO.E h.lo.len,hl.qR (nr s' d x).1 (nr s' d x).2.2⟩
def CE(G:Nat->List AV)(cf:gz)(s:AS)(o:aV):Option (AV × AS) :=
 let run:Option (AV × AS):=(aR G cf s o.op).bind fun r=>match r.2 with
  | none=>some (r.1,s)
  | some s'=>some (r.1,s')
 match o.guard with
 | none=>run
 | some (g,want)=>match s.T g with
  | .bool b=>cond (b==want) run (some (.undef,s))
  | .tuple []=>some (.undef,s)
  | _=>none
theorem w9{G:Nat->List AV}{s:AS}{o:aV} : aS G cf s o=(CE G cf s o).map fun r=>r.2.ca o.dst r.1:=by
 have dO:((aR G cf s o.op).bind fun r=>match r.2 with
   | none=>some (s.ca o.dst r.1)
   | some s'=>some (s'.ca o.dst r.1)) =
  ((aR G cf s o.op).bind fun r=>match r.2 with
   | none=>some (r.1,s)
   | some s'=>some (r.1,s')).map fun r=>r.2.ca o.dst r.1:=by
  cases aR G cf s o.op with
  | none=>rfl
  | some r =>
   grind
 unfold aS CE
 grind
theorem sV(h:uE P dI locals muts nt ops o=some io) :
  dB P dI locals muts nt o.dst o.op=some io.op/\rM nt ops o.guard=some io.guard/\io.dst=o.dst/\∀ k,o.dst=some k->k<nt:=by
 simp only[uE,au3] at h;obtain⟨p,hp,g,hg,h⟩:=h;split at h
 ·grind
 ·rename_i d hd
  obtain⟨h0,h⟩:=al h;injection h with h
  subst h
  simp_all
theorem GI(ua:jm P G cf){mo:Gh}(hI:Inv G base nt L H0 mo w0 s gh w a)
  (hc:uE P dI locals muts nt ops o=some io) (JO:∀ x,x∈locals->x∈L) (Lg:∀ x,x∈muts->x∈L) {z:AV} {s1:AS} (he:CE G cf s io=some (z,s1)) (K:Act->World->Prop) (Q:Exit->Act->World->Prop)
  (hK:∀ a' br w',Inv G base nt L H0 mo w0 (s1.ca o.dst z) br w' a'->K a' w') :
  if Region.wanted o (yielded ops a.tmps) then o.wp P a w K Q\/(o.asks P a w/\LetsOut Q) else K (a.put o.dst undef) w:=by
 obtain⟨dN,hg,ark,hd⟩:=sV hc;have apI:s1=s->z=.undef->K (a.put o.dst undef) w:=by
  rintro rfl rfl
  exact hK _ gh w (hI.out (Out.pure hI.W hI.F hd (.dG .undef)) hI.lo)
 have dO:((aR G cf s io.op).bind fun r=>match r.2 with
   | none=>some (r.1,s)
   | some s'=>some (r.1,s'))=some (z,s1)->o.wp P a w K Q:=by
  intro h;simp only[au3] at h;obtain⟨⟨z',s'⟩,ct,h⟩:=h;cases s' with
  | none =>
   simp only at h;have h' : z'=z/\s=s1:=by
    grind
   obtain⟨rfl,rfl⟩:=h';exact CD ua hI.W hI.F dN JO Lg ct hd K Q (fun v' br w' hO=>hK _ br w' (hI.out hO hI.lo))
  | some s' =>
   simp only at h;have h' : z'=z/\s'=s1:=by
    grind
   obtain⟨rfl,rfl⟩:=h';exact CD ua hI.W hI.F dN JO Lg ct hd K Q (fun v' br w' hO=>hK _ br w' (hI.out hO (NZ (fun f args H r c h=>(ua f args H r c h).2.1) ct hI.lo)))
 cases hog:o.guard with
 | none =>
  rw[hog] at hg;simp only[rM,au4] at hg;have hw:Region.wanted o (yielded ops a.tmps)=true:=by simp[Region.wanted,hog]
  rw[if_pos hw];unfold CE at he
  grind
 | some jw =>
  obtain⟨j,want⟩:=jw;rw[hog] at hg;simp only[rM,au3] at hg;obtain⟨t,⟨oj,hoj,hdj⟩,hg⟩:=hg;obtain⟨aZ,hg⟩:=al hg;injection hg with hg
  have ht:t<nt:=by simpa [avn] using aZ
  have htm:a.tmps[t]?=some (gP a t):=by
   have:t<a.tmps.size:=by rw[hI.F.size];exact ht
   simp[gP,this]
  have hy:∀ v,gP a t=v->yielded ops a.tmps j=match v with|.bool b=>some b|_=>none:=by
   intro v hv;unfold yielded
   grind
  have qv:=hI.F.slot t ht
  change SR gh s.H.length nt w s.T s.gen (gP a) t (gP a t) (s.T t) at qv
  unfold CE at he;rw[<- hg] at he;simp only at he;split at he
  ·rename_i b hT
   rw[hT] at qv;have hv:=VR.mb (CR.dropped (qv:CR gh s.H.length w (.sl t) (gP a t) (.bool b)));have hw:Region.wanted o (yielded ops a.tmps)=(b==want):=by
    simp only[Region.wanted,hog,hy _ hv]
    grind
   grind
  ·rename_i hT
   rw[hT] at qv;have hv:=VR.QD (CR.dropped (qv:CR gh s.H.length w (.sl t) (gP a t) (.tuple [])));have hw:Region.wanted o (yielded ops a.tmps)=false:=by
    simp only[Region.wanted,hog,hy _ hv];rfl
   grind
  ·cases he
end
end
end Go.Abs
end
