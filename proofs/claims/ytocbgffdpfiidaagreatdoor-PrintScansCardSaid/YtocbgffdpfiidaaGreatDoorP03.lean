/-
  A part of the proof of PrintScans: AbsOps9, AbsOps10, AbsOps11, AbsOps12, AbsCall, AbsMap1, AbsMap2.
-/
import Derived.Deep.Upon
import Derived.Lib.FrozenHead
import Derived.Test.YtocbgffdpfiidaaGreatDoorP02
set_option linter.unusedSimpArgs false
set_option linter.unusedVariables false
set_option linter.defProp false
namespace Go.Abs
section
section
variable {P:Program}{G:Nat->List AV}{base nt:Nat}{L:List Nat}{gh:Gh}{w w' : World}{a:Act}{s:AS}{H:ag}
theorem rK(hW:aF G base s.H gh w)(hF:FR L nt gh w a s){t:Nat}(ht:t<nt){e:List (List AV)}{own:Bool}(hT:s.T t=.slice e own)(p:aW)(hp:p≠.outer) :
  ∃ aD,aF G base s.H aD w/\FR L nt aD w a (s.br t (.slice e false))/\Ext s.H.length gh w aD w/\Step (fun r=>r=.sl t) s.H.length gh w aD w/\CR aD s.H.length w p (dQ a t) (.slice e own):=by
 have dI:=fun b hb=>hW.bq (gh:=gh) b hb
 have h:CR gh s.H.length w (.sl t) (dQ a t) (.slice e own):=by
  have h:=hF.slot t ht
  rw[hT] at h
  exact h
 rcases h with hv|⟨e',heq,Du,b,cap,C,ty,lo,hi,sz,fY,hk,he,hb,hC,hr,hl,hh,hS⟩
 ·refine⟨gh,hW,?_,Ext.refl _ _ _ dI,Step.refl _ _ _ _ dI,.inl hv⟩
  exact hF.br (touch:=fun _=>False) (H':=s.H) (lo':=s.lo) (Step.refl _ _ _ _ dI) (ahQ _) (fun i _=>⟨id,id,fun _=>id⟩) (.inr rfl) (fun _=>.inl hv.dropped)
 ·injection heq with h1 h2
  subst h1 h2
  have aZ:b<w.heap.size:=(ahT.1 hb).1
  have st:=jm hW aZ p s.H.length
  rw[hk] at st
  have hn:gh.κ b≠.none:=by rw[hk];simp
  refine⟨gh.mS b p,FG hW aZ p hn (by rw[hk];simp),?_,qZ hW aZ hp hn (by rw[hk];simp) _,st,.inr ⟨e,rfl,Du,b,cap,C,ty,lo,hi,sz,fY,by simp[Gh.mS],he,hb,hC,hr,hl,hh,hS⟩⟩
  refine hF.br (H':=s.H) (lo':=s.lo) st (ahQ _) (fun i hi=>⟨by simp,by simpa using hi,by simp⟩) (.inr rfl) (fun _=>?_)
  show CR (gh.mS b p) s.H.length w (.sl t) (dQ a t) (.slice e false)
  exact .inl (.plain _ _ Du)
theorem Out.of{aD:Gh}{s1:AS}{d:Option Nat}{gen' : Nat}{v:Value}{x:AV}(hW:aF G base s1.H aD w')(hF:FR L nt aD w' a s1)(hE:Ext s.H.length gh w aD w')(hg:s1.gen<=gen')(hd:∀ k,d=some k->k<nt)
  (hx:aQ x=none\/((∃ g,s1.gen<=g/\aQ x=some g)/\∀ k,d=some k->k∈L)) (hv:∀ k,d=some k->SR aD s1.H.length nt w' s1.T gen' (dQ a) k v x) :
  Out G base nt L gh w a s d x { s1 with gen:=gen' } v aD w' :=
 ⟨hW,hF.Ok hg (fun b hb=>hW.bq b hb) d hd hx hv,hE⟩
theorem gZ{x:Operand}{t:Nat}(h:ah nt x=some (.tmp t)):x=.tmp t/\t<nt:=by
 cases x with
 | tmp k =>
  simp only[ah] at h
  rcases aiE (Nat.blt k nt) with hb|hb<;>rw[hb] at h<;>simp at h
  subst h
  exact⟨rfl,by simpa [aih] using hb⟩
 | const v =>
  simp only[ah,ahK] at h
  obtain⟨z,hz,h⟩:=h
  cases h
 | global g=>simp[ah] at h
 | func f=>simp[ah] at h
theorem BQ(hW:aF G base s.H gh w)(hF:FR L nt gh w a s){b g:Nat}{e:List (List AV)}(hb:b<nt)(hT:s.T b=.lsl g e)(pb:gM e=true)(p:aW)(hp:p≠.outer) :
  ∃ aD,aF G base s.H aD w/\FR L nt aD w a (s.br b .any)/\Ext s.H.length gh w aD w/\CR aD s.H.length w p (dQ a b) (.slice e true):=by
 have dI:=fun b hb=>hW.bq (gh:=gh) b hb
 have dY:(dQ a b).oneCell'=true:=by obtain⟨ad,cap,hv,_⟩:=lY hF hb hT;rw[hv];rfl
 obtain⟨ad,cap,hV,⟨rfl,rfl,vy⟩|⟨k,C,ty,sz,cS,rfl,hκ,hS,hk,hC,hl,hr,fq⟩⟩:=lY hF hb hT
 ·refine⟨gh,hW,?_,Ext.refl _ _ _ dI,.inl ?_⟩
  ·exact hF.br (touch:=fun _=>False) (H':=s.H) (lo':=s.lo) (Step.refl _ _ _ _ dI) (ahQ _) (fun i _=>⟨id,id,fun _=>id⟩) (.inr rfl) (fun _=>.inl (.plain _ _ (.any _ dY)))
  ·rw[hV]
   refine .full ad 0 [] ?_ (fun Zb h _=>(vy Zb h).2)
   cases ad with
   | none=>exact .cy
   | some ad =>
    obtain⟨b',o',sp⟩:=ad
    have:=(vy _ rfl).1
    simp only at this
    subst this
    exact .slice b' o' 0 0 0 [] (fun _ _=>undef) rfl (ahQ _) (fun i r h=>by simp at h) (fun i j r x h=>by simp at h) (fun i j r x h=>by simp at h)
 ·have j6:∀ o,gh.S k o->C[o]?=C[o]?:=fun _ _=>rfl
  have hn:gh.κ k≠.none:=by rw[hκ];simp
  have Qm:∀ j m,j<e.length*sz->C[j]?=some (.int .u8 m)->ty=fQ:=by
   intro j m hj hc
   have cv:fW gh.S w sz (C.toList.take (e.length*sz)).toArray e:=by
    have hle:e.length*sz<=C.size:=by rw[hC];exact ah7 _ hl
    refine⟨by simp;omega,hr,fun i j r x hi hj=>?_⟩
    obtain⟨u,hu,hp⟩:=fq i j r x hi hj
    refine⟨u,?_,hp⟩
    have h1:=(ahO.1 hi).1
    have h2:j<sz:=by rw[<- hr i r hi];exact (ahO.1 hj).1
    simp only[ah9,ah5,if_pos (qu h1 h2)]
    simpa using hu
   refine lW (isB:=false) (m:=m) cv pb (fun h=>by cases h) hj ?_
   simp only[ah9,ah5,if_pos hj]
   simpa using hc
  have st:=ng hW hk rfl (fun o=>o<e.length*sz) j6 p s.H.length
  have hE:=uC hW hk rfl (fun o=>o<e.length*sz) j6 (p:=p) hp hn (by rw[hκ];simp) s.H.length
  have j0:=HH hW hk rfl (fun o=>o<e.length*sz) j6 Qm p hn (by rw[hκ];simp)
  have LH:=setRow_self w k C ty (0,0) hk
  rw[LH] at hE j0 st
  rw[hκ] at st
  refine⟨_,j0,?_,hE,.inr ⟨e,rfl,?_,k,cap,C,ty,0,0,sz,hV,by simp,cS,hk,hC,hr,hl,aiB _,?_⟩⟩
  ·exact hF.br (H':=s.H) (lo':=s.lo) st (ahQ _) (fun i hi=>⟨by simpa using hi,by simp,by simp⟩) (.inr rfl) (fun _=>.inl (.plain _ _ (.any _ dY)))
  ·rw[hV]
   have key:∀ (i j:Nat) (r:List AV) (x:AV),e[i]?=some r->r[j]?=some x->C[i*sz+j]?=some (C.getD (i*sz+j) undef)/\PR gh.S w (C.getD (i*sz+j) undef) x/\i*sz+j<e.length*sz:=by
    intro i j r x hi hj
    obtain⟨u,hu,hp⟩:=fq i j r x hi hj
    have aZ:=(ahT.1 hu).1
    have:C.getD (i*sz+j) undef=u:=by
     rw[ahY aZ] at hu
     injection hu with hu
     simp[aZ,hu]
    rw[this]
    exact⟨hu,hp,qu (ahO.1 hi).1 (by rw[<- hr i r hi];exact (ahO.1 hj).1)⟩
   refine .slice k 0 e.length cap sz e (fun i j=>C.getD (i*sz+j) undef) rfl hl hr (fun i j r x hi hj=>?_) (fun i j r x hi hj=>?_)
   ·obtain⟨h1,h2,h3⟩:=key i j r x hi hj
    refine⟨.inr ⟨rfl,by simpa using h3⟩,?_,h2.dv⟩
    rw[Nat.zero_add,cell_of_row w k _ C ty _ hk];exact h1
   ·exact (key i j r x hi hj).2.1.mono (fun b o h=>.inl h) (fun _ _ _=>rfl) (fun _ _ _ _ h=>h)
  ·rintro o ho (h|⟨_,h⟩)
   ·exact hS o h
   ·omega
theorem zB(hW:aF G base s.H gh w)(hF:FR L nt gh w a s){o:Oper}{x:Operand}{y:ak}{take obj:Bool}{z:AV}{s' : AS}(ho:o.op=.move x\/o.op=.assign x)(hc:ah nt x=some y)
  (he:kN G s take obj y=some (z,some s')) (hd:∀ k,o.dst=some k->k<nt) (hL:obj=true->∀ k,o.dst=some k->k∈L) :
  ∃ v' aD w',qD P a o w v' w'/\Out G base nt L gh w a s o.dst z s' v' aD w':=by
 have cg:(execOp a.eval o).run P w=.ok (.value (a.eval x)) w:=by rcases ho with ho|ho<;>simp[execOp,ho]
 cases y<;>simp only[kN] at he<;>try (cases he;done)
 rename_i t
 obtain⟨rfl,ht⟩:=gZ hc
 change (execOp a.eval o).run P w=.ok (.value (dQ a t)) w at cg
 split at he
 ·cases he
 ·rename_i g e hT
  cases take
  ·cases he
  simp only[cond_true] at he
  cases Us:obj with
  | false =>
   rw[Us] at he
   simp only[ahW] at he
   obtain⟨pb,he⟩:=ab he
   simp only[ahM,ahN] at he
   obtain⟨rfl,rfl⟩:=he
   obtain⟨aD,h1,h2,h3,h4⟩:=BQ hW hF ht hT pb (J3 o.dst) (mn _)
   refine⟨_,aD,w,.inl cg,Out.of (s1:=s.br t .any) (gen':=s.gen) h1 h2 h3 (ahQ _) hd (.inl rfl) (fun k hk=>?_)⟩
   rw[hk] at h4
   exact h4
  | true =>
  rw[Us] at he
  simp only[cond_true] at he
  simp only[ahM,ahN] at he
  obtain⟨rfl,rfl⟩:=he
  have bp:=lY hF ht hT
  have dI:=fun b hb=>hW.bq (gh:=gh) b hb
  have dY:(dQ a t).oneCell'=true:=by obtain⟨ad,cap,hv,_⟩:=bp;rw[hv];rfl
  have key:∃ aD,aF G base s.H aD w/\FR L nt aD w a (s.br t .any)/\Ext s.H.length gh w aD w/\oc aD w (Dr o.dst) (dQ a t) e:=by
   obtain⟨ad,cap,hv,bp⟩:=bp
   rcases bp with hz|⟨b,C,ty,sz,V6,ha,hk,hS,hb,hC,hl,hr,fq⟩
   ·refine⟨gh,hW,?_,Ext.refl _ _ _ dI,ad,cap,hv,.inl hz⟩
    exact hF.br (touch:=fun _=>False) (H':=s.H) (lo':=s.lo) (Step.refl _ _ _ _ dI) (ahQ _) (fun i _=>⟨id,id,fun _=>id⟩) (.inr rfl) (fun _=>.inl (.plain _ _ (.any _ dY)))
   ·have aZ:b<w.heap.size:=(ahT.1 hb).1
    have st:=jm hW aZ (Dr o.dst) s.H.length
    rw[hk] at st
    have hn:gh.κ b≠.none:=by rw[hk];simp
    refine⟨gh.mS b (Dr o.dst),FG hW aZ _ hn (by rw[hk];simp),?_,qZ hW aZ (qG _) hn (by rw[hk];simp) _,ad,cap,hv,.inr ⟨b,C,ty,sz,V6,ha,by simp[Gh.mS],hS,hb,hC,hl,hr,fq⟩⟩
    exact hF.br (H':=s.H) (lo':=s.lo) st (ahQ _) (fun i hi=>⟨by simpa using hi,by simp,by simp⟩) (.inr rfl) (fun _=>.inl (.plain _ _ (.any _ dY)))
  obtain⟨aD,h1,h2,h3,h4⟩:=key
  refine⟨_,aD,w,.inl cg,Out.of (s1:=s.br t .any) (gen':=s.gen+1) h1 h2 h3 (aiD _) hd (.inr ⟨⟨s.gen,ahQ _,rfl⟩,hL Us⟩) (fun k hk=>⟨ajZ _,?_⟩)⟩
  rw[hk] at h4
  exact h4
 ·rename_i e own hT
  simp only[ahM,ahN] at he
  obtain⟨rfl,he⟩:=he
  cases Wj:(take&&own) with
  | false=>rw[Wj] at he;cases he
  | true =>
   rw[Wj] at he
   simp only[cond_true,ahM] at he
   subst he
   obtain⟨aD,h1,h2,h3,_,h4⟩:=rK hW hF ht hT (J3 o.dst) (mn _)
   refine⟨_,aD,w,.inl cg,Out.of (s1:=s.br t (.slice e false)) (gen':=s.gen) h1 h2 h3 (ahQ _) hd (.inl rfl) (fun k hk=>?_)⟩
   rw[hk] at h4
   have Wa:own=true:=by cases take<;>simp_all
   subst Wa
   exact h4
 ·cases he
 ·cases he
theorem qt{cs:List AV}{off j:Nat} : (bV off cs)[j]?=if j=off then (cs[j]?).map AV.drop else cs[j]?:=by
 unfold bV
 rw[List.getElem?_modify]
 by_cases h:off=j
 ·subst h;simp
 ·rw[if_neg (fun e=>h e.symm)]
  cases cs[j]?<;>simp[h]
theorem xG{b:Nat}{p:aW}{q:Nat->aW}{n:Nat}{cs:List AV}(hW:aF G base H gh w)(hB:fH gh n w b p q cs){off:Nat}{v:AV}(hv:cs[off]?=some v)(r:aW)(hr:r≠.outer)(hq:∀ j,q j≠.none/\q j≠.outer/\q j≠p)(ac0:∀ i j,q i=q j->i=j)(m:Nat) :
  ∃ aD u,(∀ b o,aD.S b o->gh.S b o)/\Step (fun o=>o=q off) m gh w aD w/\Ext m gh w aD w/\(∀ b o,aD.S b o->b<w.heap.size)/\(∀ b,aD.κ b≠.none->base<=b/\b<w.heap.size)/\fH aD n w b p q (bV off cs) /\
   w.cell? ⟨b,off,none⟩=some u/\u.oneCell'=true/\CR aD n w r u v:=by
 have dI:=fun b hb=>hW.bq (gh:=gh) b hb
 obtain⟨hκ,hS,C,ty,hb,hC,fq⟩:=hB
 have V7:off<cs.length:=(ahO.1 hv).1
 have aaj:off<C.size:=by omega
 have hu:C[off]?=some C[off]:=ahY aaj
 have bI:w.cell? ⟨b,off,none⟩=some C[off]:=by rw[cell_of_row w b off C ty _ hb,hu]
 obtain⟨h1,h2⟩:=fq off _ v hu hv
 rcases h2 with LJ|⟨e,rfl,Du,b',cap,C',j7,lo,hi,sz,fY,hk,he,fE,IV,x6,hl,hh,hS'⟩
 ·refine⟨gh,C[off],fun _ _ h=>h,Step.refl _ _ _ _ dI,Ext.refl _ _ _ dI,hW.lX,hW.mH,⟨hκ,hS,C,ty,hb,by simp[bV];exact hC,fun j u x xY ua=>?_⟩,bI,h1,.inl LJ⟩
  rw[qt] at ua
  split at ua
  ·simp only[ahK] at ua
   obtain⟨y,hy,rfl⟩:=ua
   obtain⟨k1,k2⟩:=fq j u y xY hy
   exact⟨k1,.inl k2.dropped⟩
  ·exact fq j u x xY ua
 ·have aZ:b' < w.heap.size:=(ahT.1 fE).1
  have st:=jm hW aZ r m
  rw[hk] at st
  have cS:b≠b':=by rintro rfl;rw[hκ] at hk;exact (hq off).2.2 hk.symm
  have hn:gh.κ b'≠.none:=by rw[hk];exact (hq off).1
  refine⟨gh.mS b' r,C[off],fun _ _ h=>h,st,qZ hW aZ hr hn (by rw[hk];exact (hq off).2.1) m,hW.lX,?_,⟨by simp[Gh.mS,cS,hκ],hS,C,ty,hb,by simp[bV];exact hC,fun j u x xY ua=>?_⟩,bI,h1,
   .inr ⟨e,rfl,Du,b',cap,C',j7,lo,hi,sz,fY,by simp[Gh.mS],he,fE,IV,x6,hl,hh,hS'⟩⟩
  ·intro b1 FI
   have iV:(if b1=b' then r else gh.κ b1)≠.none:=FI
   split at iV
   ·rename_i e;rw[e];exact hW.mH b' hn
   ·exact hW.mH b1 iV
  ·have st':=jm hW aZ r n
   rw[hk] at st'
   rw[qt] at ua
   split at ua
   ·rename_i hj
    subst hj
    rw[hv] at ua
    simp only[ah0,ahM] at ua
    subst ua
    rw[hu] at xY;injection xY with xY;subst xY
    exact⟨h1,.inl (.plain _ _ Du)⟩
   ·rename_i hj
    obtain⟨k1,k2⟩:=fq j u x xY ua
    exact⟨k1,k2.mono st' (ahQ _) (fun e=>hj (ac0 _ _ e))⟩
theorem aF.GL{aD:Gh}{touch:aW->Prop}(hW:aF G base H gh w)(st:Step touch H.length gh w aD w'){loc:Nat}{ty:TypeId}{cs0:List AV}(hH:H[loc]?=some (.box ty cs0))(ht:∀ l,l≠loc->¬ touch (.hb l)/\∀ j,¬ touch (.hs l j))
  (hs:∀ b o,aD.S b o->b<w'.heap.size) (hk:∀ b,aD.κ b≠.none->base<=b/\b<w'.heap.size) {cs:List AV} (hB:fH aD H.length w' (aD.ρ loc) (.hb loc) (fun j=>.hs loc j) cs) (hr:cs.all (aR loc)=true) (mb:∀ b o,aD.S b o->gh.S b o) (hlen:cs.length=cs0.length) :
  aF G base (H.set loc (.box ty cs)) aD w':=by
 have aZ:loc<H.length:=(ahO.1 hH).1
 refine⟨ait hW.size st.size,hs,hk,fun g j x hx=>?_,fun l j7 ds hl=>?_,fun l j7 ds hl=>?_,fun g hg=>(hW.uj g hg).imp fun ty h=>st.len g ty _ h,hW.iY st (fun b o m h=>.inl (mb b o h)),fun l o hl=>?_,fun l j7 ds hl=>?_⟩
 ·obtain⟨v,h1,h2,h3⟩:=hW.aP g j x hx
  exact⟨v,(st.cell g j h3).trans h1,h2.mono st.S st.cell st.mp,st.S g j h3⟩
 ·rw[List.length_set]
  rw[aiI] at hl
  split at hl
  ·rename_i e
   subst e
   simp only[ahM,dm.box.injEq] at hl
   obtain⟨rfl,rfl⟩:=hl
   exact hB
  ·rename_i e
   have h:=(hW.boxes l j7 ds hl).mono st (ahQ _) (ht l (ajs e)).1 (ht l (ajs e)).2
   rw[st.ρ l (ahO.1 hl).1];exact h
 ·rw[aiI] at hl
  split at hl
  ·rename_i e
   subst e
   simp only[ahM,dm.box.injEq] at hl
   obtain⟨rfl,rfl⟩:=hl
   exact hr
  ·exact hW.refs l j7 ds hl
 ·rw[List.length_set]
  rw[aiI] at hl
  split at hl
  ·rename_i e
   subst e
   injection hl with hl
   subst hl
   trivial
  ·rename_i e
   rw[st.ρ l (ahO.1 hl).1]
   exact (hW.more l o hl).mono st (ahQ _) (ht l (ajs e)).1 (ht l (ajs e)).2
 ·rw[aiI] at hl
  split at hl
  ·rename_i e
   subst e
   simp only[ahM,dm.box.injEq] at hl
   obtain⟨rfl,rfl⟩:=hl
   intro hf
   have hm:=hW.types loc _ cs0 hH hf
   rw[st.ρ loc aZ,hlen]
   exact st.len _ _ _ hm
  ·rename_i e
   rw[st.ρ l (ahO.1 hl).1]
   exact fun hf=>st.len _ _ _ (hW.types l j7 ds hl hf)
theorem aF.uD{aD:Gh}{touch:aW->Prop}(hW:aF G base H gh w)(st:Step touch H.length gh w aD w'){loc:Nat}(aZ:loc<H.length)(ht:∀ l,l≠loc->¬ touch (.hb l)/\∀ j,¬ touch (.hs l j))
  (hs:∀ b o,aD.S b o->b<w'.heap.size) (hk:∀ b,aD.κ b≠.none->base<=b/\b<w'.heap.size) {o:dm} (Qm:∀ ty cs,o≠.box ty cs) (hM:pV aD H.length w' (aD.ρ loc) loc o)
  (mb:∀ b o m,aD.S b o->gh.S b o\/(w'.cell? ⟨b,o,none⟩=some (.int .u8 m)->∃ C fr,w'.heap[b]?=some (.cells C fQ fr))):aF G base (H.set loc o) aD w':=by
 have box:∀ {l:Nat} {ty:TypeId} {ds:List AV},(H.set loc o)[l]?=some (.box ty ds)->l≠loc/\H[l]?=some (.box ty ds):=by
  intro l ty ds hl
  rw[aiI] at hl
  split at hl
  ·injection hl with hl;exact absurd hl (Qm ty ds)
  ·rename_i e;exact⟨ajs e,hl⟩
 refine⟨ait hW.size st.size,hs,hk,fun g j x hx=>?_,fun l j7 ds hl=>?_,fun l j7 ds hl=>?_,fun g hg=>(hW.uj g hg).imp fun ty h=>st.len g ty _ h,hW.iY st mb,fun l o' hl=>?_,fun l j7 ds hl hf=>?_⟩
 ·obtain⟨v,h1,h2,h3⟩:=hW.aP g j x hx
  exact⟨v,(st.cell g j h3).trans h1,h2.mono st.S st.cell st.mp,st.S g j h3⟩
 ·obtain⟨cS,hl⟩:=box hl
  rw[List.length_set,st.ρ l (ahO.1 hl).1]
  exact (hW.boxes l j7 ds hl).mono st (ahQ _) (ht l cS).1 (ht l cS).2
 ·exact hW.refs l j7 ds (box hl).2
 ·rw[List.length_set]
  rw[aiI] at hl
  split at hl
  ·rename_i e
   subst e
   injection hl with hl
   subst hl
   exact hM
  ·rename_i e
   rw[st.ρ l (ahO.1 hl).1]
   exact (hW.more l o' hl).mono st (ahQ _) (ht l (ajs e)).1 (ht l (ajs e)).2
 ·obtain⟨cS,hl⟩:=box hl
  rw[st.ρ l (ahO.1 hl).1]
  exact st.len _ _ _ (hW.types l j7 ds hl hf)
theorem aF.CT(hW:aF G base H gh w){ob:Obj}(hp:dp w w' ob){o:dm}(Qm:∀ ty cs,o≠.box ty cs)(hM:pV (gh.bg w.heap.size H.length) (H.length+1) w' w.heap.size H.length o) :
  aF G base (H++[o]) (gh.bg w.heap.size H.length) w':=by
 have st:=fp hW hp
 have old:∀ {l:Nat} {o' : dm},(H++[o])[l]?=some o'->(l<H.length/\H[l]?=some o')\/(l=H.length/\o'=o):=by
  intro l o' hl
  by_cases aZ:l<H.length
  ·rw[ah6 aZ] at hl;exact .inl ⟨aZ,hl⟩
  ·rw[aic (by omega)] at hl
   have hz:l=H.length:=by
    have:=(ahO.1 hl).1
    simp at this;omega
   subst hz
   simp at hl
   exact .inr ⟨rfl,hl.symm⟩
 refine⟨ait hW.size st.size,?_,?_,fun g j x hx=>?_,fun l j7 ds hl=>?_,fun l j7 ds hl=>?_,fun g hg=>(hW.uj g hg).imp fun ty h=>st.len g ty _ h,hW.iY st (fun b o m h=>h.elim .inl (fun h=>h.2.elim)),fun l o' hl=>?_,fun l j7 ds hl hf=>?_⟩
 ·intro b o ho
  rw[hp.size]
  rcases ho with ho|⟨_,ho⟩
  ·have:=hW.lX b o ho;omega
  ·exact ho.elim
 ·intro b hb
  rw[hp.size]
  have fE:(if b=w.heap.size then aW.hb H.length else gh.κ b)≠.none:=hb
  split at fE
  ·rename_i e
   have:=hW.size
   omega
  ·have:=hW.mH b fE;omega
 ·obtain⟨v,h1,h2,h3⟩:=hW.aP g j x hx
  exact⟨v,(st.cell g j h3).trans h1,h2.mono st.S st.cell st.mp,st.S g j h3⟩
 ·rcases old hl with ⟨aZ,hl⟩|⟨_,h⟩
  ·rw[List.length_append,aiV,st.ρ l aZ]
   exact (hW.boxes l j7 ds hl).mono st (aiD _) id (fun _=>id)
  ·exact absurd h.symm (Qm j7 ds)
 ·rcases old hl with ⟨aZ,hl⟩|⟨_,h⟩
  ·exact hW.refs l j7 ds hl
  ·exact absurd h.symm (Qm j7 ds)
 ·rw[List.length_append,aiV]
  rcases old hl with ⟨aZ,hl⟩|⟨rfl,rfl⟩
  ·rw[st.ρ l aZ]
   exact (hW.more l o' hl).mono st (aiD _) id (fun _=>id)
  ·have hρ:(gh.bg w.heap.size H.length).ρ H.length=w.heap.size:=by simp[Gh.bg]
   rw[hρ];exact hM
 ·rcases old hl with ⟨aZ,hl⟩|⟨_,h⟩
  ·rw[st.ρ l aZ]
   exact st.len _ _ _ (hW.types l j7 ds hl hf)
  ·exact absurd h.symm (Qm j7 ds)
theorem Cy{cs:List AV}{off:Nat}{y:AV}(h:y∈bV off cs):y∈cs\/∃ x,x∈cs/\y=x.drop:=by
 obtain⟨j,hj⟩:=aif h
 rw[qt] at hj
 split at hj
 ·simp only[ahK] at hj
  obtain⟨x,hx,rfl⟩:=hj
  exact .inr ⟨x,ahZ hx,rfl⟩
 ·exact .inl (ahZ hj)
theorem AA{cs:List AV}{off loc:Nat}(h:cs.all (aR loc)=true):(bV off cs).all (aR loc)=true:=by
 refine ahU.2 fun y hy=>?_
 rcases Cy hy with hy|⟨x,hx,rfl⟩
 ·exact ahU.1 h y hy
 ·exact mw (ahU.1 h x hx)
theorem lZ{n:Nat}{T:aA}{gen:Nat}{tm:Nat->Value}{i:Nat}{v:Value}{x:AV}(hx:aq x=true)(h:CR gh n w (.sl i) v x):SR gh n nt w T gen tm i v x:=by
 cases x<;>first|exact h|(simp[aq] at hx)
theorem CR.aq{n:Nat}{p:aW}{v:Value}{x:AV}(h:CR gh n w p v x):aq x=true:=by
 rcases h with h|⟨e,rfl,_⟩
 ·cases h with
  | plain _ _ h=>cases h<;>rfl
  | full=>rfl
  | ref=>rfl
  | sref=>rfl
  | mref=>rfl
  | func=>rfl
  | iface=>rfl
  | agg=>rfl
  | tuple=>rfl
 ·rfl
theorem iU{x:AV}(h:Abs.aq x=true):aQ x=none:=by cases x<;>first|rfl|(simp[Abs.aq] at h)
theorem yG{t:TypeId}(hg:ke P t=some false){b off:Nat}{u:Value}(hc:w.cell? ⟨b,off,none⟩=some u):(Instr.loadAt t (.pointer (some ⟨b,off,none⟩))).run P w=.ok u w:=by
 simp[Instr.loadAt,Instr.sureAddr,loadVar,fT hg,hc]
theorem zA(hW:aF G base s.H gh w)(hF:FR L nt gh w a s){o:Oper}{t:TypeId}{x:Operand}{y:ak}{take agg:Bool}{sz:Nat}{z:AV}{s' : AS}(ho:o.op=.load t x)(hc:ah nt x=some y)(hg:ke P t=some agg)(hs:cY P t=some sz)
  (he:cO s take agg sz (y.addr G s.T)=some (z,some s')) (hd:∀ k,o.dst=some k->k<nt) :
  ∃ v' aD w',qD P a o w v' w'/\Out G base nt L gh w a s o.dst z s' v' aD w':=by
 have hv:=arg_val hW hF hc
 generalize hY:y.addr G s.T=Y at hv he
 cases Y<;>simp only[cO] at he<;>try (cases he;done)
 case eptr cs=>simp at he
 case ref loc off =>
  obtain⟨aZ,nT⟩:=VR.gR (hv:VR gh s.H.length w (a.eval x) (.ref loc off))
  split at he
  ·rename_i J4 cs hH
   simp only[ahK,ahN] at he
   obtain⟨u,hu,rfl,hn⟩:=he
   cases hq:(take&&!agg) with
   | false=>rw[hq] at hn;cases hn
   | true =>
    rw[hq] at hn
    simp only[cond_true,ahM] at hn
    subst hn
    simp only[ahR,ajn] at hq
    obtain⟨rfl,rfl⟩:=hq
    simp only[ar,ahW,cond_true,ahK] at hu
    obtain⟨u',hu,rfl⟩:=hu
    obtain⟨aD,uv,hSS,st,hE,rq,pz,hB,bI,dY,kq⟩:=xG hW (hW.boxes loc _ cs hH) hu (J3 o.dst) (mn _) (by simp) (by simp) s.H.length
    have hρ:aD.ρ loc=gh.ρ loc:=st.ρ loc aZ
    have j0:aF G base (s.H.set loc (.box J4 (bV off cs))) aD w:=hW.GL st hH (by intro l hl;simp[hl]) rq pz (by rw[hρ];exact hB) (AA (hW.refs loc _ cs hH)) hSS (by simp[bV])
    have BY:FR L nt aD w a (s.fa ⟨s.H.set loc (.box J4 (bV off cs)),loc⟩):=hF.grown st (fun i=>⟨by simp,by simp,by simp⟩) (by simp)
    refine⟨uv,aD,w,.inl ?_,Out.of (s1:=s.fa ⟨s.H.set loc (.box J4 (bV off cs)),loc⟩) (gen':=s.gen) j0 BY hE (ahQ _) hd (.inl (iU kq.aq)) (fun k hk=>?_)⟩
    ·simp[execOp,ho,nT,yG hg bI]
    ·rw[hk] at kq
     have:(s.fa ⟨s.H.set loc (.box J4 (bV off cs)),loc⟩).H.length=s.H.length:=by simp[AS.fa]
     rw[this]
     exact lZ kq.aq kq
  ·simp at he
  ·simp at he
  ·cases he
 case lref b g off =>
  obtain⟨hb,FN,hr⟩:=(hv:_/\_/\_)
  split at he
  ·rename_i g' cs hT
   obtain⟨h0,nU⟩:=ab he
   clear he
   have AL:g=g':=by simpa [dV] using h0
   subst AL
   rename _=some (z,some s')=>he
   simp only[ahK,ahN] at he
   obtain⟨u,hu,rfl,hn⟩:=he
   cases hq:(take&&!agg) with
   | false=>rw[hq] at hn;cases hn
   | true =>
    rw[hq] at hn
    simp only[cond_true,ahM] at hn
    subst hn
    simp only[ahR,ajn] at hq
    obtain⟨rfl,rfl⟩:=hq
    simp only[ar,ahW,cond_true,ahK] at hu
    obtain⟨u',hu,rfl⟩:=hu
    obtain⟨k,hk,VJ⟩:=rP hF hb hT
    have nT:=hr (by rw[hT];rfl) k hk
    obtain⟨aD,uv,hSS,st,hE,rq,pz,hB,bI,dY,kq⟩:=xG hW VJ hu (J3 o.dst) (mn _) (by simp) (by simp) s.H.length
    have j0:aF G base s.H aD w:=hW.step st (by simp) rq pz (fun b o _ h=>.inl (hSS b o h))
    have BY:FR L nt aD w a (s.br b (.lbox g (bV off cs))) :=
     hF.br (H':=s.H) (lo':=s.lo) st (ahQ _) (fun i hi=>⟨by simp,by simp,by intro j e;injection e with e _;exact hi e⟩) (.inl ⟨hb,by rw[hT];rfl⟩) (fun _=>⟨by
      have h:=hF.slot b hb
      rw[hT] at h
      exact h.1,k,hk,hB⟩)
    refine⟨uv,aD,w,.inl ?_,Out.of (s1:=s.br b (.lbox g (bV off cs))) (gen':=s.gen) j0 BY hE (ahQ _) hd (.inl (iU kq.aq)) (fun k hk=>?_)⟩
    ·simp[execOp,ho,nT,yG hg bI]
    ·rw[hk] at kq
     exact lZ kq.aq kq
  ·cases he
 case eref b g i zz off =>
  split at he
  ·obtain⟨_,he⟩:=ab he
   simp only[ahL] at he
   obtain⟨r,_,he⟩:=he
   obtain⟨_,he⟩:=ab he
   simp at he
  ·cases he
end
end
section
section
variable {P:Program}{G:Nat->List AV}{base nt:Nat}{L:List Nat}{gh:Gh}{w w' : World}{a:Act}{s:AS}{H:ag}
theorem mI(hW:aF G base s.H gh w)(hF:FR L nt gh w a s){x:Operand}{y:ak}(hc:ah nt x=some y)(hf:aq (y.eval G s.T)=true)(p:aW)(hp:p≠.outer) :
  ∃ aD,aF G base s.H aD w/\FR L nt aD w a (s.cm y)/\Ext s.H.length gh w aD w/\Step (fun r=>∃ t,r=.sl t) s.H.length gh w aD w/\CR aD s.H.length w p (a.eval x) (y.eval G s.T):=by
 have dI:=fun b hb=>hW.bq (gh:=gh) b hb
 have stay:s.cm y=s->VR gh s.H.length w (a.eval x) (y.eval G s.T)->∃ aD,aF G base s.H aD w/\FR L nt aD w a (s.cm y)/\Ext s.H.length gh w aD w/\Step (fun r=>∃ t,r=.sl t) s.H.length gh w aD w/\CR aD s.H.length w p (a.eval x) (y.eval G s.T):=by
  intro h1 h2
  rw[h1]
  exact⟨gh,hW,hF,Ext.refl _ _ _ dI,Step.refl _ _ _ _ dI,.inl h2⟩
 cases y with
 | tmp t =>
  obtain⟨rfl,ht⟩:=gZ hc
  have hd:=bS hW hF hc rfl hf
  simp only[ak.eval] at hf hd stay ⊢
  cases hT:s.T t with
  | slice e own =>
   cases own with
   | false =>
    rw[hT] at hd stay
    exact stay (by simp[AS.cm,hT]) hd
   | true =>
    obtain⟨aD,h1,h2,h3,h4,h5⟩:=rK hW hF ht hT p hp
    refine⟨aD,h1,?_,h3,h4.mono (fun r h=>⟨t,h⟩),h5⟩
    simpa [AS.cm,hT] using h2
  | _ =>
   rw[hT] at hd stay
   exact stay (by simp[AS.cm,hT]) hd
 | bC v =>
  refine stay rfl ?_
  cases x with
  | tmp k =>
   simp only[ah] at hc
   rcases aiE (Nat.blt k nt) with hb|hb<;>rw[hb] at hc<;>simp at hc
  | const u =>
   simp only[ah,ahK] at hc
   obtain⟨z,hz,h⟩:=hc
   injection h with h
   subst h
   exact hN hz
  | global g=>simp[ah] at hc
  | func f=>simp[ah] at hc
 | aP g =>
  refine stay rfl ?_
  have:=bS hW hF hc rfl hf
  exact this
 | fn f =>
  refine stay rfl ?_
  have:=bS hW hF hc rfl hf
  exact this
theorem OI{b:Nat} : ({ S:=fun b' o=>gh.S b' o\/(b'=b/\(fun _=>False) o),κ:=fun b'=>if b'=b then gh.κ b else gh.κ b',ρ:=gh.ρ } : Gh)=gh:=by
 obtain⟨S,κ,ρ⟩:=gh
 congr 1
 ·funext b' o
  simp
 ·funext b'
  by_cases h:b'=b
  ·subst h;simp
  ·simp[h]
theorem jX(hW:aF G base H gh w){b:Nat}{C C' : Array Value}{ty:TypeId}{fr:Nat × Nat}(hb:w.heap[b]?=some (.cells C ty fr))(fA:C'.size=C.size)(bI:∀ o,gh.S b o->C'[o]?=C[o]?)(n:Nat) :
  Step (fun r=>r=gh.κ b) n gh w gh (w.setRow b C'):=by
 have h:=ng hW hb fA (fun _=>False) bI (gh.κ b) n
 rw[OI] at h
 exact h
theorem vZ(hW:aF G base H gh w){b:Nat}{C C' : Array Value}{ty:TypeId}{fr:Nat × Nat}(hb:w.heap[b]?=some (.cells C ty fr))(fA:C'.size=C.size)(bI:∀ o,gh.S b o->C'[o]?=C[o]?)(h0:gh.κ b≠.none)(h1:gh.κ b≠.outer)(n:Nat) :
  Ext n gh w gh (w.setRow b C') :=
 ⟨(jX hW hb fA bI n).mono (fun r h=>by rw[h];exact⟨h0,h1⟩),fun _ h=>h⟩
def dA(C:Array Value)(off:Nat)(D:Array Value):Array Value:=(C.toList.take off++D.toList++C.toList.drop (off+D.toList.length)).toArray
theorem iA{C D:Array Value}{off:Nat}(h:off+D.size<=C.size)(j:Nat):(dA C off D)[j]?=if off<=j/\j<off+D.size then D[j-off]? else C[j]?:=by
 have Ly:min off C.size=off:=by omega
 unfold dA
 simp only[ah9,aiw,List.length_append,List.length_take,ah5,ail,akj,aik,Ly]
 by_cases h1:j<off
 ·have e1:j<off+D.size:=by omega
  rw[if_pos e1,if_pos h1,if_pos h1,if_neg (by omega)]
 ·by_cases h2:j<off+D.size
  ·rw[if_pos h2,if_neg h1,if_pos ⟨by omega,h2⟩]
  ·rw[if_neg h2,if_neg (by omega)]
   congr 1;omega
theorem cC{C D:Array Value}{off:Nat}(h:off+D.size<=C.size):(dA C off D).size=C.size:=by
 unfold dA;simp;omega
theorem tN{t:TypeId}{sz:Nat}(hs:cY P t=some sz){b off:Nat}{C:Array Value}{ty:TypeId}(hb:w.heap[b]?=some (.cells C ty (0,0))){v:Value}(hv:v.cells.size=sz)(gU:off+sz<=C.size)(dY:∀ u∈v.cells.toList,u.oneCell'=true) :
  (Instr.storeAt t (.pointer (some ⟨b,off,none⟩)) v).run P w=.ok () (w.setRow b (dA C off v.cells)):=by
 have h:=run_storeCells_at P b off ty v.cells.toList 0 C w hb (by simp;omega) dY
 simp only[ajl] at h
 simp[Instr.storeAt,Instr.sureAddr,storeVar,cX hs,hv,h,dA]
theorem si(hW:aF G base H gh w){b:Nat}{p:aW}{q:Nat->aW}{n:Nat}{cs vs:List AV}(hB:fH gh n w b p q cs){off sz:Nat}{t:TypeId}(hs:cY P t=some sz){v:Value}(tD:vs.length=sz)(V7:off+sz<=cs.length)
  (hv:v.cells.size=sz) (bX:∀ (j:Nat) (u:Value) (x:AV),v.cells[j]?=some u->vs[j]?=some x->u.oneCell'=true/\CR gh n w (q (off+j)) u x) (hq:∀ j,q j≠p) (hp:p≠.none/\p≠.outer) (m:Nat) :
  ∃ w',(Instr.storeAt t (.pointer (some ⟨b,off,none⟩)) v).run P w=.ok () w'/\Step (fun r=>r=p) m gh w gh w'/\Ext m gh w gh w'/\w'.heap.size=w.heap.size/\fH gh n w' b p q (putAt cs off vs):=by
 obtain⟨hκ,hS,C,ty,hb,hC,fq⟩:=hB
 have j6:∀ o,gh.S b o->(dA C off v.cells)[o]?=C[o]?:=fun o ho=>(hS o ho).elim
 have B8:(dA C off v.cells).size=C.size:=cC (by omega)
 have st:=jX hW hb B8 j6 m
 have stn:=jX hW hb B8 j6 n
 have hE:=vZ hW hb B8 j6 (by rw[hκ];exact hp.1) (by rw[hκ];exact hp.2) m
 rw[hκ] at st stn
 have gU:off+v.cells.size<=C.size:=by omega
 refine⟨_,tN hs hb hv (by omega) ?_,st,hE,by simp,hκ,hS,_,ty,setRow_heap w b C _ ty _ hb,by rw[cC gU,nf (by omega)];exact hC,fun j u x xY ua=>?_⟩
 ·intro u hu
  obtain⟨j,hj⟩:=aif hu
  have tZ:v.cells[j]?=some u:=by simpa using hj
  have aZ:j<vs.length:=by rw[tD,<- hv];exact (ahT.1 tZ).1
  exact (bX j u _ tZ (ahP aZ)).1
 ·rw[iA gU] at xY
  rw[pn (by omega)] at ua
  have e1:v.cells.size=vs.length:=by omega
  rw[e1] at xY
  split at xY
  ·rename_i hc
   rw[if_pos hc] at ua
   obtain⟨k1,k2⟩:=bX _ u x xY ua
   rw[show off+(j-off)=j by omega] at k2
   exact⟨k1,k2.mono stn (ahQ _) (hq j)⟩
  ·rename_i hc
   rw[if_neg hc] at ua
   obtain⟨k1,k2⟩:=fq j u x xY ua
   exact⟨k1,k2.mono stn (ahQ _) (hq j)⟩
theorem qI{n:Nat}{v:Value}{x:AV}{vs:List AV}{q:Nat->aW}{off:Nat}(h:CR gh n w (q off) v x)(hc:x.cells=some vs) :
  v.cells.size=vs.length/\∀ (j:Nat) (u:Value) (y:AV),v.cells[j]?=some u->vs[j]?=some y->u.oneCell'=true/\CR gh n w (q (off+j)) u y:=by
 rcases h with h|⟨e,rfl,Du,hO⟩
 ·have hr:=o5 h hc
  exact⟨hr.1,fun j u y hu hy=>⟨(hr.2 j u y hu hy).2,.inl (hr.2 j u y hu hy).1⟩⟩
 ·have e1:vs=[.slice e true]:=by simpa [AV.cells] using hc.symm
  subst e1
  have dY:=Du.dv
  have:v.cells=#[v]:=by obtain⟨b,cap,_,_,_,_,_,rfl,_⟩:=hO;rfl
  rw[this]
  refine⟨rfl,fun j u y hu hy=>?_⟩
  cases j with
  | zero=>simp at hu hy;subst hu hy;exact⟨dY,.inr ⟨e,rfl,Du,hO⟩⟩
  | succ j=>simp at hu
theorem gq{x:AV}{vs:List AV}(h:x.cells=some vs):aq x=true:=by cases x<;>first|rfl|cases h
theorem fM(s:AS)(y:ak):(s.cm y).H=s.H/\(s.cm y).gen=s.gen/\(s.cm y).lo=s.lo:=by
 cases y with
 | tmp t=>simp only[AS.cm];split<;>exact⟨rfl,rfl,rfl⟩
 | _=>exact⟨rfl,rfl,rfl⟩
theorem HL(s:AS)(y:ak)(b:Nat)(h:∀ e,s.T b≠.slice e true):(s.cm y).T b=s.T b:=by
 cases y<;>simp only[AS.cm]
 rename_i t
 split
 ·rename_i e hT
  by_cases hb:b=t
  ·subst hb;exact absurd hT (h e)
  ·simp[AS.br,gn,hb]
 ·rfl
theorem lk(s:AS)(t:Nat)(h:∀ e,s.T t≠.slice e true):s.cm (.tmp t)=s:=by
 simp only[AS.cm]
theorem pq(s:AS)(t:Nat){e:List (List AV)}(h:s.T t=.slice e true):s.cm (.tmp t)=s.br t (.slice e false):=by
 simp only[AS.cm,h]
theorem wy(s:AS)(y:ak)(b:Nat)(X:AV)(h:∀ e,s.T b≠.slice e true)(hX:∀ e,X≠.slice e true):(s.br b X).cm y=(s.cm y).br b X:=by
 cases y<;>try rfl
 rename_i t
 by_cases hb:t=b
 ·subst hb
  rw[lk s t h,lk _ t (by simpa [AS.br,gn] using hX)]
 ·have e1:(s.br b X).T t=s.T t:=by simp[AS.br,gn,hb]
  by_cases ho:∃ e,s.T t=.slice e true
  ·obtain⟨e,ho⟩:=ho
   rw[pq s t ho,pq (s.br b X) t (by rw[e1,ho])]
   simp only[AS.br]
   congr 1
   funext k
   simp only[gn]
   by_cases h1:k=t
   ·subst h1;simp[hb]
   ·by_cases h2:k=b
    ·subst h2;simp[h1]
    ·simp[h1,h2]
  ·have mi:∀ e,s.T t≠.slice e true:=fun e he=>ho ⟨e,he⟩
   rw[lk s t mi,lk (s.br b X) t (by rw[e1];exact mi)]
theorem sX(s:AS)(y:ak)(c:fD):(s.fa c).cm y=(s.cm y).fa c:=by
 cases y<;>simp only[AS.cm]
 rename_i t
 show (match s.T t with|.slice e true=>(s.fa c).br t (.slice e false)|_=>s.fa c)=_
 cases hT:s.T t<;>try rfl
 rename_i e own
 cases own<;>rfl
theorem Out.skip{aD:Gh}{s1:AS}{d:Option Nat}(hW:aF G base s1.H aD w')(hF:FR L nt aD w' a s1)(hE:Ext s.H.length gh w aD w')(hd:∀ k,d=some k->k<nt):Out G base nt L gh w a s d .undef s1 undef aD w' :=
 Out.of (gen':=s1.gen) hW hF hE (ahQ _) hd (.inl rfl) (fun k hk=>.inl VR.undef)
theorem JA{cs vs:List AV}{off:Nat}{f:AV->Bool}(h1:cs.all f=true)(h2:vs.all f=true):(putAt cs off vs).all f=true:=by
 refine ahU.2 fun x hx=>?_
 unfold putAt at hx
 rcases ahS.1 hx with hx|hx
 ·rcases ahS.1 hx with hx|hx
  ·exact ahU.1 h1 x (aiO hx)
  ·exact ahU.1 h2 x hx
 ·exact ahU.1 h1 x (akv hx)
theorem KZ(hW:aF G base s.H gh w)(hF:FR L nt gh w a s){o:Oper}{t:TypeId}{xa xv:Operand}{ya yv:ak}{sz:Nat}{s' : AS}(ho:o.op=.store t xa xv)(Hj:ah nt xa=some ya)(Uf:ah nt xv=some yv)(hs:cY P t=some sz)
  (he:a8 s sz (ya.addr G s.T) (yv.eval G s.T)=some s') (hd:∀ k,o.dst=some k->k<nt) :
  ∃ v' aD w',qD P a o w v' w'/\Out G base nt L gh w a s o.dst .undef (s'.cm yv) v' aD w':=by
 have ha:=arg_val hW hF Hj
 unfold a8 at he
 split at he
 ·cases he
 rename_i vs tD
 obtain⟨hlen,he⟩:=ab he
 have hlen:vs.length=sz:=by simpa [dV] using hlen
 have JZ:=gq tD
 generalize hY:ya.addr G s.T=Y at ha he
 cases Y<;>simp only at he<;>try (cases he;done)
 case ref loc off =>
  obtain⟨aZ,nT⟩:=VR.gR (ha:VR gh s.H.length w (a.eval xa) (.ref loc off))
  split at he
  ·rename_i J4 cs hH
   obtain⟨h0,he⟩:=ab he
   injection he with he
   subst he
   simp only[ahR,aiq] at h0
   obtain⟨jL,nS,tX,Dt,Pv,kq⟩:=mI hW hF Uf JZ (.hs loc off) (by simp)
   have hρ:jL.ρ loc=gh.ρ loc:=Pv.ρ loc aZ
   obtain⟨fA,bX⟩:=qI (q:=fun j=>.hs loc j) kq tD
   obtain⟨w',cg,tP,vo,lK,hB⟩:=si (P:=P) nS (nS.boxes loc _ cs hH) hs hlen h0.1 (by omega) bX (by simp) (by simp) s.H.length
   have zJ:aF G base (s.H.set loc (.box J4 (putAt cs off vs))) jL w':=nS.GL tP hH (by intro l hl;simp[hl]) (fun b o ho=>by rw[lK];exact nS.lX b o ho) (fun b hb=>by rw[lK];exact nS.mH b hb) hB (JA (nS.refs loc _ cs hH) h0.2) (fun _ _ h=>h) (nf (by omega))
   have hS:=fM s yv
   have BZ:FR L nt jL w' a ((s.cm yv).fa ⟨s.H.set loc (.box J4 (putAt cs off vs)),loc⟩):=tX.grown (by rw[hS.1];exact tP) (fun i=>⟨by simp,by simp,by simp⟩) (by rw[hS.1];simp)
   refine⟨undef,jL,w',.inr ⟨?_,rfl⟩,?_⟩
   ·simp[execOp,ho,nT,<- hρ,cg]
   ·rw[sX]
    exact Out.skip (s1:=(s.cm yv).fa ⟨s.H.set loc (.box J4 (putAt cs off vs)),loc⟩) zJ BZ (Dt.trans vo (ahQ _)) hd
  ·rename_i cs hH
   obtain⟨h0,he⟩:=ab he
   injection he with he
   subst he
   simp only[ahR,aiq] at h0
   obtain⟨jL,nS,tX,Dt,Pv,kq⟩:=mI hW hF Uf JZ (.hs loc off) (by simp)
   have hρ:jL.ρ loc=gh.ρ loc:=Pv.ρ loc aZ
   obtain⟨fA,bX⟩:=qI (q:=fun j=>.hs loc j) kq tD
   obtain⟨w',cg,tP,vo,lK,hB⟩:=si (P:=P) nS (nS.more loc _ hH:fH jL s.H.length w (jL.ρ loc) (.hb loc) (fun j=>.hs loc j) cs) hs hlen h0.1 (by omega) bX (by simp) (by simp) s.H.length
   have zJ:aF G base (s.H.set loc (.dM (putAt cs off vs))) jL w':=nS.uD tP aZ (by intro l hl;simp[hl]) (fun b o ho=>by rw[lK];exact nS.lX b o ho) (fun b hb=>by rw[lK];exact nS.mH b hb) (fun _ _ h=>by cases h) hB (fun _ _ _ h=>.inl h)
   have hS:=fM s yv
   have BZ:FR L nt jL w' a ((s.cm yv).fa ⟨s.H.set loc (.dM (putAt cs off vs)),loc⟩):=tX.grown (by rw[hS.1];exact tP) (fun i=>⟨by simp,by simp,by simp⟩) (by rw[hS.1];simp)
   refine⟨undef,jL,w',.inr ⟨?_,rfl⟩,?_⟩
   ·simp[execOp,ho,nT,<- hρ,cg]
   ·rw[sX]
    exact Out.skip (s1:=(s.cm yv).fa ⟨s.H.set loc (.dM (putAt cs off vs)),loc⟩) zJ BZ (Dt.trans vo (ahQ _)) hd
  ·cases he
 case lref b g off =>
  obtain⟨hb,FN,hr⟩:=(ha:_/\_/\_)
  split at he
  ·rename_i g' cs hT
   obtain⟨h0,he⟩:=ab he
   injection he with he
   subst he
   simp only[ahR,aiq,dV,ah8] at h0
   obtain⟨⟨rfl,h0⟩,_⟩:=h0
   obtain⟨k,hk,_⟩:=rP hF hb hT
   have nT:=hr (by rw[hT];rfl) k hk
   obtain⟨jL,nS,tX,Dt,Pv,kq⟩:=mI hW hF Uf JZ (.sc b off) (by simp)
   have hS:=fM s yv
   have Qf:(s.cm yv).T b=.lbox g cs:=by rw[HL _ _ _ (by rw[hT];simp),hT]
   obtain⟨k',pz,hB1⟩:=rP tX hb Qf
   have YY:k'=k:=by rw[hk] at pz;injection pz with h;injection h with h;injection h with h;exact h.symm
   subst YY
   rw[hS.1] at hB1
   obtain⟨fA,bX⟩:=qI (q:=fun j=>.sc b j) kq tD
   obtain⟨w',cg,tP,vo,lK,hB⟩:=si (P:=P) nS hB1 hs hlen h0 (by omega) bX (by simp) (by simp) s.H.length
   have zJ:aF G base s.H jL w':=nS.step tP (by simp) (fun b o ho=>by rw[lK];exact nS.lX b o ho) (fun b hb=>by rw[lK];exact nS.mH b hb) (fun _ _ _ h=>.inl h)
   have BZ:FR L nt jL w' a ((s.cm yv).br b (.lbox g (putAt cs off vs))):=by
    refine tX.br (H':=(s.cm yv).H) (lo':=(s.cm yv).lo) (by rw[hS.1];exact tP) (ahQ _) (fun i hi=>⟨by simpa using hi,by simp,by simp⟩) (.inl ⟨hb,by rw[Qf];rfl⟩) (fun _=>⟨?_,k',hk,?_⟩)
    ·have h:=tX.slot b hb
     rw[Qf] at h
     exact h.1
    ·rw[hS.1];exact hB
   refine⟨undef,jL,w',.inr ⟨?_,rfl⟩,?_⟩
   ·simp[execOp,ho,nT,cg]
   ·rw[wy _ _ _ _ (by rw[hT];simp) (by simp)]
    exact Out.skip (s1:=(s.cm yv).br b (.lbox g (putAt cs off vs))) (by show aF G base (s.cm yv).H jL w';rw[hS.1];exact zJ) BZ (Dt.trans vo (ahQ _)) hd
  ·cases he
 case eref b g i z off =>
  obtain⟨hb,FN,hr⟩:=(ha:_/\_/\_)
  split at he
  ·rename_i g' e hT
   obtain⟨h0,Uh⟩:=ab he
   have AL:g=g':=by simpa [dV] using h0
   clear he
   subst AL
   simp only[ahL] at Uh
   obtain⟨r,Hr,nU⟩:=Uh
   obtain⟨h1,he3⟩:=ab nU
   injection he3 with he3
   subst he3
   simp only[ahR,aiq,dV,ah8] at h1
   obtain⟨⟨hrz,V7⟩,ue⟩:=h1
   obtain⟨jL,nS,tX,Dt,Pv,kq⟩:=mI hW hF Uf JZ .none (by simp)
   have hS:=fM s yv
   have Qf:(s.cm yv).T b=.lsl g e:=by rw[HL _ _ _ (by rw[hT];simp),hT]
   obtain⟨ad,cap,fY,bp⟩:=lY tX hb Qf
   rcases bp with ⟨rfl,_⟩|⟨k,C,ty,gY,V6,rfl,hκ,hS1,uy,hC,hl,Pr,fq⟩
   ·simp at Hr
   have nT:=hr (by rw[hT];rfl) k _ _ fY
   have Uz:gY=z:=by rw[<- hrz,Pr i r Hr]
   subst Uz
   have VZ:i<e.length:=(ahO.1 Hr).1
   obtain⟨fA,bX⟩:=qI (q:=fun _=>.none) (off:=0) kq tD
   have aaq:∀ (j:Nat) (x:AV),(vs.map AV.drop)[j]?=some x->∃ u,(a.eval xv).cells[j]?=some u/\PR jL.S w u x:=by
    intro j x hx
    simp only[ah2,ahK] at hx
    obtain⟨y,hy,rfl⟩:=hx
    have hj:j<(a.eval xv).cells.size:=by rw[fA];exact (ahO.1 hy).1
    have hu:=ahY hj
    refine⟨_,hu,(bX j _ y hu hy).2.dropped.iS (ahU.1 ue _ (aia.2 ⟨y,ahZ hy,rfl⟩))⟩
   have gU:i*gY+off+(a.eval xv).cells.size<=C.size:=by
    have h2:(i+1)*gY<=e.length*gY:=ah7 _ VZ
    have h3:e.length*gY<=cap*gY:=ah7 _ hl
    rw[aip] at h2
    omega
   have j6:∀ o,jL.S k o->(dA C (i*gY+off) (a.eval xv).cells)[o]?=C[o]?:=fun o ho=>(hS1 o ho).elim
   have tP:=jX nS uy (cC gU) j6 s.H.length
   have vo:=vZ nS uy (cC gU) j6 (by rw[hκ];simp) (by rw[hκ];simp) s.H.length
   rw[hκ] at tP
   have cg:=tN (P:=P) (w:=w) (off:=i*gY+off) hs uy (v:=a.eval xv) (by omega) (by omega) (fun u hu=>by
    obtain⟨j,hj⟩:=aif hu
    have tZ:(a.eval xv).cells[j]?=some u:=by simpa using hj
    have aZ:j<vs.length:=by rw[<- fA];exact (ahT.1 tZ).1
    exact (bX j u _ tZ (ahP aZ)).1)
   have zJ:aF G base s.H jL (w.setRow k (dA C (i*gY+off) (a.eval xv).cells)):=nS.step tP (by simp) (fun b o ho=>by simpa using nS.lX b o ho) (fun b hb=>by simpa using nS.mH b hb) (fun _ _ _ h=>.inl h)
   have YV:off+(vs.map AV.drop).length<=r.length:=by simp;omega
   have BZ:FR L nt jL (w.setRow k (dA C (i*gY+off) (a.eval xv).cells)) a ((s.cm yv).br b (.lsl g (e.set i (putAt r off (vs.map AV.drop))))):=by
    refine tX.br (H':=(s.cm yv).H) (lo':=(s.cm yv).lo) (by rw[hS.1];exact tP) (ahQ _) (fun i hi=>⟨by simpa using hi,by simp,by simp⟩) (.inl ⟨hb,by rw[Qf];rfl⟩) (fun _=>⟨?_,?_⟩)
    ·have h:=tX.slot b hb
     rw[Qf] at h
     exact h.1
    ·refine⟨some ⟨k,0,none⟩,cap,by simpa using fY,.inr ⟨k,_,ty,gY,(by intro h0;have:=aj8 List.length h0;simp at this;exact V6 this),rfl,hκ,hS1,setRow_heap w k C _ ty _ uy,by rw[cC gU,hC],by simpa using hl,?_,?_⟩⟩
     ·intro i' r' x6
      rw[aiI] at x6
      split at x6
      ·rename_i IZ
       injection x6 with x6
       subst x6
       rw[nf YV];exact hrz
      ·exact Pr i' r' x6
     ·intro i' j r' x x6 hj
      rw[iA gU]
      rw[aiI] at x6
      split at x6
      ·rename_i IZ
       subst IZ
       injection x6 with x6
       subst x6
       rw[pn YV] at hj
       have zM:(vs.map AV.drop).length=(a.eval xv).cells.size:=by simp[fA]
       rw[zM] at hj
       by_cases hc:off<=j/\j<off+(a.eval xv).cells.size
       ·rw[if_pos hc] at hj
        rw[if_pos (by omega)]
        obtain⟨u,hu,hp⟩:=aaq _ x hj
        refine⟨u,?_,hp.mono tP.S tP.cell tP.mp⟩
        rw[show i*gY+j-(i*gY+off)=j-off by omega];exact hu
       ·rw[if_neg hc] at hj
        rw[if_neg (by omega)]
        obtain⟨u,hu,hp⟩:=fq i j r x Hr hj
        exact⟨u,hu,hp.mono tP.S tP.cell tP.mp⟩
      ·rename_i IZ
       have FP:j<gY:=by rw[<- Pr i' r' x6];exact (ahO.1 hj).1
       have cS:¬ (i*gY+off<=i' * gY+j/\i' * gY+j<i*gY+off+(a.eval xv).cells.size):=by
        rintro ⟨c1,c2⟩
        have:i=i':=by
         rcases ajJ i i' with h'|h'|h'
         ·have:(i+1)*gY<=i' * gY:=ah7 _ h'
          rw[aip] at this;omega
         ·exact h'
         ·have:(i' + 1)*gY<=i*gY:=ah7 _ h'
          rw[aip] at this;omega
        exact IZ this
       rw[if_neg cS]
       obtain⟨u,hu,hp⟩:=fq i' j r' x x6 hj
       exact⟨u,hu,hp.mono tP.S tP.cell tP.mp⟩
   refine⟨undef,jL,w.setRow k (dA C (i*gY+off) (a.eval xv).cells),.inr ⟨?_,rfl⟩,?_⟩
   ·simp[execOp,ho,nT,cg]
   ·rw[wy _ _ _ _ (by rw[hT];simp) (by simp)]
    exact Out.skip (s1:=(s.cm yv).br b (.lsl g (e.set i (putAt r off (vs.map AV.drop))))) (by show aF G base (s.cm yv).H jL _;rw[hS.1];exact zJ) BZ (Dt.trans vo (ahQ _)) hd
  ·cases he
end
end
section
section
variable {P:Program}{G:Nat->List AV}{base nt:Nat}{L:List Nat}{gh:Gh}{w w' : World}{a:Act}{s:AS}{H:ag}
theorem FJ{sz:Nat}{f:List (List AV)}(h:fC sz f=true){r:List AV}(hr:f[0]?=some r):r.length=sz:=by
 unfold fC at h
 cases f with
 | nil=>simp at hr
 | cons q f=>simp at hr;subst hr;simpa [dV] using h
theorem wO{sz gY:Nat}{f:List (List AV)}(h:fC sz f=true)(bp:∀ (i:Nat) (r:List AV),f[i]?=some r->r.length=gY)(cS:f≠[]):gY=sz:=by
 cases f with
 | nil=>exact absurd rfl cS
 | cons q f=>rw[<- bp 0 q rfl];exact FJ h rfl
theorem yK{S:Nat->Nat->Prop}{V:Value}{f:List (List AV)}{sz:Nat}{tx:TypeId}(h:PR S w V (.slice f false))(hk:(∃ e',P.underlying tx=some (.slice e'))\/P.underlying tx=some .string)(hh:fC sz f=true) :
  ∃ news:List Value,Src P sz tx V f.length news w/\fW S w sz news.toArray f /\
   ((V=.slice none 0 0/\f=[])\/∃ b o cap,V=.slice (some ⟨b,o,none⟩) f.length cap/\f.length<=cap/\∀ j,j<f.length*sz->S b (o+j)/\w.cell? ⟨b,o+j,none⟩=news[j]?):=by
 cases h with
 | cy=>exact⟨[],⟨hk,fun _=>rfl,run_firstCells_none w sz 0 0 0,run_firstCells_none w.drew sz 0 0 0,by simp,fun _ h=>by cases h⟩,⟨by simp,fun i r h=>by simp at h,fun i j r x h=>by simp at h⟩,.inl ⟨rfl,rfl⟩⟩
 | slice b o n cap gY _ fn hn ig bp bI bX =>
  subst hn
  have fA:f≠[]->gY=sz:=fun cS=>wO hh bp cS
  let news:List Value:=(List.range (f.length*sz)).map fun k=>(w.cell? ⟨b,o+k,none⟩).getD undef
  have hlen:news.length=f.length*sz:=by simp[news]
  have key:∀ k,k<f.length*sz->∃ u,news[k]?=some u/\w.cell? ⟨b,o+k,none⟩=some u/\u.oneCell'=true/\S b (o+k)/\∀ r x,f[k / sz]?=some r->r[k % sz]?=some x->PR S w u x:=by
   intro k hk
   obtain⟨h1,h2,h3⟩:=oV hk
   have cS:f≠[]:=by rintro rfl;simp at h1
   have hr:=ahP h1
   have hlr:f[k / sz].length=sz:=by rw[bp _ _ hr,fA cS]
   have hx:=ahP (show k % sz<f[k / sz].length by omega)
   obtain⟨c1,c2,c3⟩:=bI _ _ _ _ hr hx
   rw[fA cS,ajp,h3] at c1 c2
   refine⟨fn (k / sz) (k % sz),?_,c2,c3,c1,fun r x x6 mG=>bX _ _ _ _ x6 mG⟩
   simp only[news,ah2,ai8 hk,ah0,c2,aiC]
  have Ur:∀ j u,news[j]?=some u->w.cell? ((⟨b,o,none⟩:Addr).add j)=some u:=by
   intro j u hj
   have aZ:j<f.length*sz:=by rw[<- hlen];exact (ahO.1 hj).1
   obtain⟨u',h1,h2,_⟩:=key j aZ
   rw[h1] at hj;injection hj with hj;subst hj
   rw[addr_add];exact h2
  refine⟨news,⟨hk,fun _=>rfl,run_firstCells_some w sz _ ⟨b,o,none⟩ f.length cap news hlen Ur,run_firstCells_some w.drew sz _ ⟨b,o,none⟩ f.length cap news hlen (by simpa using Ur),hlen,fun u hu=>?_⟩,⟨by simp[hlen],fun i r hr=>?_,fun i j r x hi hj=>?_⟩,.inr ⟨b,o,cap,rfl,ig,fun j hj=>?_⟩⟩
  ·obtain⟨j,hj⟩:=aif hu
   have aZ:j<f.length*sz:=by rw[<- hlen];exact (ahO.1 hj).1
   obtain⟨u',h1,_,h3,_⟩:=key j aZ
   rw[h1] at hj;injection hj with hj;subst hj
   exact h3
  ·rw[bp i r hr,fA (by rintro rfl;simp at hr)]
  ·have cS:f≠[]:=by rintro rfl;simp at hi
   have VY:=(ahO.1 hi).1
   have FP:j<sz:=by rw[<- fA cS,<- bp i r hi];exact (ahO.1 hj).1
   obtain⟨u,h1,_,_,_,h5⟩:=key (i*sz+j) (qu VY FP)
   refine⟨u,by simpa using h1,h5 r x ?_ ?_⟩
   ·rw[aj7,Nat.mul_add_div (by omega),Nat.div_eq_of_lt FP];simpa using hi
   ·rw[aj7,Nat.mul_add_mod,Nat.mod_eq_of_lt FP];exact hj
  ·obtain⟨u,h1,h2,_,h4,_⟩:=key j hj
   exact⟨h4,by rw[h2,h1]⟩
theorem TD{S:Nat->Nat->Prop}{q:ByteArray}{l:List UInt8}(hq:q.data.toList=l){tx:TypeId}(hk:(∃ e',P.underlying tx=some (.slice e'))\/P.underlying tx=some .string) :
  ∃ news:List Value,Src P 1 tx (.string q) l.length news w/\fW S w 1 news.toArray (l.map fun (b:UInt8)=>[AV.int .u8 b.toNat]):=by
 subst hq
 have hl:q.data.toList.length=q.size:=by simp
 refine⟨byteCells q,?_,by simp[byteCells],fun i r hr=>?_,fun i j r x hi hj=>?_⟩
 ·rw[hl]
  exact⟨hk,fun _=>rfl,firstCells_string q w,firstCells_string q w.drew,by rw[byteCells_length,aji],fun u hu=>by
   obtain⟨_,_,rfl⟩:=aia.1 hu
   rfl⟩
 ·simp only[ah2,ahK] at hr
  obtain⟨y,_,rfl⟩:=hr
  rfl
 ·simp only[ah2,ahK] at hi
  obtain⟨y,hy,rfl⟩:=hi
  cases j with
  | succ j=>simp at hj
  | zero =>
   simp only[ah',ahM] at hj
   subst hj
   refine⟨.int .u8 y.toNat,?_,.int _ _⟩
   simp only[byteCells,ah9,ah2,aji,ajl,hy,ah0]
theorem fW.append{S:Nat->Nat->Prop}{sz:Nat}{A B:List Value}{E F:List (List AV)}(h1:fW S w sz A.toArray E)(h2:fW S w sz B.toArray F):fW S w sz (A++B).toArray (E++F):=by
 have hA:A.length=E.length*sz:=by simpa using h1.1
 have hB:B.length=F.length*sz:=by simpa using h2.1
 refine⟨by simp[hA,hB,aip],fun i r hi=>?_,fun i j r x hi hj=>?_⟩
 ·rw[aiw] at hi
  split at hi
  ·exact h1.2.1 i r hi
  ·exact h2.2.1 _ r hi
 ·rw[aiw] at hi
  split at hi
  ·obtain⟨v,hv,hp⟩:=h1.2.2 i j r x hi hj
   have:i*sz+j<A.length:=by have:=(ahT.1 hv).1;simpa using this
   refine⟨v,?_,hp⟩
   simp only[ah9] at hv ⊢
   rw[ah6 this];exact hv
  ·rename_i hge
   obtain⟨v,hv,hp⟩:=h2.2.2 _ j r x hi hj
   refine⟨v,?_,hp⟩
   simp only[ah9] at hv ⊢
   have e1:i*sz=E.length*sz+(i-E.length)*sz:=by rw[<- aip];congr 1;omega
   rw[aic (by rw[hA,e1];omega),hA,e1]
   rw[show E.length*sz+(i-E.length)*sz+j-E.length*sz=(i-E.length)*sz+j by omega];exact hv
theorem fW.aed{S S' : Nat->Nat->Prop}{sz:Nat}{A C' : Array Value}{E:List (List AV)}{b:Nat}{ty:TypeId}{fr:Nat × Nat}(h:fW S w sz A E)(hS:∀ b o,S b o->S' b o)(hc:∀ b o,S b o->w'.cell? ⟨b,o,none⟩=w.cell? ⟨b,o,none⟩)(hm:∀ b E ck,S b 0->w.heap[b]?=some (.map E ck)->w'.heap[b]?=some (.map E ck))
  (hb:w'.heap[b]?=some (.cells C' ty fr)) (hA:∀ j,j<A.size->C'[j]?=A[j]?) (hq:∀ j,j<E.length*sz->S' b j) (cap:Nat) (ig:E.length<=cap):PR S' w' (.slice (some ⟨b,0,none⟩) E.length cap) (.slice E false):=by
 have key:∀ (i j:Nat) (r:List AV) (x:AV),E[i]?=some r->r[j]?=some x->∃ v,A[i*sz+j]?=some v/\PR S w v x/\i*sz+j<A.size/\A.getD (i*sz+j) undef=v:=by
  intro i j r x hi hj
  obtain⟨v,hv,AM⟩:=h.2.2 i j r x hi hj
  have aZ:=(ahT.1 hv).1
  refine⟨v,hv,AM,aZ,?_⟩
  rw[ahY aZ] at hv
  injection hv with hv
  simp[aZ,hv]
 refine .slice b 0 E.length cap sz E (fun i j=>A.getD (i*sz+j) undef) rfl ig h.2.1 ?_ ?_
 ·intro i j r x hi hj
  obtain⟨v,hv,AM,aZ,hg⟩:=key i j r x hi hj
  rw[Nat.zero_add,hg]
  refine⟨hq _ (by rw[<- h.1];exact aZ),?_,AM.dv⟩
  rw[cell_of_row w' b _ C' ty fr hb,hA _ aZ,hv]
 ·intro i j r x hi hj
  obtain⟨v,hv,AM,aZ,hg⟩:=key i j r x hi hj
  rw[hg]
  exact AM.mono hS hc hm
structure s9 (P:Program) (t e:TypeId) (sz bytes:Nat):Prop where
 ht:P.underlying t=some (.slice e)
 hi:∃ i z,P.info? e=some i/\i.zero=some z/\i.size=sz/\i.bytes=bytes/\z.cells.size=sz
 pos:0<sz
theorem grow{t tx ty e:TypeId}{sz bytes:Nat}(hT:s9 P t e sz bytes){ao:Option Addr}{sLen sCap n:Nat}{olds news:List Value}{x:Value}(hold:(Builtin.firstCells sz sLen (.slice ao sLen sCap)).run P w.drew=.ok olds.toArray w.drew)
  (V9:olds.length=sLen*sz) (hs:Src P sz tx x n news w) (hg:sCap<sLen+n) (h63:sLen+n<=70368744177664) (hby:(sLen+n)*bytes<=70368744177664) :
  ∃ qH C' ,(Builtin.append_ #[t,tx] ty #[.slice ao sLen sCap,x]).run P w=.ok (.slice (some ⟨w.heap.size,0,none⟩) (sLen+n) qH) (w.drew.alloc (.cells C' e))/\sLen+n<=qH/\C'.size=qH*sz/\∀ j,j<(olds++news).toArray.size->C'[j]?=(olds++news).toArray[j]?:=by
 obtain⟨i,z,hi,hz,rfl,rfl,hzs⟩:=hT.hi
 have h:=run_append_grow_src (P:=P) w t tx ty e i z hT.ht hi hz ao sLen sCap olds hold x n news hs hg (by omega) (growslice_fits hg (by omega))
 have ig:=grownCap_ge w (sLen+n) sCap e
 refine⟨_,_,h,ig,?_,fun j hj=>?_⟩
 ·rw[Array.size_append,size_zeroCells,hzs]
  simp only[ai7,List.length_append,V9,hs.newsLen]
  rw[<- aip,<- aip]
  congr 1;omega
 ·rw[aj1 hj]
theorem room{t tx ty e e2:TypeId}{sz bytes:Nat}(hT:s9 P t e sz bytes){b sLen sCap n:Nat}{news:List Value}{x:Value}{C:Array Value}{fr:Nat × Nat}(hs:Src P sz tx x n news w)(hb:w.heap[b]?=some (.cells C e2 fr))(JZ:fr.2<=sLen*sz)
  (lJ:sLen+n<=sCap) (gU:sLen*sz+news.length<=C.size) :
  (Builtin.append_ #[t,tx] ty #[.slice (some ⟨b,0,none⟩) sLen sCap,x]).run P w=.ok (.slice (some ⟨b,0,none⟩) (sLen+n) sCap) (w.setRow b (dA C (sLen*sz) news.toArray)):=by
 obtain⟨i,z,hi,hz,rfl,rfl,hzs⟩:=hT.hi
 have iN:=run_storeCells_atF P b (sLen*i.size) e2 fr news 0 C w hb (by simpa using JZ) (by simpa using gU) hs.one
 simp only[ajl] at iN
 rcases hs.kind with ⟨e',hk⟩|hk<;>simp[Builtin.append_,run_underlying hT.ht,run_underlying hk,sizeOf,typeInfo,hi,hs.len,lJ,hs.cells,Addr.add_lit,iN,dA]
theorem CR.given(hW:aF G base s.H gh w)(hF:FR L nt gh w a s){v:Value}{e:List (List AV)}{own:Bool}(h:CR gh s.H.length w .ret v (.slice e own))(p:aW)(hp:p≠.outer) :
  ∃ aD,aF G base s.H aD w/\FR L nt aD w a s/\Ext s.H.length gh w aD w/\CR aD s.H.length w p v (.slice e own):=by
 have dI:=fun b hb=>hW.bq (gh:=gh) b hb
 rcases h with hv|⟨e',heq,Du,b,cap,C,ty,lo,hi,sz,fY,hk,he,hb,hC,hr,hl,hh,hS⟩
 ·exact⟨gh,hW,hF,Ext.refl _ _ _ dI,.inl hv⟩
 ·injection heq with h1 h2
  subst h1 h2
  have aZ:b<w.heap.size:=(ahT.1 hb).1
  have st:=jm hW aZ p s.H.length
  rw[hk] at st
  have hn:gh.κ b≠.none:=by rw[hk];simp
  exact⟨gh.mS b p,FG hW aZ p hn (by rw[hk];simp),hF.grown (H':=s.H) (lo':=s.lo) st (fun i=>⟨by simp,by simp,by simp⟩) (ahQ _),qZ hW aZ hp hn (by rw[hk];simp) _,.inr ⟨e,rfl,Du,b,cap,C,ty,lo,hi,sz,fY,by simp[Gh.mS],he,hb,hC,hr,hl,hh,hS⟩⟩
theorem DU{n:Nat}{tx:TypeId}{sz:Nat}{x:Value}{news:List Value}(h:Src P sz tx x n news w):(Builtin.firstCells sz n x).run P w.drew=.ok news.toArray w.drew:=h.cellsD
theorem DL(hW:aF G base s.H gh w)(hF:FR L nt gh w a s){t tx ty e:TypeId}{sz bytes:Nat}(hT:s9 P t e sz bytes){V X:Value}{E F:List (List AV)}{news:List Value}
  (h:CR gh s.H.length w .ret V (.slice E true)) (hs:Src P sz tx X F.length news w) (cv:fW gh.S w sz news.toArray F) (gU:cF sz bytes E F=true) {isB:Bool} (pb:jY isB (E++F)=true) (Lu:isB=true->e=fQ) (cS:F≠[]) (p:aW) (hp:p≠.outer) :
  ∃ v' aD w',(Builtin.append_ #[t,tx] ty #[V,X]).run P w=.ok v' w'/\aF G base s.H aD w'/\FR L nt aD w' a s/\Ext s.H.length gh w aD w'/\CR aD s.H.length w' p v' (.slice (E++F) true):=by
 simp only[cF,ahR,aiq] at gU
 obtain⟨⟨⟨FI,iV⟩,hE⟩,_⟩:=gU
 have hFl:0<F.length:=aj2.2 cS
 have Du:PR gh.S w V (.slice E false):=by
  rcases h with h|⟨e',heq,Du,_⟩
  ·exact (VR.dropped h).fZ
  ·injection heq with h1;subst h1;exact Du
 obtain⟨olds,LF,Ut,FU⟩:=yK (P:=P) (tx:=t) (sz:=sz) Du (.inl ⟨_,hT.ht⟩) hE
 have V9:olds.length=E.length*sz:=LF.newsLen
 have fh:=Ut.append cv
 have new:∀ ao cap,V=.slice ao E.length cap->cap<E.length+F.length->∃ v' aD w',(Builtin.append_ #[t,tx] ty #[V,X]).run P w=.ok v' w'/\aF G base s.H aD w'/\FR L nt aD w' a s/\Ext s.H.length gh w aD w'/\CR aD s.H.length w' p v' (.slice (E++F) true):=by
  intro ao cap hV aZ
  subst hV
  obtain⟨qH,C',cg,ig,IV,uf⟩:=grow (P:=P) (ty:=ty) hT (DU LF) V9 hs aZ iV FI
  have kU:dp w (w.drew.alloc (.cells C' e)) (.cells C' e):=.drew w _
  have st:=fP hW kU hp (fun o=>o<(E++F).length*sz) s.H.length
  have j0:=hW.alloc kU hp (fun o=>o<(E++F).length*sz) (fun k m hk hc=>by
   rw[cell_of_row _ _ k _ _ _ kU.new,uf k (by rw[fh.1];exact hk)] at hc
   have:=lW fh pb Lu hk hc
   subst this
   exact⟨C',(0,0),kU.new⟩)
  have AM:=fh.slice (gh:=gh) rfl kU (p:=p) hW.lX uf (q:=fun o=>o<(E++F).length*sz) (fun j hj=>hj) qH (by rw[List.length_append];exact ig)
  refine⟨_,_,_,cg,j0,hF.grown (H':=s.H) (lo':=s.lo) st (fun i=>⟨id,id,fun _=>id⟩) (ahQ _),k9 hW kU hp _ _,.inr ⟨E++F,rfl,?_,?_⟩⟩
  ·have e1:E.length+F.length=(E++F).length:=by rw[List.length_append]
   rw[e1];exact AM
  ·refine⟨w.heap.size,qH,C',e,0,0,sz,by rw[List.length_append],by simp[Gh.alloc],by simp[cS],kU.new,IV,fh.2.1,by rw[List.length_append];exact ig,aiB _,?_⟩
   rintro o ho (hs|⟨_,hs⟩)
   ·have:=hW.lX _ _ hs;omega
   ·omega
 rcases h with h|⟨e',heq,_,b,cap,C,j7,lo,hi,gY,fY,hk,he,hb,hC,hr,hl,hh,hS⟩
 ·cases h with
  | plain _ _ h=>cases h
  | full ao k _ h =>
   have hk:k=E.length:=by cases h with
    | cy=>rfl
    | slice _ _ _ _ _ _ _ hn=>exact hn.symm
   subst hk
   exact new ao E.length rfl (by omega)
 ·injection heq with h1
  subst h1
  by_cases aZ:cap<E.length+F.length
  ·exact new _ cap fY aZ
  ·subst fY
   have fA:gY=sz:=wO hE hr he
   subst fA
   have lJ:E.length+F.length<=cap:=by omega
   have gU:E.length*gY+news.length<=C.size:=by rw[hs.newsLen,hC,<- aip];exact ah7 _ lJ
   have cg:=room (P:=P) (ty:=ty) hT hs hb hh lJ gU
   have jN:E.length*gY+news.toArray.size<=C.size:=by simpa using gU
   have hold:∀ o,gh.S b o->(dA C (E.length*gY) news.toArray)[o]?=C[o]?:=by
    intro o ho
    have:o<E.length*gY:=by
     rcases aja o (E.length*gY) with h|h
     ·exact h
     ·exact absurd ho (hS o h)
    rw[iA jN,if_neg (by omega)]
   have st:=ng hW hb (cC jN) (fun o=>o<(E++F).length*gY) hold p s.H.length
   have hn:gh.κ b≠.none:=by rw[hk];simp
   have ZL:=uC hW hb (cC jN) (fun o=>o<(E++F).length*gY) hold hp hn (by rw[hk];simp) s.H.length
   have Qr:∀ j,j<(olds++news).toArray.size->(dA C (E.length*gY) news.toArray)[j]?=(olds++news).toArray[j]?:=by
    intro j hj
    have agb:news.length=F.length*gY:=hs.newsLen
    simp only[ai7,List.length_append] at hj
    rw[iA jN]
    simp only[ah9,ai7]
    rw[aiw]
    split
    ·rw[if_neg (by omega),V9]
    ·rename_i j6
     have tZ:j<E.length*gY:=by omega
     rw[if_pos (by omega)]
     rcases FU with ⟨_,JV⟩|⟨b2,o2,Ze,ZN,_,qg⟩
     ·exact absurd JV he
     ·injection ZN with h1 h2 h3
      injection h1 with h1
      injection h1 with h1 h4
      subst h1 h4
      have:=(qg j tZ).2
      rw[Nat.zero_add,cell_of_row w b j C j7 _ hb] at this
      exact this
   have I5:∀ k m,k<(E++F).length*gY->(dA C (E.length*gY) news.toArray)[k]?=some (.int .u8 m)->j7=fQ:=by
    intro k m hk hc
    rw[Qr k (by rw[fh.1];exact hk)] at hc
    refine lW fh pb (fun hB=>?_) hk hc
    subst hB
    cases E with
    | nil=>exact absurd rfl he
    | cons r0 E0 =>
     have FT:∃ m0,r0=[.int .u8 m0]:=by
      have:oq (r0 :: E0++F)=true:=pb
      simp only[oq,ai',ajb,ahR] at this
      have h1:=this.1
      split at h1
      ·exact⟨_,rfl⟩
      ·cases h1
     obtain⟨m0,rfl⟩:=FT
     rcases FU with ⟨_,JV⟩|⟨b2,o2,Ze,ZN,_,qg⟩
     ·cases JV
     ·injection ZN with h1 h2 h3
      injection h1 with h1
      injection h1 with h1 h4
      subst h1 h4
      have h5:=hr 0 _ rfl
      simp only[aiV] at h5
      obtain⟨v,hv,hp⟩:=Ut.2.2 0 0 _ _ rfl rfl
      cases hp
      simp only[ah9,akp,Nat.zero_add] at hv
      have h6:=qg 0 (by simp;omega)
      rw[Nat.zero_add,hv] at h6
      obtain⟨C2,fr2,h7⟩:=hW.bytes _ _ _ h6.1 h6.2
      rw[hb] at h7
      injection h7 with h7
      injection h7
   have j0:=HH hW hb (cC jN) (fun o=>o<(E++F).length*gY) hold I5 p hn (by rw[hk];simp)
   have wz:=st
   rw[hk] at st
   have n7:news.length=F.length*gY:=hs.newsLen
   refine⟨_,_,_,cg,j0,hF.grown (H':=s.H) (lo':=s.lo) st (fun i=>⟨by simp,by simp,by simp⟩) (ahQ _),ZL,.inr ⟨E++F,rfl,?_,?_⟩⟩
   ·rw[<- List.length_append]
    refine fh.aed st.S st.cell st.mp (setRow_heap w b C _ j7 _ hb) (fun j hj=>?_) (fun j hj=>.inr ⟨rfl,hj⟩) cap (by rw[List.length_append];exact lJ)
    simp only[ai7,List.length_append] at hj
    rw[iA jN]
    simp only[ah9,ai7]
    rw[aiw]
    split
    ·rw[if_neg (by omega),V9]
    ·rename_i j6
     have tZ:j<E.length*gY:=by omega
     rw[if_pos (by omega)]
     rcases FU with ⟨_,JV⟩|⟨b2,o2,Ze,ZN,_,qg⟩
     ·exact absurd JV he
     ·injection ZN with h1 h2 h3
      injection h1 with h1
      injection h1 with h1 h4
      subst h1 h4
      have:=(qg j tZ).2
      rw[Nat.zero_add,cell_of_row w b j C j7 _ hb] at this
      exact this
   ·refine⟨b,cap,_,j7,lo,hi,gY,by rw[List.length_append],by simp,by simp[he],setRow_heap w b C _ j7 _ hb,by rw[cC jN,hC],fh.2.1,by rw[List.length_append];exact lJ,?_,?_⟩
    ·rw[List.length_append,aip];exact ait hh (Nat.le_add_right _ _)
    ·rintro o ho (rq|⟨_,rq⟩)
     ·exact hS o (by rw[List.length_append,aip] at ho;omega) rq
     ·omega
end
end
section
section
variable {P:Program}{G:Nat->List AV}{base nt:Nat}{L:List Nat}{gh:Gh}{w w' : World}{a:Act}{s:AS}{H:ag}
theorem H5(hW:aF G base s.H gh w)(hF:FR L nt gh w a s){t tx ty e:TypeId}{sz bytes:Nat}(hT:s9 P t e sz bytes){t0:Nat}{X:Value}{E F:List (List AV)}{news:List Value}
  (h:oc gh w (.bx t0) (dQ a t0) E) (hs:Src P sz tx X F.length news w) (cv:fW gh.S w sz news.toArray F) (gU:cF sz bytes E F=true) (d:Option Nat) :
  ∃ v' aD w',(Builtin.append_ #[t,tx] ty #[dQ a t0,X]).run P w=.ok v' w'/\aF G base s.H aD w'/\FR L nt aD w' a (s.br t0 .any)/\Ext s.H.length gh w aD w'/\oc aD w' (Dr d) v' (E++F):=by
 simp only[cF,ahR,aiq] at gU
 obtain⟨⟨⟨FI,iV⟩,hE⟩,hFo⟩:=gU
 have dI:=fun b hb=>hW.bq (gh:=gh) b hb
 have hdo:=qG d
 obtain⟨i,z,hi,_,rfl,_⟩:=hT.hi
 have dY:(dQ a t0).oneCell'=true:=by obtain⟨ad,cap,hv,_⟩:=h;rw[hv];rfl
 have ZP:∀ {aD:Gh} {w' : World} {n gen:Nat} {T:aA},SR aD n nt w' T gen (dQ a) t0 (dQ a t0) .any:=fun {_ _ _ _ _}=>(.inl (.plain _ _ (.any _ dY)):CR _ _ _ _ _ _)
 have stay:FR L nt gh w a (s.br t0 .any):=hF.br (touch:=fun _=>False) (H':=s.H) (lo':=s.lo) (Step.refl _ _ _ _ dI) (ahQ _) (fun i _=>⟨id,id,fun _=>id⟩) (.inr rfl) (fun _=>ZP)
 have new:∀ ao cap olds,dQ a t0=.slice ao E.length cap->cap<E.length+F.length->Src P i.size t (.slice ao E.length cap) E.length olds w->fW gh.S w i.size olds.toArray E ->
   ∃ v' aD w',(Builtin.append_ #[t,tx] ty #[dQ a t0,X]).run P w=.ok v' w'/\aF G base s.H aD w'/\FR L nt aD w' a (s.br t0 .any)/\Ext s.H.length gh w aD w'/\oc aD w' (Dr d) v' (E++F):=by
  intro ao cap olds hV aZ LF Ut
  obtain⟨qH,C',cg,ig,IV,uf⟩:=grow (P:=P) (ty:=ty) hT LF.cellsD LF.newsLen hs aZ iV FI
  have fh:=Ut.append cv
  have kU:dp w (w.drew.alloc (.cells C' e)) (.cells C' e):=.drew w _
  have st:=fP hW kU hdo (fun _=>False) s.H.length
  have j0:=hW.alloc kU hdo (fun _=>False) (fun _ _ h=>h.elim)
  rw[hV]
  have BY:FR L nt (gh.alloc w.heap.size (Dr d) fun _=>False) (w.drew.alloc (.cells C' e)) a (s.br t0 .any) :=
   stay.grown (H':=s.H) (lo':=s.lo) st (fun i=>⟨id,id,fun _=>id⟩) (ahQ _)
  refine⟨_,_,_,cg,j0,BY,k9 hW kU hdo _ _,some ⟨w.heap.size,0,none⟩,qH,by rw[List.length_append],.inr ⟨w.heap.size,C',e,i.size,?_,rfl,by simp[Gh.alloc],?_,kU.new,IV,by rw[List.length_append];exact ig,fh.2.1,?_⟩⟩
  ·intro h0
   have:=aj8 List.length h0
   simp at this
   simp[this] at aZ
  ·rintro o (ho|⟨_,ho⟩)
   ·have:=hW.lX _ o ho;omega
   ·exact ho
  ·intro k j r x hk hj
   obtain⟨v,hv,hp⟩:=fh.2.2 k j r x hk hj
   refine⟨v,?_,hp.mono st.S st.cell st.mp⟩
   rw[uf _ (ahT.1 hv).1,hv]
 obtain⟨ao,cap,hV,⟨rfl,ZU,vy⟩|⟨b,C,j7,gY,cS,ha,hk,hS,hb,hC,hl,hr,fq⟩⟩:=h
 ·subst ZU
  have LF:Src P i.size t (.slice ao 0 0) 0 [] w:=by
   refine⟨.inl ⟨_,hT.ht⟩,fun _=>rfl,?_,?_,by simp,fun _ h=>by cases h⟩
   ·cases ao with
    | none=>exact run_firstCells_none w _ 0 0 0
    | some ad=>exact run_firstCells_some w _ 0 ad 0 0 [] (by simp) (fun j v h=>by simp at h)
   ·cases ao with
    | none=>exact run_firstCells_none w.drew _ 0 0 0
    | some ad=>exact run_firstCells_some w.drew _ 0 ad 0 0 [] (by simp) (fun j v h=>by simp at h)
  cases F with
  | nil =>
   have hn:news=[]:=by have:=hs.newsLen;simp at this;exact this
   subst hn
   refine⟨_,gh,w,?_,hW,stay,Ext.refl _ _ _ dI,ao,0,rfl,.inl ⟨rfl,rfl,vy⟩⟩
   rw[hV]
   exact run_append_nothing w t tx ty e i hT.ht hi ao 0 0 (ahQ _) X hs
  | cons f F=>exact new ao 0 [] hV (by simp) LF ⟨by simp,fun i r h=>by simp at h,fun i j r x h=>by simp at h⟩
 ·subst ha
  have fA:gY=i.size:=wO hE hr cS
  subst fA
  have hEC:E.length*i.size<=C.size:=by rw[hC];exact ah7 _ hl
  have rm:(C.toList.take (E.length*i.size)).length=E.length*i.size:=by simp;omega
  have Ut:fW gh.S w i.size (C.toList.take (E.length*i.size)).toArray E:=by
   refine⟨by simp;omega,hr,fun k j r x hk hj=>?_⟩
   obtain⟨u,hu,hp⟩:=fq k j r x hk hj
   refine⟨u,?_,hp⟩
   have h1:=(ahO.1 hk).1
   have h2:j<i.size:=by rw[<- hr k r hk];exact (ahO.1 hj).1
   simp only[ah9,ah5,if_pos (qu h1 h2)]
   simpa using hu
  have LA:∀ u∈C.toList.take (E.length*i.size),u.oneCell'=true:=by
   intro u hu
   obtain⟨k,hk⟩:=aif hu
   have aZ:k<E.length*i.size:=by rw[<- rm];exact (ahO.1 hk).1
   obtain⟨h1,h2,h3⟩:=oV aZ
   have FT:=ahP h1
   have qE:=ahP (show k % i.size<E[k / i.size].length by rw[hr _ _ FT];exact h2)
   obtain⟨u',LI,hp⟩:=Ut.2.2 _ _ _ _ FT qE
   rw[h3] at LI
   simp only[ah9] at LI
   rw[hk] at LI
   injection LI with LI
   subst LI
   exact hp.dv
  have bI:∀ j u,(C.toList.take (E.length*i.size))[j]?=some u->w.cell? ((⟨b,0,none⟩:Addr).add j)=some u:=by
   intro j u hj
   rw[addr_add,Nat.zero_add,cell_of_row w b j C j7 _ hb]
   rw[ah5] at hj
   split at hj
   ·simpa using hj
   ·cases hj
  have LF:Src P i.size t (.slice (some ⟨b,0,none⟩) E.length cap) E.length (C.toList.take (E.length*i.size)) w:=.ofSlice w hT.ht ⟨b,0,none⟩ E.length cap _ rm bI LA
  by_cases aZ:cap<E.length+F.length
  ·exact new _ cap _ hV aZ LF Ut
  ·have lJ:E.length+F.length<=cap:=by omega
   have gU:E.length*i.size+news.length<=C.size:=by rw[hs.newsLen,hC,<- aip];exact ah7 _ lJ
   have cg:=room (P:=P) (ty:=ty) hT hs hb (aiB _) lJ gU
   have jN:E.length*i.size+news.toArray.size<=C.size:=by simpa using gU
   have j6:∀ o,gh.S b o->(dA C (E.length*i.size) news.toArray)[o]?=C[o]?:=fun o ho=>(hS o ho).elim
   have st:=ng hW hb (cC jN) (fun _=>False) j6 (Dr d) s.H.length
   have hn:gh.κ b≠.none:=by rw[hk];simp
   have ZL:=uC hW hb (cC jN) (fun _=>False) j6 hdo hn (by rw[hk];simp) s.H.length
   have j0:=HH hW hb (cC jN) (fun _=>False) j6 (fun _ _ h=>h.elim) (Dr d) hn (by rw[hk];simp)
   rw[hk] at st
   have BY:=hF.br (t:=t0) (X:=.any) (H':=s.H) (lo':=s.lo) st (ahQ _) (fun i hi=>⟨by simpa using hi,by simp,by simp⟩) (.inr rfl) (fun _=>ZP)
   rw[hV]
   have fh:=Ut.append cv
   refine⟨_,_,_,cg,j0,BY,ZL,some ⟨b,0,none⟩,cap,by rw[List.length_append],.inr ⟨b,_,j7,i.size,by simp[cS],rfl,by simp,?_,setRow_heap w b C _ j7 _ hb,by rw[cC jN,hC],by rw[List.length_append];exact lJ,fh.2.1,?_⟩⟩
   ·rintro o (ho|⟨_,ho⟩)
    ·exact hS o ho
    ·exact ho
   ·intro k j r x pz hj
    obtain⟨v,hv,hp⟩:=fh.2.2 k j r x pz hj
    refine⟨v,?_,hp.mono st.S st.cell st.mp⟩
    rw[iA jN]
    simp only[ah9,ai7] at hv ⊢
    rw[aiw,rm] at hv
    have n7:news.length=F.length*i.size:=hs.newsLen
    split at hv
    ·rename_i h1
     rw[if_neg (by omega)]
     rw[ah5,if_pos h1] at hv
     simpa using hv
    ·rename_i h1
     have h2:=(ahO.1 hv).1
     rw[if_pos (by omega)]
     exact hv
theorem pv(hW:aF G base s.H gh w)(hF:FR L nt gh w a s){x:Operand}{y:ak}(hc:ah nt x=some y){sz:Nat}{f:List (List AV)}(he:dJ sz (y.eval G s.T)=some f)(hh:fC sz f=true){tx:TypeId}
  (hk:(∃ e',P.underlying tx=some (.slice e'))\/P.underlying tx=some .string):∃ news,Src P sz tx (a.eval x) f.length news w/\fW gh.S w sz news.toArray f:=by
 generalize hY:y.eval G s.T=Y at he
 cases Y<;>simp only[dJ] at he<;>try (cases he;done)
 ·rename_i l
  obtain⟨h0,h1⟩:=ab he
  have h0:sz=1:=by simpa [dV] using h0
  subst h0
  injection h1 with h1
  subst h1
  obtain⟨q,hq,hl⟩:=(bS hW hF hc hY rfl).gS
  rw[hq,aie]
  exact TD hl hk
 ·rename_i el own
  injection he with he
  subst he
  obtain⟨news,h1,h2,_⟩:=yK (P:=P) (tx:=tx) (sz:=sz) (bS hW hF hc hY rfl).fZ hk hh
  exact⟨news,h1,h2⟩
theorem fj{o:Oper}{c:Call}{x y:Operand}{t u:TypeId}(ho:o.op=.call c)(fX:c.callee=.builtin .append)(dq:c.args.toList=[x,y])(jx:c.argTypes.toList=[t,u]){v:Value}
  (cg:(Builtin.append_ #[t,u] o.type #[a.eval x,a.eval y]).run P w=.ok v w'):(execOp a.eval o).run P w=.ok (.value v) w':=by
 have e1:c.args=#[x,y]:=by apply ajR;simpa using dq
 have e2:c.argTypes=#[t,u]:=by apply ajR;simpa using jx
 unfold execOp
 simp only[ho,resolve,fX,e1,e2,invoke,builtin,Sem.run_bind,Sem.run_pure,Result.andThen_ok,ajX,ah1,ah3,cg]
theorem C9{S:Nat->Nat->Prop}{V:Value}{e:List (List AV)}(h:PR S w V (.slice e false)):∃ ao cap,V=.slice ao e.length cap/\e.length<=cap:=by
 cases h with
 | cy=>exact⟨none,0,rfl,ahQ _⟩
 | slice b o n cap sz _ _ hn ig=>subst hn;exact⟨_,cap,rfl,ig⟩
theorem IB(hW:aF G base s.H gh w)(hF:FR L nt gh w a s){o:Oper}{c:Call}{x y:Operand}{t u e:TypeId}{sz bytes:Nat}{yx yy:ak}{isB wr:Bool}{z:AV}{s' : Option AS}
  (ho:o.op=.call c) (fX:c.callee=.builtin .append) (dq:c.args.toList=[x,y]) (jx:c.argTypes.toList=[t,u]) (hT:s9 P t e sz bytes) (Lu:isB=true->e=fQ) (hu:(∃ e',P.underlying u=some (.slice e'))\/P.underlying u=some .string)
  (l8:ah nt x=some yx) (vt:ah nt y=some yy) (he:dX G s isB wr sz bytes yx yy=some (z,s')) (hd:∀ k,o.dst=some k->k<nt) (hL:wr=true->∀ k,o.dst=some k->k∈L) :
  ∃ v' aD w',qD P a o w v' w'/\Out G base nt L gh w a s o.dst z (s'.getD s) v' aD w':=by
 have dI:=fun b hb=>hW.bq (gh:=gh) b hb
 have core:∀ (s1:AS) (jL:Gh) (el:List (List AV)) (own:Bool),s1.H=s.H->aF G base s1.H jL w->FR L nt jL w a s1->Ext s.H.length gh w jL w->(∀ b o,gh.S b o->jL.S b o) ->
   CR jL s1.H.length w .ret (a.eval x) (.slice el own)->an isB sz bytes (.slice el own) (yy.eval G s.T)=some z ->
   ∃ v' aD w',qD P a o w v' w'/\Out G base nt L gh w a s o.dst z s1 v' aD w':=by
  intro s1 jL el own hH nS tX Dt aaf kq xf
  simp only[an,ahL] at xf
  obtain⟨f,hf,xf⟩:=xf
  cases f with
  | nil =>
   simp only[ahM] at xf
   subst xf
   obtain⟨news,hs,hr⟩:=pv (P:=P) hW hF vt hf rfl hu
   have hn:news=[]:=by have:=hs.newsLen;simp at this;exact this
   subst hn
   obtain⟨Lb,zJ,BZ,vo,Lf⟩:=kq.given nS tX (J3 o.dst) (mn _)
   obtain⟨ao,cap,hV,hle⟩:=C9 (w:=w) (kq.dropped).fZ
   obtain⟨i,z,hi,_,rfl,_⟩:=hT.hi
   refine⟨a.eval x,Lb,w,.inl (fj ho fX dq jx ?_),Out.of (s1:=s1) (gen':=s1.gen) zJ BZ (Dt.trans vo (by rw[hH];exact ahQ _)) (ahQ _) hd (.inl rfl) (fun k hk=>?_)⟩
   ·rw[hV]
    exact run_append_nothing w t u o.type e i hT.ht hi ao _ cap hle _ hs
   ·rw[hk] at Lf
    exact Lf
  | cons f0 fr =>
   obtain⟨h0,xf⟩:=ab xf
   injection xf with xf
   subst xf
   simp only[ahR] at h0
   obtain⟨⟨rfl,gU⟩,pb⟩:=h0
   have hh:fC sz (f0 :: fr)=true:=by simp only[cF,ahR] at gU;exact gU.2
   obtain⟨news,hs,hr⟩:=pv (P:=P) hW hF vt hf hh hu
   have hr1:fW jL.S w sz news.toArray (f0 :: fr):=⟨hr.1,hr.2.1,fun i j r x hi hj=>by
    obtain⟨v,hv,hp⟩:=hr.2.2 i j r x hi hj
    exact⟨v,hv,hp.mono aaf (fun _ _ _=>rfl) (fun _ _ _ _ h=>h)⟩⟩
   obtain⟨v',Lb,w2,cg,zJ,BZ,vo,Lf⟩:=DL (P:=P) (ty:=o.type) nS tX hT kq hs hr1 gU pb Lu (by simp) (J3 o.dst) (mn _)
   refine⟨v',Lb,w2,.inl (fj ho fX dq jx cg),Out.of (s1:=s1) (gen':=s1.gen) zJ BZ (Dt.trans vo (by rw[hH];exact ahQ _)) (ahQ _) hd (.inl rfl) (fun k hk=>?_)⟩
   rw[hk] at Lf
   exact Lf
 have Pe:∀ (t0:Nat) (el f:List (List AV)),x=.tmp t0->t0<nt->oc gh w (.bx t0) (dQ a t0) el->dJ sz (yy.eval G s.T)=some f->cF sz bytes el f=true->wr=true ->
   ∃ v' aD w',qD P a o w v' w'/\Out G base nt L gh w a s o.dst (.lsl s.gen (el++f)) { s.br t0 .any with gen:=s.gen+1 } v' aD w':=by
  intro t0 el f hx ht bp hf gU AN
  have hh:fC sz f=true:=by simp only[cF,ahR] at gU;exact gU.2
  obtain⟨news,hs,hr⟩:=pv (P:=P) hW hF vt hf hh hu
  obtain⟨v',Lb,w2,cg,zJ,BZ,vo,Uv⟩:=H5 (P:=P) (ty:=o.type) hW hF hT bp hs hr gU o.dst
  have hxe:a.eval x=dQ a t0:=by rw[hx];rfl
  refine⟨v',Lb,w2,.inl (fj ho fX dq jx (by rw[hxe];exact cg)),Out.of (s1:=s.br t0 .any) (gen':=s.gen+1) zJ BZ vo (aiD _) hd (.inr ⟨⟨s.gen,ahQ _,rfl⟩,hL AN⟩) (fun k hk=>⟨ajZ _,?_⟩)⟩
  rw[hk] at Uv
  exact Uv
 cases yx with
 | tmp t0 =>
  obtain⟨rfl,ht⟩:=gZ l8
  simp only[dX] at he
  split at he
  ·rename_i g el Lg
   simp only[ahL] at he
   obtain⟨f,hf,he⟩:=he
   obtain⟨h0,he⟩:=ab he
   simp only[ahM,ahN] at he
   obtain⟨rfl,rfl⟩:=he
   simp only[ahR] at h0
   exact Pe t0 el f rfl ht (lY hF ht Lg) hf h0.2 h0.1
  ·rename_i el own Lg
   cases AN:wr with
   | true =>
    rw[AN] at he
    simp only[cond_true,ahL] at he
    obtain⟨f,hf,he⟩:=he
    obtain⟨h0,he⟩:=ab he
    simp only[ahM,ahN] at he
    obtain⟨rfl,rfl⟩:=he
    simp only[ahR,ajW] at h0
    obtain⟨⟨rfl,rfl⟩,gU⟩:=h0
    have kq:=yZ hF ht Lg
    have bp:oc gh w (.bx t0) (dQ a t0) []:=by
     rcases kq with h|⟨e',heq,_,b,cap,C,ty,lo,hi,gY,fY,hk,cS,_⟩
     ·change VR gh s.H.length w (dQ a t0) _ at h
      generalize dQ a t0=V at h
      cases h with
      | plain _ _ h=>cases h
      | full ao k _ h hz =>
       cases h with
       | cy=>exact⟨none,0,rfl,.inl ⟨rfl,rfl,fun ad h=>by cases h⟩⟩
       | slice b o _ _ gY _ _ hn =>
        simp at hn
        subst hn
        exact⟨_,0,rfl,.inl ⟨rfl,rfl,fun ad h=>⟨by injection h with h;subst h;rfl,hz ad h rfl⟩⟩⟩
     ·injection heq with h1;subst h1;exact absurd rfl cS
    exact Pe t0 [] f rfl ht bp hf gU AN
   | false =>
    rw[AN] at he
    simp only[ahW,ahK,ahN] at he
    obtain⟨z',xf,rfl,rfl⟩:=he
    obtain⟨jL,nS,tX,Dt,Pv,kq⟩:=rK hW hF ht Lg .ret (by simp)
    exact core (s.br t0 (.slice el false)) jL el own rfl nS tX Dt Pv.S kq xf
  ·rename_i Lg
   cases AN:wr with
   | true =>
    rw[AN] at he
    simp only[cond_true,ahL] at he
    obtain⟨f,hf,he⟩:=he
    obtain⟨h0,he⟩:=ab he
    simp only[ahM,ahN] at he
    obtain⟨rfl,rfl⟩:=he
    have hv:=(bS hW hF l8 (show (ak.tmp t0).eval G s.T=.ay from Lg) rfl).jU
    exact Pe t0 [] f rfl ht ⟨none,0,hv,.inl ⟨rfl,rfl,fun ad h=>by cases h⟩⟩ hf h0 AN
   | false =>
    rw[AN] at he
    simp only[ahW,ahK,ahN] at he
    obtain⟨z',xf,rfl,rfl⟩:=he
    have hv:=(bS hW hF l8 (show (ak.tmp t0).eval G s.T=.ay from Lg) rfl).jU
    exact core s gh [] true rfl hW hF (Ext.refl _ _ _ dI) (fun _ _ h=>h) (.inl (by rw[hv];exact .full none 0 [] .cy (fun ad h=>by cases h))) xf
  ·cases he
 | bC v =>
  simp only[dX] at he
  cases AN:wr with
  | true=>rw[AN] at he;cases he
  | false =>
   rw[AN] at he
   simp only[ahW,ahK,ahN] at he
   obtain⟨z',xf,rfl,rfl⟩:=he
   simp only[ak.eval] at xf
   cases v<;>simp only[an] at xf<;>try (cases xf;done)
   rename_i el own
   have hv:VR gh s.H.length w (a.eval x) (.slice el own):=by
    cases x with
    | tmp k =>
     simp only[ah] at l8
     rcases aiE (Nat.blt k nt) with hb|hb<;>rw[hb] at l8<;>simp at l8
    | const u =>
     simp only[ah,ahK] at l8
     obtain⟨zz,hz,h⟩:=l8
     injection h with h
     subst h
     exact hN hz
    | global g=>simp[ah] at l8
    | func f=>simp[ah] at l8
   exact core s gh el own rfl hW hF (Ext.refl _ _ _ dI) (fun _ _ h=>h) (.inl hv) xf
 | aP g =>
  simp only[dX] at he
  cases AN:wr with
  | true=>rw[AN] at he;cases he
  | false =>
   rw[AN] at he
   simp[ak.eval,an] at he
 | fn f =>
  simp only[dX] at he
  cases AN:wr with
  | true=>rw[AN] at he;cases he
  | false =>
   rw[AN] at he
   simp[ak.eval,an] at he
end
end
section
def clean(gh:Gh):Prop:=∀ b,gh.κ b=.none\/gh.κ b=.outer\/(∃ l,gh.κ b=.hb l)\/(∃ l j,gh.κ b=.hs l j)\/∃ j,gh.κ b=.par j
def fG(p:aW):Prop:=(∃ l,p=.hb l)\/(∃ l j,p=.hs l j)\/∃ j,p=.par j
def lP(H:ag):Option fD->ag
 | none=>H
 | some c=>c.heap
structure j9 (G:Nat->List AV) (base:Nat) (H:ag) (gh:Gh) (w:World) (r:AV) (c:Option fD) (v:Value) (aD:Gh) (w' : World):Prop where
 len:H.length<=(lP H c).length
 W:aF G base (lP H c) aD w'
 st:Step fG H.length gh w aD w'
 out:∀ b,aD.κ b=.outer->gh.κ b=.outer
 val:CR aD (lP H c).length w' .ret v r
def j8(H:ag)(c:Option fD):Prop:=H.length<=(lP H c).length/\∀ c',c=some c'->c'.lo<=H.length/\∀ l,l<c'.lo->c'.heap[l]?=H[l]?
def dn(P:Program)(G:Nat->List AV)(cf:cz):Prop :=
 ∀ f args H r c,cf f args H=some (r,c)->(∃ fn,P.funcs[f]?=some fn/\fn.body.isSome=true/\fn.name≠ "runtime.NumGoroutine")/\j8 H c /\
  ∀ (base:Nat) (gh:Gh) (w:World) (vs:Array Value),aF G base H gh w->clean gh->vs.size=args.length->(∀ (j:Nat) (v:Value) (x:AV),vs[j]?=some v->args[j]?=some x->CR gh H.length w (.par j) v x) ->
   Calls P f vs w fun e w'=>∃ v aD,e=.returned v/\j9 G base H gh w r c v aD w'
section
variable {P:Program}{G:Nat->List AV}{base nt:Nat}{L:List Nat}{gh:Gh}{w w' : World}{a:Act}{s:AS}{H:ag}
def dr:aW->Bool
 | .bx _|.sl _|.sc ..|.ret=>true
 | _=>false
def Gh.qh(gh:Gh):Gh:={ gh with κ:=fun b=>bif dr (gh.κ b) then .outer else gh.κ b }
theorem FO(gh:Gh):clean gh.qh:=by
 intro b
 simp only[Gh.qh]
 cases h:gh.κ b<;>simp[dr]
theorem xX(hW:aF G base H gh w)(n:Nat):Step (fun p=>dr p=true) n gh w gh.qh w:=by
 refine⟨fun _ _ h=>h,fun _ _ _=>rfl,ahQ _,rfl,rfl,rfl,fun b hb hn=>⟨.inl rfl,?_,fun _ h=>h⟩,fun b hb=>?_,fun _ _=>rfl,fun _ _ _ h=>h,fun _ _ _ _ h=>h⟩
 ·simp only[Gh.qh]
  cases h:dr (gh.κ b)
  ·rfl
  ·exact absurd h hn
 ·simp only[Gh.qh,hW.fresh b hb]
  simp[dr]
theorem VW(hW:aF G base H gh w):aF G base H gh.qh w:=by
 refine hW.step (xX hW H.length) (fun l=>⟨by simp[dr],by simp[dr]⟩) hW.lX (fun b hb=>hW.mH b fun h=>hb ?_) (fun _ _ _ h=>.inl h)
 simp[Gh.qh,h,dr]
def Gh.back(gh aD:Gh):Gh:={ aD with κ:=fun b=>bif dr (gh.κ b) then gh.κ b else aD.κ b }
theorem Ks(hW:aF G base H gh w){r:AV}{c:Option fD}{v:Value}{aD:Gh}(h:j9 G base H gh.qh w r c v aD w') :
  aF G base (lP H c) (gh.back aD) w'/\Step fG H.length gh w (gh.back aD) w'/\Ext H.length gh w (gh.back aD) w'/\CR (gh.back aD) (lP H c).length w' .ret v r:=by
 have adm:∀ b,dr (gh.κ b)=true->aD.κ b=.outer:=by
  intro b hb
  have aZ:b<w.heap.size:=(hW.mH b (by intro h0;rw[h0] at hb;cases hb)).2
  have:=(h.st.xB b aZ (by simp[Gh.qh,hb,fG])).2.1
  rw[this]
  simp[Gh.qh,hb]
 have abF:Step (fun p=>p=.outer) (lP H c).length aD w' (gh.back aD) w':=by
  refine⟨fun _ _ h=>h,fun _ _ _=>rfl,ahQ _,rfl,rfl,rfl,fun b hb hn=>⟨.inl rfl,?_,fun _ h=>h⟩,fun b hb=>?_,fun _ _=>rfl,fun _ _ _ h=>h,fun _ _ _ _ h=>h⟩
  ·simp only[Gh.back]
   cases hs:dr (gh.κ b)
   ·rfl
   ·exact absurd (adm b hs) hn
  ·simp only[Gh.back]
   have fE:w.heap.size<=b:=ait h.st.size hb
   rw[hW.fresh b fE]
   simp only[dr,ahW]
   exact h.st.fresh b fE
 have hlen:=h.len
 have iN:Step fG H.length gh w (gh.back aD) w':=by
  refine⟨h.st.S,h.st.cell,h.st.size,h.st.os,h.st.tape,h.st.output,fun b hb hn=>?_,fun b hb=>?_,h.st.ρ,h.st.len,h.st.mp⟩
  ·cases hs:dr (gh.κ b) with
   | true =>
    have:=h.st.xB b hb (by simp[Gh.qh,hs,fG])
    exact⟨this.1,by simp[Gh.back,hs],this.2.2⟩
   | false =>
    have e1:gh.qh.κ b=gh.κ b:=by simp[Gh.qh,hs]
    have:=h.st.xB b hb (by rw[e1];exact hn)
    exact⟨this.1,by simp only[Gh.back,hs,ahW];rw[this.2.1,e1],this.2.2⟩
  ·simp only[Gh.back]
   rw[hW.fresh b hb]
   simp only[dr,ahW]
   exact h.st.fresh b hb
 refine⟨h.W.step abF (fun l=>⟨by simp,by simp⟩) h.W.lX (fun b hb=>?_) (fun _ _ _ h=>.inl h),iN,⟨iN.mono (fun p hp=>?_),fun b hb=>?_⟩,h.val.mono abF (ahQ _) (by simp)⟩
 ·simp only[Gh.back] at hb
  cases hs:dr (gh.κ b) with
  | true =>
   have:=hW.mH b (by intro h0;rw[h0] at hs;cases hs)
   have:=h.st.size
   omega
  | false =>
   rw[hs] at hb
   exact h.W.mH b hb
 ·rcases hp with ⟨l,rfl⟩|⟨l,j,rfl⟩|⟨j,rfl⟩<;>simp[nh]
 ·simp only[Gh.back] at hb
  cases hs:dr (gh.κ b) with
  | true =>
   rw[hs] at hb
   simp only[cond_true] at hb
   rw[hb] at hs
   cases hs
  | false =>
   rw[hs] at hb
   have:=h.out b hb
   simpa [Gh.qh,hs] using this
theorem CR.VG(hW:aF G base s.H gh w)(hF:FR L nt gh w a s){v:Value}{x:AV}(h:CR gh s.H.length w .ret v x)(p:aW)(hp:p≠.outer) :
  ∃ aD,aF G base s.H aD w/\FR L nt aD w a s/\Ext s.H.length gh w aD w/\CR aD s.H.length w p v x:=by
 rcases h with h|⟨e,rfl,h⟩
 ·exact⟨gh,hW,hF,Ext.refl _ _ _ (fun b hb=>hW.bq b hb),.inl h⟩
 ·exact CR.given hW hF (.inr ⟨e,rfl,h⟩) p hp
theorem iZ{n:Nat}{v:Value}{x:AV}(h:VR gh n w v x.drop):VR gh n w v x.bc:=by
 cases x<;>first|exact h|skip
 rename_i cs
 exact VR.u0 (h:VR gh n w v (.agg cs))
theorem Ib{cf:cz}(ij:dn P G cf)(hW:aF G base s.H gh w)(hF:FR L nt gh w a s){o:Oper}{f:FuncId}{vs:Array Value}{args:List AV}{r:AV}{ch:Option fD}
  (he:cf f args s.H=some (r,ch)) (tD:vs.size=args.length) (bX:∀ (j:Nat) (v:Value) (x:AV),vs[j]?=some v->args[j]?=some x->CR gh s.H.length w (.par j) v x)
  (cg:(∃ fn,P.funcs[f]?=some fn/\fn.body.isSome=true/\fn.name≠ "runtime.NumGoroutine")->(execOp a.eval o).run P w=.ok (.enter f vs) w) (hd:∀ k,o.dst=some k->k<nt) (K:Act->World->Prop) (Q:Exit->Act->World->Prop)
  (hK:∀ v' aD w',Out G base nt L gh w a s o.dst r ((ch.map s.fa).getD s) v' aD w'->K (a.put o.dst v') w'):o.wp P a w K Q:=by
 obtain⟨FM,_,Hk⟩:=ij f _ _ _ _ he
 have iN:=xX hW s.H.length
 have hC:=Hk base gh.qh w vs (VW hW) (FO gh) tD (fun j v x hv hx=>(bX j v x hv hx).mono iN (ahQ _) (by simp[dr]))
 unfold Oper.wp
 rw[cg FM,Oper.upon_enter]
 refine hC.mono ?_
 rintro e w2 ⟨v,aD,rfl,hR⟩
 obtain⟨zJ,aat,vo,Qv⟩:=Ks hW hR
 have Un:=hR.len
 have key:∀ s1:AS,s1.H=lP s.H ch->FR L nt (gh.back aD) w2 a s1->∃ VF,Out G base nt L gh w a s o.dst r s1 v VF w2:=by
  intro s1 zO tX
  obtain⟨VF,hW3,hF3,hE3,hv3⟩:=CR.VG (by rw[zO];exact zJ) tX (by rw[zO];exact Qv) (J3 o.dst) (mn _)
  refine⟨VF,Out.of (s1:=s1) (gen':=s1.gen) hW3 hF3 (vo.trans hE3 (by rw[zO];exact Un)) (ahQ _) hd (.inl (iU hv3.aq)) (fun k hk=>?_)⟩
  rw[hk] at hv3
  exact lZ hv3.aq hv3
 cases ch with
 | none =>
  obtain⟨VF,hO⟩:=key s rfl (hF.grown (H':=s.H) (lo':=s.lo) aat (fun i=>⟨by simp[fG],by simp[fG],by simp[fG]⟩) (ahQ _))
  exact hK v VF w2 hO
 | some c' =>
  obtain⟨VF,hO⟩:=key (s.fa c') rfl (hF.grown aat (fun i=>⟨by simp[fG],by simp[fG],by simp[fG]⟩) Un)
  exact hK v VF w2 hO
theorem PT{cf:cz}(ij:dn P G cf)(hW:aF G base s.H gh w)(hF:FR L nt gh w a s){o:Oper}{c:Call}{fx:Operand}{yf:ak}{ys:List ak}{f:FuncId}{fs cs:List AV}{r:AV}{ch:Option fD}
  (ho:o.op=.call c) (fX:c.callee=.value fx) (l8:ah nt fx=some yf) (vt:hJ nt c.args.toList=some ys) (VV:yf.eval G s.T=.func (.func f) fs cs) (JZ:(ys.map fun y=>y.addr G s.T).all aq=true)
  (he:cf f (fs++ys.map (fun y=>(y.addr G s.T).bc)++cs) s.H=some (r,ch)) (hd:∀ k,o.dst=some k->k<nt) (K:Act->World->Prop) (Q:Exit->Act->World->Prop)
  (hK:∀ v' aD w',Out G base nt L gh w a s o.dst r ((ch.map s.fa).getD s) v' aD w'->K (a.put o.dst v') w'):o.wp P a w K Q:=by
 have hfv:=bS hW hF l8 VV rfl
 obtain⟨us,ts,hfe,FL,jb,h1,h2⟩:=hfv.oH
 have dq:=y3 hW hF vt JZ
 have hlen:=(jD vt).1
 let vs:Array Value:=us++c.args.map a.eval++ts
 have tD:vs.size=(fs++ys.map (fun y=>(y.addr G s.T).bc)++cs).length:=by
  simp[vs,FL,jb] at hlen ⊢
  omega
 have bX:∀ (j:Nat) (v:Value) (x:AV),vs[j]?=some v->(fs++ys.map (fun y=>(y.addr G s.T).bc)++cs)[j]?=some x->VR gh s.H.length w v x:=by
  intro j v x hv hx
  have VH:(c.args.map a.eval).size=ys.length:=by simpa using hlen
  simp only[vs,Array.getElem?_append,Array.size_append] at hv
  simp only[aiw,List.length_append,aie] at hx
  rw[FL,VH] at hv
  split at hv
  ·rename_i c1
   rw[if_pos c1] at hx
   split at hv
   ·rename_i c2
    rw[if_pos c2] at hx
    exact h1 j v x hv hx
   ·rename_i c2
    rw[if_neg c2] at hx
    simp only[ah2,ahK] at hx
    obtain⟨y,hy,rfl⟩:=hx
    refine iZ (dq (j-fs.length) v _ ?_ ?_)
    ·rw[<- akc,aik];exact hv
    ·simp only[ah2,hy,ah0]
  ·rename_i c1
   rw[if_neg c1] at hx
   exact h2 _ v x hv hx
 refine Ib ij hW hF he tD (fun j v x hv hx=>.inl (bX j v x hv hx)) ?_ hd K Q hK
 rintro ⟨fn,FM,tw,oF⟩
 unfold execOp
 cases hb:fn.body with
 | none=>rw[hb] at tw;cases tw
 | some code =>
  simp[ho,resolve,fX,hfe,Deferred.ofValue,invoke,callFunc,FM,oF,hb,vs]
end
end
section
section
variable {P:Program}{G:Nat->List AV}{base nt:Nat}{L:List Nat}{gh:Gh}{w w' : World}{a:Act}{s:AS}{H:ag}
def AO(P:Program)(w:World)(d:Nat):Prop :=
 ∀ (t:TypeId) (ks:List CK),kO P d t=some ks->∀ (D o:Nat) (cs:Array Value) (em:Bool),d<=D->o+ks.length<=cs.size->∃ v,(part t cs o).run P w=.ok v w/\(Instr.checkKey em D t v).run P w=.ok () w
theorem qK{t:TypeId}{D:Nat}{v:Value}{em:Bool}(h:P.underlying t=some .bool\/(∃ k,P.underlying t=some (.int k))\/P.underlying t=some .string):(Instr.checkKey em (D+1) t v).run P w=.ok () w:=by
 rcases h with h|⟨k,h⟩|h<;>simp[Instr.checkKey,run_underlying h]
theorem qJ{d:Nat}(hd:AO P w d){D:Nat}(hD:d<=D){cs:Array Value}{em:Bool} : ∀ (fs:List Go.Field) (q:Nat) (ks:List CK),mh (kO P d) fs q=some ks->q+ks.length<=cs.size ->
  Sem.run P (forIn fs PUnit.unit fun (f:Go.Field) (_:PUnit) =>
   if f.name≠ "_" then do
    let v <- part f.type cs f.offset
    Instr.checkKey em D f.type v
    pure (ForInStep.yield PUnit.unit)
   else pure (ForInStep.yield PUnit.unit)) w=.ok PUnit.unit w:=by
 intro fs
 induction fs with
 | nil=>intro q ks h1 h2;rfl
 | cons f fs ih =>
  intro q ks h1 h2
  unfold mh at h1
  obtain⟨h3,h1⟩:=ab h1
  simp only[ahL,ahK] at h1
  obtain⟨kf,hkf,kr,hkr,rfl⟩:=h1
  simp only[ahR,dV,ah8,bne_iff_ne] at h3
  obtain⟨hof,hnm⟩:=h3
  rw[List.length_append] at h2
  obtain⟨v,p1,p2⟩:=hd f.type kf hkf D q cs em hD (by omega)
  have hr:=ih (q+kf.length) kr hkr (by omega)
  rw[List.forIn_cons,if_pos hnm,hof]
  simp only[Sem.run_bind,p1,p2,Result.andThen_ok,Sem.run_pure]
  exact hr
theorem xH:∀ d,AO P w d
 | 0=>fun t ks h=>by cases h
 | d+1=>by
  intro t ks h D o cs em hD fq
  have h0:=h
  unfold kO at h
  cases hu:P.underlying t with
  | none=>rw[hu] at h;cases h
  | some dd =>
   rw[hu] at h
   obtain⟨D,rfl⟩:∃ m,D=m+1:=⟨D-1,by omega⟩
   have sc:ks.length=1->ke P t=some false->(dd=.bool\/(∃ k,dd=.int k)\/dd=.string)->∃ v,(part t cs o).run P w=.ok v w/\(Instr.checkKey em (D+1) t v).run P w=.ok () w:=by
    intro h1 h2 h3
    have hg:=h2
    have hv:cs[o]?=some cs[o]:=ahY (by omega)
    refine⟨cs[o],by simp[part,fT hg,hv],qK ?_⟩
    rcases h3 with h3|⟨k,h3⟩|h3<;>subst h3
    ·exact .inl hu
    ·exact .inr (.inl ⟨k,hu⟩)
    ·exact .inr (.inr hu)
   cases dd<;>try (cases h;done)
   case bool=>injection h with h;subst h;exact sc rfl (kg hu rfl) (.inl rfl)
   case int kk=>injection h with h;subst h;exact sc rfl (kg hu rfl) (.inr (.inl ⟨kk,rfl⟩))
   case string=>injection h with h;subst h;exact sc rfl (kg hu rfl) (.inr (.inr rfl))
   case struct fs =>
    obtain⟨_,kA,sz,fA,hlen⟩:=nL h0 hu
    have hg:ke P t=some true:=by unfold ke;rw[hu];rfl
    refine⟨.agg (cs.extract o (o+sz)),by simp[part,fT hg,cX fA],?_⟩
    have:=qJ (xH d) (show d<=D by omega) (cs:=cs.extract o (o+sz)) (em:=em) fs.toList 0 ks kA (by simp;omega)
    unfold Instr.checkKey
    simp only[Sem.run_bind,run_underlying hu,Result.andThen_ok]
    rw[<- Array.forIn_toList,this]
    rfl
theorem pw{n:Nat}{v:Value}{k:AV}{kc:List AV}(h:VR gh n w v k)(hc:k.cells=some kc):(∃ C,v=.agg C/\k=.agg kc/\Row gh n w C kc)\/(kc=[k]/\v.oneCell'=true):=by
 have hr:=o5 h hc
 cases k
 case agg xs =>
  obtain⟨C,rfl,hs,dY,h⟩:=h.iW
  injection hc with hc
  subst hc
  exact .inl ⟨C,rfl,rfl,hs,h⟩
 case any=>cases hc
 case tuple=>cases hc
 case lbox=>cases hc
 case lref=>cases hc
 case lsl=>cases hc
 case lsr=>cases hc
 case eref=>cases hc
 case iter=>cases hc
 all_goals
  injection hc with hc
  subst hc
  exact .inr ⟨rfl,h.dv (by intro cs h;cases h) (by intro cs h;cases h)⟩
theorem sd{n:Nat}{v:Value}{k:AV}(h:VR gh n w v k)(ha:true=k.isAgg):∃ C,v=.agg C:=by
 cases k<;>first|(cases ha;done)|skip
 obtain⟨C,rfl,_⟩:=h.iW
 exact⟨C,rfl⟩
structure yT (P:Program) (kt:TypeId) (ks:List CK) (ka:Bool):Prop where
 flat:kO P 8 kt=some ks
 agg:ke P kt=some ka
theorem yT.cases{kt:TypeId}{ks:List CK}{ka:Bool}(h:yT P kt ks ka):(ka=false/\((P.underlying kt=some .bool/\ks=[.b])\/(∃ k,P.underlying kt=some (.int k)/\ks=[.i])\/(P.underlying kt=some .string/\ks=[.s]))) \/
  (ka=true/\∃ fs,P.underlying kt=some (.struct fs)):=by
 have hf:=h.flat
 have ha:=h.agg
 unfold kO at hf
 unfold ke at ha
 cases hu:P.underlying kt with
 | none=>rw[hu] at hf;cases hf
 | some dd =>
  rw[hu] at hf ha
  cases dd<;>try (cases hf;done)
  case bool=>injection hf with hf;subst hf;simp at ha;exact .inl ⟨ha,.inl ⟨rfl,rfl⟩⟩
  case int k=>injection hf with hf;subst hf;simp at ha;exact .inl ⟨ha,.inr (.inl ⟨k,rfl,rfl⟩)⟩
  case string=>injection hf with hf;subst hf;simp at ha;exact .inl ⟨ha,.inr (.inr ⟨rfl,rfl⟩)⟩
  case struct fs=>simp at ha;exact .inr ⟨ha,fs,rfl⟩
theorem sU{kt:TypeId}{ks:List CK}{ka:Bool}(hK:yT P kt ks ka){n:Nat}{kv:Value}{k:AV}{kc:List AV}(hk:VR gh n w kv k)(oa:k.cells=some kc)(hl:kc.length=ks.length)(rT:ka=k.isAgg)(em:Bool) :
  (Instr.checkKey em 10000 kt kv).run P w=.ok () w:=by
 rcases hK.cases with ⟨rfl,h⟩|⟨rfl,fs,hu⟩
 ·refine qK ?_
  rcases h with ⟨h,_⟩|⟨k,h,_⟩|⟨h,_⟩
  ·exact .inl h
  ·exact .inr (.inl ⟨k,h⟩)
  ·exact .inr (.inr h)
 ·obtain⟨C,rfl⟩:=sd hk rT
  obtain⟨pd,kA,sz,fA,hlen⟩:=nL hK.flat hu
  have hC:C.size=kc.length:=by
   rcases pw hk oa with ⟨C',e,_,hr⟩|⟨_,h1⟩
   ·injection e with e;subst e;exact hr.1
   ·simp[Value.oneCell'] at h1
  have:=qJ (xH (w:=w) (P:=P) 7) (show 7<=9999 by omega) (cs:=C) (em:=em) fs.toList 0 ks kA (by omega)
  unfold Instr.checkKey
  simp only[Sem.run_bind,run_underlying hu,Result.andThen_ok]
  rw[<- Array.forIn_toList,this]
  rfl
def GX(S:Nat->Nat->Prop)(w:World)(kz:Nat)(ka:Bool)(v:Value)(r:List AV):Prop:=∃ f:Nat->Value,v=n8 ka kz f/\∀ (j:Nat) (x:AV),r[j]?=some x->j<kz->PR S w (f j) x
theorem ny:∀ {k:List CK} {X Y:List AV} {b:Bool},bH k X Y=some b->k.length<=X.length/\k.length<=Y.length
 | [],X,Y,b,h=>⟨aiB _,aiB _⟩
 | c :: k,X,Y,b,h=>by
  cases c<;>cases X<;>try (cases h;done)
  all_goals (rename_i x X';cases x<;>try (cases h;done))
  all_goals (cases Y<;>try (cases h;done))
  all_goals (rename_i y Y';cases y<;>try (cases h;done))
  ·simp only[bH,ahK] at h
   obtain⟨b',hb,_⟩:=h
   have:=ny hb
   simp;omega
  ·simp only[bH] at h
   obtain⟨_,h⟩:=ab h
   simp only[ahK] at h
   obtain⟨b',hb,_⟩:=h
   have:=ny hb
   simp;omega
  ·simp only[bH,ahK] at h
   obtain⟨b',hb,_⟩:=h
   have:=ny hb
   simp;omega
theorem Jd{kt:TypeId}{ks:List CK}{ka:Bool}(hK:yT P kt ks ka){n:Nat}{kv:Value}{k:AV}{kc:List AV}(hk:VR gh n w kv k)(oa:k.cells=some kc)(hl:kc.length=ks.length)(rT:ka=k.isAgg)
  {v:Value} {r:List AV} (hv:GX gh.S w ks.length ka v r) {b:Bool} (he:bH ks kc r=some b) :
  (ka=true->(Op.equal kt kv v).run P w=.ok b w)/\(ka=false->∀ d,P.underlying kt=some d->Instr.sameNow d kv v=some b):=by
 obtain⟨f,rfl,hf⟩:=hv
 have Pr:=(ny he).2
 rcases hK.cases with ⟨rfl,h⟩|⟨rfl,fs,hu⟩
 ·refine⟨(fun h=>by cases h),fun _ d hd=>?_⟩
  have V1:kc=[k]:=by
   cases k<;>first|(cases rT;done)|(injection oa with oa;exact oa.symm)|(cases oa;done)
  subst V1
  have hv0:∀ x,r[0]?=some x->PR gh.S w (f 0) x:=fun x hx=>hf 0 x hx (by rcases h with ⟨_,h⟩|⟨_,_,h⟩|⟨_,h⟩<;>rw[h]<;>exact Nat.one_pos)
  show Instr.sameNow d kv (f 0)=some b
  cases r with
  | nil=>rcases h with ⟨_,h⟩|⟨_,_,h⟩|⟨_,h⟩<;>subst h<;>simp at Pr
  | cons x r =>
   have hx:=hv0 x rfl
   rcases h with ⟨h,rfl⟩|⟨q,h,rfl⟩|⟨h,rfl⟩
   ·rw[h] at hd;injection hd with hd;subst hd
    cases k<;>try (cases he;done)
    cases x<;>try (cases he;done)
    obtain rfl:=hk.ik
    generalize f 0=u at hx
    cases hx
    simp[bH] at he
    simp[Instr.sameNow,he]
   ·rw[h] at hd;injection hd with hd;subst hd
    cases k<;>try (cases he;done)
    cases x<;>try (cases he;done)
    obtain rfl:=hk.gQ
    generalize f 0=u at hx
    cases hx
    simp only[bH] at he
    obtain⟨h0,he⟩:=ab he
    simp at he h0
    simp[Instr.sameNow,he,h0]
   ·rw[h] at hd;injection hd with hd;subst hd
    cases k<;>try (cases he;done)
    cases x<;>try (cases he;done)
    obtain⟨p,rfl,rfl⟩:=hk.gS
    generalize f 0=u at hx
    cases hx with
    | str q _ hq =>
     subst hq
     simp[bH] at he
     simp only[Instr.sameNow,ahM]
     rw[<- he]
     first|rfl|(show (p.data==q.data)=_;simp)
 ·obtain⟨C,rfl⟩:=sd hk rT
  refine⟨fun _=>?_,fun h=>by cases h⟩
  have hC:Row gh n w C kc:=by
   rcases pw hk oa with ⟨C',e,_,hr⟩|⟨_,h1⟩
   ·injection e with e;subst e;exact hr
   ·simp[Value.oneCell'] at h1
  have hD:Row gh n w (((List.range ks.length).map f).toArray) (r.take ks.length):=by
   refine⟨by simp;omega,fun j u x hu hx=>?_⟩
   simp only[ah9,ah2,ahK] at hu
   obtain⟨i,hi,rfl⟩:=hu
   obtain⟨aZ,ux⟩:=ahO.1 hi
   simp at aZ ux
   subst ux
   rw[ah5,if_pos aZ] at hx
   exact .plain _ _ (hf _ x hx aZ)
  have AJ:bH ks kc (r.take ks.length)=some b:=by
   rw[<- he,<- mf ks kc r ks.length (ahQ _),<- mf ks kc (r.take ks.length) ks.length (ahQ _),List.take_take,Nat.min_self]
  exact qy (sD 7) hK.flat hu (D:=9999) (by omega) (n:=n) hC hD AJ
theorem qV{d:TypeDesc}{kv:Value}{ks:List CK}{kc:List AV} : ∀ (l:List MapEntry) (es:List (List AV)) (i0:Nat) (o:Option Nat),l.length=es.length ->
  (∀ (i:Nat) (e:MapEntry) (r:List AV) (b:Bool),l[i]?=some e->es[i]?=some r->bH ks kc r=some b->Instr.sameNow d kv e.key=some b)->fz ks kc es=some o ->
  Instr.findNow d kv l i0=some (o.map fun i=>(i0+i,(l.getD i default).val))
 | [],[],i0,o,_,_,h=>by simp only[fz,ahM] at h;subst h;rfl
 | [],_ :: _,_,_,hl,_,_=>by simp at hl
 | _ :: _,[],_,_,hl,_,_=>by simp at hl
 | e :: l,r :: es,i0,o,hl,hq,h=>by
  simp only[fz,ahL] at h
  obtain⟨b,hb,h⟩:=h
  have h0:=hq 0 e r b rfl rfl hb
  cases b with
  | true =>
   simp only[cond_true,ahM] at h
   subst h
   simp[Instr.findNow,h0]
  | false =>
   simp only[ahW,ahK] at h
   obtain⟨o',mi,rfl⟩:=h
   have ih:=qV l es (i0+1) o' (by simpa using hl) (fun i e r b h1 h2 h3=>hq (i+1) e r b (by simpa using h1) (by simpa using h2) h3) mi
   simp only[Instr.findNow,h0,ih,ajP]
   cases o' with
   | none=>rfl
   | some i=>simp[ajp,akn 1 i]
theorem nR{kt:TypeId}{kv:Value}{ks:List CK}{kc:List AV} : ∀ (l:List MapEntry) (es:List (List AV)) (i0:Nat) (o:Option Nat),l.length=es.length ->
  (∀ (i:Nat) (e:MapEntry) (r:List AV) (b:Bool),l[i]?=some e->es[i]?=some r->bH ks kc r=some b->(Op.equal kt kv e.key).run P w=.ok b w)->fz ks kc es=some o ->
  (Instr.findAsking kt kv l i0).run P w=.ok (o.map fun i=>(i0+i,(l.getD i default).val)) w
 | [],[],i0,o,_,_,h=>by simp only[fz,ahM] at h;subst h;rfl
 | [],_ :: _,_,_,hl,_,_=>by simp at hl
 | _ :: _,[],_,_,hl,_,_=>by simp at hl
 | e :: l,r :: es,i0,o,hl,hq,h=>by
  simp only[fz,ahL] at h
  obtain⟨b,hb,h⟩:=h
  have h0:=hq 0 e r b rfl rfl hb
  cases b with
  | true =>
   simp only[cond_true,ahM] at h
   subst h
   simp[Instr.findAsking,h0]
  | false =>
   simp only[ahW,ahK] at h
   obtain⟨o',mi,rfl⟩:=h
   have ih:=nR l es (i0+1) o' (by simpa using hl) (fun i e r b h1 h2 h3=>hq (i+1) e r b (by simpa using h1) (by simpa using h2) h3) mi
   simp only[Instr.findAsking,Sem.run_bind,h0,Result.andThen_ok,aiS,aj0,ih]
   cases o' with
   | none=>rfl
   | some i=>simp[ajp,akn 1 i]
theorem wi{kt:TypeId}{ks:List CK}{ka:Bool}(hK:yT P kt ks ka){n:Nat}{kv:Value}{k:AV}{kc:List AV}(hk:VR gh n w kv k)(oa:k.cells=some kc)(hl:kc.length=ks.length)(rT:ka=k.isAgg)
  {l:List MapEntry} {es:List (List AV)} (hlen:l.length=es.length) (bp:∀ (i:Nat) (e:MapEntry) (r:List AV),l[i]?=some e->es[i]?=some r->GX gh.S w ks.length ka e.key r) {o:Option Nat} (hf:fz ks kc es=some o) :
  (Instr.findKey kt kv l).run P w=.ok (o.map fun i=>(i,(l.getD i default).val)) w:=by
 have hq:=fun (i:Nat) (e:MapEntry) (r:List AV) (b:Bool) (h1:l[i]?=some e) (h2:es[i]?=some r) (h3:bH ks kc r=some b)=>Jd hK hk oa hl rT (bp i e r h1 h2) h3
 rcases hK.cases with ⟨rfl,h⟩|⟨rfl,fs,hu⟩
 ·obtain⟨d,hd⟩:∃ d,P.underlying kt=some d:=by rcases h with ⟨h,_⟩|⟨_,h,_⟩|⟨h,_⟩<;>exact⟨_,h⟩
  have hn:=qV l es 0 o hlen (fun i e r b h1 h2 h3=>(hq i e r b h1 h2 h3).2 rfl d hd) hf
  simp only[Nat.zero_add] at hn
  simp[Instr.findKey,run_underlying hd,hn]
 ·cases l with
  | nil =>
   cases es with
   | cons _ _=>simp at hlen
   | nil =>
    simp only[fz,ahM] at hf
    subst hf
    simp[Instr.findKey,run_underlying hu,Instr.findNow]
  | cons e l =>
   have hn:=nR (P:=P) (w:=w) (e :: l) es 0 o hlen (fun i e r b h1 h2 h3=>(hq i e r b h1 h2 h3).1 rfl) hf
   simp only[Nat.zero_add] at hn
   simp[Instr.findKey,run_underlying hu,Instr.findNow,Instr.sameNow,hn]
end
end
section
section
variable {P:Program}{G:Nat->List AV}{base nt:Nat}{L:List Nat}{gh:Gh}{w w' : World}{a:Act}{s:AS}{H:ag}
def qs(w:World)(b:Nat)(E:Array MapEntry)(ck:Nat):World:={ w with heap:=w.heap.setIfInBounds b (Obj.map E ck) }
theorem C7{b:Nat}{E E' : Array MapEntry}{ck ck' : Nat}(hb:w.heap[b]?=some (.map E ck)):(qs w b E' ck').heap[b]?=some (.map E' ck'):=by
 have aZ:b<w.heap.size:=(ahT.1 hb).1
 simp[qs,aZ]
theorem kZ{b b' : Nat}{E' : Array MapEntry}{ck' : Nat}(h:b'≠b):(qs w b E' ck').heap[b']?=w.heap[b']?:=by
 simp[qs,ajs h]
theorem wm{b:Nat}{E E' : Array MapEntry}{ck ck' : Nat}(hb:w.heap[b]?=some (.map E ck)):(setObj b (.map E' ck')).run P w=.ok () (qs w b E' ck'):=by
 simp[setObj,Sem.run,hb,qs]
theorem Cx(hW:aF G base H gh w){b:Nat}{E E' : Array MapEntry}{ck ck' : Nat}(hb:w.heap[b]?=some (.map E ck))(hS:∀ o,¬ gh.S b o)(n:Nat):Step (fun r=>r=gh.κ b) n gh w gh (qs w b E' ck'):=by
 have cS:∀ b' o,gh.S b' o->b'≠b:=fun b' o h=>by rintro rfl;exact hS o h
 refine⟨fun _ _ h=>h,fun b' o h=>cell_of_heap (kZ (cS b' o h)),by simp[qs],rfl,rfl,rfl,fun b' fE hn=>?_,fun b' fE=>?_,fun _ _=>rfl,fun b' ty m hm=>?_,fun b' E1 c1 hs hm=>?_⟩
 ·have ud:b'≠b:=by rintro rfl;exact hn rfl
  exact⟨.inl (kZ ud),rfl,fun _ h=>h⟩
 ·have:w.heap.size<=b':=by simpa [qs] using fE
  exact hW.bq b' this
 ·obtain⟨C,fr,h1,h2⟩:=hm
  have ud:b'≠b:=by rintro rfl;rw[hb] at h1;cases h1
  exact⟨C,fr,by rw[kZ ud];exact h1,h2⟩
 ·rw[kZ (cS b' 0 hs)];exact hm
structure DA (P:Program) (t kt et:TypeId) (ks:List CK) (ka va:Bool) (vz:Nat) (z:Value) (zero:List AV):Prop where
 ht:P.underlying t=some (.map kt et)
 key:yT P kt ks ka
 vz1:va=false->vz=1
 hz:∃ i,P.info? et=some i/\i.zero=some z
 cells:cV z.cells.toList=some zero
 agg:Ke z=va
 len:zero.length=vz
theorem yT.kz{kt:TypeId}{ks:List CK}{ka:Bool}(h:yT P kt ks ka)(hf:ka=false):ks.length=1:=by
 rcases h.cases with ⟨_,⟨_,h⟩|⟨_,_,h⟩|⟨_,h⟩⟩|⟨rfl,_⟩
 ·rw[h];rfl
 ·rw[h];rfl
 ·rw[h];rfl
 ·cases hf
theorem rE{t:TypeId}{m:List CK × Bool × Bool × List AV}(h:Jl P t=some m):∃ kt et z,DA P t kt et m.1 m.2.1 m.2.2.1 m.2.2.2.length z m.2.2.2:=by
 unfold Jl at h
 split at h
 ·rename_i kt et hu
  simp only[ahL] at h
  obtain⟨ks,kA,ka,rT,i,hi,z,hz,zero,Y7,h⟩:=h
  obtain⟨h0,h⟩:=ab h
  injection h with h
  subst h
  refine⟨kt,et,z,hu,⟨kA,rT⟩,fun hv=>?_,⟨i,hi,hz⟩,Y7,rfl,rfl⟩
  simp only at hv ⊢
  rw[hv] at h0
  simpa [dV] using h0
 ·cases h
theorem KY(hW:aF G base s.H gh w)(hF:FR L nt gh w a s){o:Oper}{t:TypeId}(ho:o.op=.makeMap t none)(hd:∀ k,o.dst=some k->k<nt)(kz:Nat)(ka va:Bool) :
  ∃ v' aD w',qD P a o w v' w'/\Out G base nt L gh w a s o.dst (.mref s.H.length) (s.fa ⟨s.H++[.map kz ka va []],s.H.length⟩) v' aD w':=by
 have hp:=dp.alloc w (.map #[] 0)
 have hρ:(gh.bg w.heap.size s.H.length).ρ s.H.length=w.heap.size:=by simp[Gh.bg]
 have hv:VR (gh.bg w.heap.size s.H.length) (s.H++[dm.map kz ka va []]).length (w.alloc (.map #[] 0)) (.map (some w.heap.size)) (.mref s.H.length):=by
  have:=VR.mref (gh:=gh.bg w.heap.size s.H.length) (w:=w.alloc (.map #[] 0)) (n:=(s.H++[dm.map kz ka va []]).length) s.H.length (by simp)
  rw[hρ] at this;exact this
 have hM:pV (gh.bg w.heap.size s.H.length) (s.H.length+1) (w.alloc (.map #[] 0)) w.heap.size s.H.length (.map kz ka va []):=by
  refine⟨⟨by simp[Gh.bg,Gh.alloc],?_,#[],0,fun _ _=>undef,hp.new,⟨rfl,rfl,fun i e h=>by simp at h,fun i e h=>by simp at h,fun i j e e' h=>by simp at h,fun i e r h=>by simp at h⟩,fun i j r x h=>by simp at h,fun i j r x h=>by simp at h⟩,rfl⟩
  rintro o (ho|⟨_,ho⟩)
  ·have:=hW.lX _ o ho;omega
  ·exact ho
 refine⟨_,_,_,.inl ?_,hW.CT hp (fun _ _ h=>by cases h) hM,hF.put (fp hW hp) (fun i=>⟨id,id,fun _=>id⟩) (by simp) o.dst hd (.cB hv),jq hW hp⟩
 simp[execOp,ho,Instr.makeMap,newObj,Sem.run]
theorem N5{n:Nat}{va:Bool}{m:Nat}{g:Nat->Value}{cs:List AV}(hm:cs.length=m)(h1:va=false->m=1)(h:∀ (j:Nat) (x:AV),cs[j]?=some x->VR gh n w (g j) x.drop/\(g j).oneCell'=true) :
  VR gh n w (n8 va m g) (cond va (.agg (cs.map AV.drop)) ((cs.headD .undef).drop)):=by
 cases va with
 | true =>
  refine .agg _ _ (by simp[hm]) (fun j v hv=>?_) (fun j v x hv hx=>?_)
  ·simp only[ah9,ah2,ahK] at hv
   obtain⟨i,hi,rfl⟩:=hv
   obtain⟨aZ,ux⟩:=ahO.1 hi
   simp at aZ ux
   subst ux
   exact (h _ _ (ahP (by omega))).2
  ·simp only[ah9,ah2,ahK] at hv hx
   obtain⟨i,hi,rfl⟩:=hv
   obtain⟨aZ,ux⟩:=ahO.1 hi
   simp at aZ ux
   subst ux
   obtain⟨y,hy,rfl⟩:=hx
   exact (h _ y hy).1
 | false =>
  have:=h1 rfl
  cases cs with
  | nil=>simp at hm;omega
  | cons x cs=>exact (h 0 x rfl).1
theorem HQ{n:Nat}{t kt et:TypeId}{ks:List CK}{ka va:Bool}{vz:Nat}{z:Value}{zero:List AV}(hT:DA P t kt et ks ka va vz z zero):VR gh n w z (cond va (.agg (zero.map AV.drop)) ((zero.headD .undef).drop)):=by
 obtain⟨hl,hv⟩:=iO (gh:=gh) (n:=n) (w:=w) hT.cells
 have FH:=hT.agg
 cases z
 case agg C =>
  simp[Ke] at FH
  subst FH
  refine .agg C _ (by simpa [Value.cells] using hl) (fun j v nW=>?_) (fun j v x nW hx=>?_)
  ·have aZ:=(ahT.1 nW).1
   have hz:zero[j]?=some zero[j]:=ahP (by
    have:C.toList.length=zero.length:=by simpa [Value.cells] using hl
    simp at this;omega)
   exact (hv j v _ (by simpa [Value.cells] using nW) hz).2
  ·simp only[ah2,ahK] at hx
   obtain⟨y,hy,rfl⟩:=hx
   exact (hv j v y (by simpa [Value.cells] using nW) hy).1.dropped
 all_goals
  simp[Ke] at FH
  subst FH
  have h1:zero.length=1:=by rw[hT.len];exact hT.vz1 rfl
  obtain⟨x,rfl⟩:=ai6.1 h1
  exact (hv 0 _ x rfl rfl).1.dropped
theorem vP{n:Nat}{ok va:Bool}{cs:List AV}{v:Value}(h:VR gh n w v (cond va (.agg (cs.map AV.drop)) ((cs.headD .undef).drop)))(found:Bool) :
  VR gh n w (if ok then .tuple #[v,.bool found] else v) (vO ok va cs found):=by
 unfold vO
 simp only
 cases ok with
 | false=>exact h
 | true =>
  refine .tuple _ _ rfl (fun j u x hu hx=>?_)
  match j with
  | 0=>injection hu with hu;injection hx with hx;subst hu hx;exact h
  | 1=>injection hu with hu;injection hx with hx;subst hu hx;exact .plain _ _ (.bool _)
  | j+2=>simp at hx
structure Rows (gh:Gh) (n:Nat) (w:World) (E:Array MapEntry) (kz:Nat) (ka va:Bool) (es:List (List AV)):Prop where
 size:E.size=es.length
 key:∀ (i:Nat) (e:MapEntry) (r:List AV),E[i]?=some e->es[i]?=some r->GX gh.S w kz ka e.key r
 val:∀ (i:Nat) (e:MapEntry) (r:List AV),E[i]?=some e->es[i]?=some r->kz<=r.length/\(va=false->r.length=kz+1)/\∃ g,e.val=n8 va (r.length-kz) g/\∀ (j:Nat) (x:AV),(r.drop kz)[j]?=some x->VR gh n w (g j) x.drop/\(g j).oneCell'=true
theorem v8{n b kz:Nat}{ka va:Bool}{es:List (List AV)}{v:Value}(h:PR gh.S w v (.di kz ka va es)):∃ b E ck,v=.map (some b)/\w.heap[b]?=some (.map E ck)/\Rows gh n w E kz ka va es:=by
 cases h with
 | di b _ _ _ _ E ck f hS hb hE bX =>
  refine⟨b,E,ck,rfl,hb,hE.size,fun i e r h1 h2=>⟨f i,(hE.row i e r h1 h2).2.2.2.1,fun j x hj _=>bX i j r x h2 hj⟩,fun i e r h1 h2=>?_⟩
  obtain⟨k1,_,k2,_,k3⟩:=hE.row i e r h1 h2
  refine⟨k1,k2,fun j=>f i (kz+j),k3,fun j x hj=>?_⟩
  rw[ail] at hj
  have:=bX i (kz+j) r x h2 hj
  exact⟨VR.dropped (.plain _ _ this),this.dv⟩
theorem v7{n b kz:Nat}{p:aW}{q:Nat->aW}{ka va:Bool}{es:List (List AV)}(h:xy gh n w b p q kz ka va es):∃ E ck,w.heap[b]?=some (.map E ck)/\Rows gh n w E kz ka va es:=by
 obtain⟨_,_,E,ck,f,hb,hE,h1,h2⟩:=h
 refine⟨E,ck,hb,hE.size,fun i e r k1 k2=>⟨f i,(hE.row i e r k1 k2).2.2.2.1,fun j x hj hl=>h1 i j r x k2 hj hl⟩,fun i e r k1 k2=>?_⟩
 obtain⟨l1,_,l2,_,l3⟩:=hE.row i e r k1 k2
 refine⟨l1,l2,fun j=>f i (kz+j),l3,fun j x hj=>?_⟩
 rw[ail] at hj
 obtain⟨m1,_,m2⟩:=h2 i (kz+j) r x k2 hj (by omega)
 exact⟨m2.dropped,m1⟩
theorem uo:∀ {ks:List CK} {kc:List AV} {es:List (List AV)} {i:Nat},fz ks kc es=some (some i)->i<es.length
 | ks,kc,[],i,h=>by simp[fz] at h
 | ks,kc,r :: es,i,h=>by
  simp only[fz,ahL] at h
  obtain⟨b,_,h⟩:=h
  cases b with
  | true=>simp at h;subst h;simp
  | false =>
   simp only[ahW,ahK] at h
   obtain⟨o,ho,h⟩:=h
   cases o with
   | none=>simp at h
   | some j=>simp at h;subst h;have:=uo ho;simp;omega
theorem C1{n:Nat}{t kt et:TypeId}{ks:List CK}{ka va:Bool}{vz:Nat}{z:Value}{zero:List AV}(hT:DA P t kt et ks ka va vz z zero){kv:Value}{k:AV}{kc:List AV}(hk:VR gh n w kv k)(oa:k.cells=some kc)(hl:kc.length=ks.length)(rT:ka=k.isAgg)
  {b:Nat} {E:Array MapEntry} {ck:Nat} {es:List (List AV)} (hb:w.heap[b]?=some (.map E ck)) (hR:Rows gh n w E ks.length ka va es) {o:Option Nat} (hf:fz ks kc es=some o) (ok:Bool) :
  ∃ v,(Instr.lookup t (.map (some b)) kv ok).run P w=.ok v w/\VR gh n w v (oL ok va zero ks.length es o):=by
 have pa:=sU hT.key hk oa hl rT E.isEmpty
 have JY:=wi hT.key hk oa hl rT (l:=E.toList) (by simpa using hR.size) (fun i e r h1 h2=>hR.key i e r (by simpa using h1) h2) hf
 obtain⟨i0,Z4,hz0⟩:=hT.hz
 have hzr:(zeroValue et).run P w=.ok z w:=by simp[zeroValue,typeInfo,Z4,hz0]
 cases o with
 | none =>
  refine⟨if ok then .tuple #[z,.bool false] else z,?_,vP (HQ hT) false⟩
  simp[Instr.lookup,run_underlying hT.ht,getObj,Sem.run,hb]
  simp[pa,JY,hzr]
 | some i =>
  have hi:=uo hf
  have hiE:i<E.size:=by rw[hR.size];exact hi
  have hE:E[i]?=some E[i]:=ahY hiE
  have he:es[i]?=some es[i]:=ahP hi
  obtain⟨k1,k2,g,k3,k4⟩:=hR.val i _ _ hE he
  have AK:es.getD i []=es[i]:=by simp[List.getD,he]
  have hed:E.toList.getD i default=E[i]:=by
   have:E.toList[i]?=some E[i]:=by rw[aik];exact hE
   simp[List.getD,this]
  have hv:=N5 (gh:=gh) (n:=n) (w:=w) (va:=va) (m:=es[i].length-ks.length) (g:=g) (cs:=es[i].drop ks.length) (by simp) (fun hva=>by have:=k2 hva;omega) k4
  rw[<- k3] at hv
  refine⟨if ok then .tuple #[E[i].val,.bool true] else E[i].val,?_,by simp only[oL];rw[AK];exact vP hv true⟩
  simp only[ah0,hed] at JY
  simp[Instr.lookup,run_underlying hT.ht,getObj,Sem.run,hb]
  simp[pa,JY]
theorem At{n:Nat}{t kt et:TypeId}{ks:List CK}{ka va:Bool}{vz:Nat}{z:Value}{zero:List AV}(hT:DA P t kt et ks ka va vz z zero){kv:Value}{k:AV}{kc:List AV}(hk:VR gh n w kv k)(oa:k.cells=some kc)(hl:kc.length=ks.length)(rT:ka=k.isAgg)(ok:Bool) :
  ∃ v,(Instr.lookup t (.map none) kv ok).run P w=.ok v w/\VR gh n w v (vO ok va zero false):=by
 have pa:=sU hT.key hk oa hl rT true
 have JY:=wi hT.key hk oa hl rT (l:=[]) (es:=[]) rfl (fun i e r h1 h2=>by simp at h1) (o:=none) rfl
 obtain⟨i0,Z4,hz0⟩:=hT.hz
 have hzr:(zeroValue et).run P w=.ok z w:=by simp[zeroValue,typeInfo,Z4,hz0]
 refine⟨if ok then .tuple #[z,.bool false] else z,?_,vP (HQ hT) false⟩
 simp[Instr.lookup,run_underlying hT.ht]
 simp[pa,JY,hzr]
end
end
end Go.Abs
