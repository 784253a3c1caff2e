/-
  A part of the proof of PrintForms: AbsOps9, AbsOps10, AbsOps11, AbsOps12, AbsCall, AbsMap1, AbsMap2.
-/
import Derived.Deep.Upon
import Derived.Lib.FrozenHead
import Derived.Test.YtbdnnjjcdcacnaaGreatDoorP02
set_option linter.unusedSimpArgs false
set_option linter.unusedVariables false
set_option linter.defProp false
namespace Go.Abs
section
section
variable {P:Program}{G:Nat->List AV}{base nt:Nat}{L:List Nat}{gh:Gh}{w w' : World}{a:Act}{s:AS}{H:ah}
theorem uT(hW:aX G base s.H gh w)(hF:FR L nt gh w a s){t:Nat}(ht:t<nt){e:List (List AV)}{own:Bool}(hT:s.T t=.slice e own)(p:bC)(hp:p≠.outer) :
  ∃ aV,aX G base s.H aV w/\FR L nt aV w a (s.cc t (.slice e false))/\Ext s.H.length gh w aV w/\Step (fun r=>r=.sl t) s.H.length gh w aV w/\CR aV s.H.length w p (fP a t) (.slice e own):=by
 have fI:=fun b hb=>hW.bY (gh:=gh) b hb
 have h:CR gh s.H.length w (.sl t) (fP a t) (.slice e own):=by
  have h:=hF.slot t ht
  rw[hT] at h
  exact h
 rcases h with hv|⟨e',heq,HV,b,cap,C,ty,lo,hi,sz,iA,hk,he,hb,hC,hr,hl,hh,hS⟩
 ·refine⟨gh,hW,?_,Ext.refl _ _ _ fI,Step.refl _ _ _ _ fI,.inl hv⟩
  exact hF.cc (touch:=fun _=>False) (H':=s.H) (lo':=s.lo) (Step.refl _ _ _ _ fI) (aoa _) (fun i _=>⟨id,id,fun _=>id⟩) (.inr rfl) (fun _=>.inl hv.dropped)
 ·injection heq with h1 h2
  subst h1 h2
  have bf:b<w.heap.size:=(aoi.1 hb).1
  have st:=kN hW bf p s.H.length
  rw[hk] at st
  have hn:gh.κ b≠.none:=by rw[hk];simp
  refine⟨gh.o6 b p,Jf hW bf p hn (by rw[hk];simp),?_,uo hW bf hp hn (by rw[hk];simp) _,st,.inr ⟨e,rfl,HV,b,cap,C,ty,lo,hi,sz,iA,by simp[Gh.o6],he,hb,hC,hr,hl,hh,hS⟩⟩
  refine hF.cc (H':=s.H) (lo':=s.lo) st (aoa _) (fun i hi=>⟨by simp,by simpa using hi,by simp⟩) (.inr rfl) (fun _=>?_)
  show CR (gh.o6 b p) s.H.length w (.sl t) (fP a t) (.slice e false)
  exact .inl (.plain _ _ HV)
theorem Out.of{aV:Gh}{s1:AS}{d:Option Nat}{gen' : Nat}{v:Value}{x:AV}(hW:aX G base s1.H aV w')(hF:FR L nt aV w' a s1)(hE:Ext s.H.length gh w aV w')(hg:s1.gen<=gen')(hd:∀ k,d=some k->k<nt)
  (hx:bk x=none\/((∃ g,s1.gen<=g/\bk x=some g)/\∀ k,d=some k->k∈L)) (hv:∀ k,d=some k->SR aV s1.H.length nt w' s1.T gen' (fP a) k v x) :
  Out G base nt L gh w a s d x { s1 with gen:=gen' } v aV w' :=
 ⟨hW,hF.RW hg (fun b hb=>hW.bY b hb) d hd hx hv,hE⟩
theorem jz{x:Operand}{t:Nat}(h:ax nt x=some (.tmp t)):x=.tmp t/\t<nt:=by
 cases x with
 | tmp k =>
  simp only[ax] at h
  rcases apk (Nat.blt k nt) with hb|hb<;>rw[hb] at h<;>simp at h
  subst h
  exact⟨rfl,by simpa [aoO] using hb⟩
 | const v =>
  simp only[ax,an0] at h
  obtain⟨z,hz,h⟩:=h
  cases h
 | global g=>simp[ax] at h
 | func f=>simp[ax] at h
theorem FT(hW:aX G base s.H gh w)(hF:FR L nt gh w a s){b g:Nat}{e:List (List AV)}(hb:b<nt)(hT:s.T b=.lsl g e)(lL:jj e=true)(p:bC)(hp:p≠.outer) :
  ∃ aV,aX G base s.H aV w/\FR L nt aV w a (s.cc b .any)/\Ext s.H.length gh w aV w/\CR aV s.H.length w p (fP a b) (.slice e true):=by
 have fI:=fun b hb=>hW.bY (gh:=gh) b hb
 have fY:(fP a b).oneCell'=true:=by obtain⟨ad,cap,hv,_⟩:=nX hF hb hT;rw[hv];rfl
 obtain⟨ad,cap,hV,⟨rfl,rfl,yI⟩|⟨k,C,ty,sz,dn,rfl,hκ,hS,hk,hC,hl,hr,gC⟩⟩:=nX hF hb hT
 ·refine⟨gh,hW,?_,Ext.refl _ _ _ fI,.inl ?_⟩
  ·exact hF.cc (touch:=fun _=>False) (H':=s.H) (lo':=s.lo) (Step.refl _ _ _ _ fI) (aoa _) (fun i _=>⟨id,id,fun _=>id⟩) (.inr rfl) (fun _=>.inl (.plain _ _ (.any _ fY)))
  ·rw[hV]
   refine .full ad 0 [] ?_ (fun ad' h _=>(yI ad' h).2)
   cases ad with
   | none=>exact .dw
   | some ad =>
    obtain⟨b',o',sp⟩:=ad
    have:=(yI _ rfl).1
    simp only at this
    subst this
    exact .slice b' o' 0 0 0 [] (fun _ _=>undef) rfl (aoa _) (fun i r h=>by simp at h) (fun i j r x h=>by simp at h) (fun i j r x h=>by simp at h)
 ·have lY:∀ o,gh.S k o->C[o]?=C[o]?:=fun _ _=>rfl
  have hn:gh.κ k≠.none:=by rw[hκ];simp
  have zT:∀ j m,j<e.length*sz->C[j]?=some (.int .u8 m)->ty=ij:=by
   intro j m hj hc
   have dk:iC gh.S w sz (C.toList.take (e.length*sz)).toArray e:=by
    have hle:e.length*sz<=C.size:=by rw[hC];exact aot _ hl
    refine⟨by simp;omega,hr,fun i j r x hi hj=>?_⟩
    obtain⟨u,hu,hp⟩:=gC i j r x hi hj
    refine⟨u,?_,hp⟩
    have h1:=(an9.1 hi).1
    have h2:j<sz:=by rw[<- hr i r hi];exact (an9.1 hj).1
    simp only[aoE,aoC,if_pos (tE h1 h2)]
    simpa using hu
   refine nV (isB:=false) (m:=m) dk lL (fun h=>by cases h) hj ?_
   simp only[aoE,aoC,if_pos hj]
   simpa using hc
  have st:=pz hW hk rfl (fun o=>o<e.length*sz) lY p s.H.length
  have hE:=xB hW hk rfl (fun o=>o<e.length*sz) lY (p:=p) hp hn (by rw[hκ];simp) s.H.length
  have lW:=Lf hW hk rfl (fun o=>o<e.length*sz) lY zT p hn (by rw[hκ];simp)
  have Px:=setRow_self w k C ty (0,0) hk
  rw[Px] at hE lW st
  rw[hκ] at st
  refine⟨_,lW,?_,hE,.inr ⟨e,rfl,?_,k,cap,C,ty,0,0,sz,hV,by simp,dn,hk,hC,hr,hl,ao9 _,?_⟩⟩
  ·exact hF.cc (H':=s.H) (lo':=s.lo) st (aoa _) (fun i hi=>⟨by simpa using hi,by simp,by simp⟩) (.inr rfl) (fun _=>.inl (.plain _ _ (.any _ fY)))
  ·rw[hV]
   have key:∀ (i j:Nat) (r:List AV) (x:AV),e[i]?=some r->r[j]?=some x->C[i*sz+j]?=some (C.getD (i*sz+j) undef)/\PR gh.S w (C.getD (i*sz+j) undef) x/\i*sz+j<e.length*sz:=by
    intro i j r x hi hj
    obtain⟨u,hu,hp⟩:=gC i j r x hi hj
    have bf:=(aoi.1 hu).1
    have:C.getD (i*sz+j) undef=u:=by
     rw[aop bf] at hu
     injection hu with hu
     simp[bf,hu]
    rw[this]
    exact⟨hu,hp,tE (an9.1 hi).1 (by rw[<- hr i r hi];exact (an9.1 hj).1)⟩
   refine .slice k 0 e.length cap sz e (fun i j=>C.getD (i*sz+j) undef) rfl hl hr (fun i j r x hi hj=>?_) (fun i j r x hi hj=>?_)
   ·obtain⟨h1,h2,h3⟩:=key i j r x hi hj
    refine⟨.inr ⟨rfl,by simpa using h3⟩,?_,h2.fw⟩
    rw[Nat.zero_add,cell_of_row w k _ C ty _ hk];exact h1
   ·exact (key i j r x hi hj).2.1.mono (fun b o h=>.inl h) (fun _ _ _=>rfl) (fun _ _ _ _ h=>h)
  ·rintro o ho (h|⟨_,h⟩)
   ·exact hS o h
   ·omega
theorem Cu(hW:aX G base s.H gh w)(hF:FR L nt gh w a s){o:Oper}{x:Operand}{y:aF}{take obj:Bool}{z:AV}{s' : AS}(ho:o.op=.move x\/o.op=.assign x)(hc:ax nt x=some y)
  (he:mz G s take obj y=some (z,some s')) (hd:∀ k,o.dst=some k->k<nt) (hL:obj=true->∀ k,o.dst=some k->k∈L) :
  ∃ v' aV w',tP P a o w v' w'/\Out G base nt L gh w a s o.dst z s' v' aV w':=by
 have cZ:(execOp a.eval o).run P w=.ok (.value (a.eval x)) w:=by rcases ho with ho|ho<;>simp[execOp,ho]
 cases y<;>simp only[mz] at he<;>try (cases he;done)
 rename_i t
 obtain⟨rfl,ht⟩:=jz hc
 change (execOp a.eval o).run P w=.ok (.value (fP a t)) w at cZ
 split at he
 ·cases he
 ·rename_i g e hT
  cases take
  ·cases he
  simp only[cond_true] at he
  cases YH:obj with
  | false =>
   rw[YH] at he
   simp only[an8] at he
   obtain⟨lL,he⟩:=ae he
   simp only[an2,an7] at he
   obtain⟨rfl,rfl⟩:=he
   obtain⟨aV,h1,h2,h3,h4⟩:=FT hW hF ht hT lL (NI o.dst) (ox _)
   refine⟨_,aV,w,.inl cZ,Out.of (s1:=s.cc t .any) (gen':=s.gen) h1 h2 h3 (aoa _) hd (.inl rfl) (fun k hk=>?_)⟩
   rw[hk] at h4
   exact h4
  | true =>
  rw[YH] at he
  simp only[cond_true] at he
  simp only[an2,an7] at he
  obtain⟨rfl,rfl⟩:=he
  have bN:=nX hF ht hT
  have fI:=fun b hb=>hW.bY (gh:=gh) b hb
  have fY:(fP a t).oneCell'=true:=by obtain⟨ad,cap,hv,_⟩:=bN;rw[hv];rfl
  have key:∃ aV,aX G base s.H aV w/\FR L nt aV w a (s.cc t .any)/\Ext s.H.length gh w aV w/\qt aV w (HQ o.dst) (fP a t) e:=by
   obtain⟨ad,cap,hv,bN⟩:=bN
   rcases bN with hz|⟨b,C,ty,sz,Po,ha,hk,hS,hb,hC,hl,hr,gC⟩
   ·refine⟨gh,hW,?_,Ext.refl _ _ _ fI,ad,cap,hv,.inl hz⟩
    exact hF.cc (touch:=fun _=>False) (H':=s.H) (lo':=s.lo) (Step.refl _ _ _ _ fI) (aoa _) (fun i _=>⟨id,id,fun _=>id⟩) (.inr rfl) (fun _=>.inl (.plain _ _ (.any _ fY)))
   ·have bf:b<w.heap.size:=(aoi.1 hb).1
    have st:=kN hW bf (HQ o.dst) s.H.length
    rw[hk] at st
    have hn:gh.κ b≠.none:=by rw[hk];simp
    refine⟨gh.o6 b (HQ o.dst),Jf hW bf _ hn (by rw[hk];simp),?_,uo hW bf (tT _) hn (by rw[hk];simp) _,ad,cap,hv,.inr ⟨b,C,ty,sz,Po,ha,by simp[Gh.o6],hS,hb,hC,hl,hr,gC⟩⟩
    exact hF.cc (H':=s.H) (lo':=s.lo) st (aoa _) (fun i hi=>⟨by simpa using hi,by simp,by simp⟩) (.inr rfl) (fun _=>.inl (.plain _ _ (.any _ fY)))
  obtain⟨aV,h1,h2,h3,h4⟩:=key
  refine⟨_,aV,w,.inl cZ,Out.of (s1:=s.cc t .any) (gen':=s.gen+1) h1 h2 h3 (ao' _) hd (.inr ⟨⟨s.gen,aoa _,rfl⟩,hL YH⟩) (fun k hk=>⟨aqt _,?_⟩)⟩
  rw[hk] at h4
  exact h4
 ·rename_i e own hT
  simp only[an2,an7] at he
  obtain⟨rfl,he⟩:=he
  cases hto:(take&&own) with
  | false=>rw[hto] at he;cases he
  | true =>
   rw[hto] at he
   simp only[cond_true,an2] at he
   subst he
   obtain⟨aV,h1,h2,h3,_,h4⟩:=uT hW hF ht hT (NI o.dst) (ox _)
   refine⟨_,aV,w,.inl cZ,Out.of (s1:=s.cc t (.slice e false)) (gen':=s.gen) h1 h2 h3 (aoa _) hd (.inl rfl) (fun k hk=>?_)⟩
   rw[hk] at h4
   have aaQ:own=true:=by cases take<;>simp_all
   subst aaQ
   exact h4
 ·cases he
 ·cases he
theorem tD{cs:List AV}{off j:Nat} : (ak off cs)[j]?=if j=off then (cs[j]?).map AV.drop else cs[j]?:=by
 unfold ak
 rw[List.getElem?_modify]
 by_cases h:off=j
 ·subst h;simp
 ·rw[if_neg (fun e=>h e.symm)]
  cases cs[j]?<;>simp[h]
theorem AL{b:Nat}{p:bC}{q:Nat->bC}{n:Nat}{cs:List AV}(hW:aX G base H gh w)(hB:gW gh n w b p q cs){off:Nat}{v:AV}(hv:cs[off]?=some v)(r:bC)(hr:r≠.outer)(hq:∀ j,q j≠.none/\q j≠.outer/\q j≠p)(aij:∀ i j,q i=q j->i=j)(m:Nat) :
  ∃ aV u,(∀ b o,aV.S b o->gh.S b o)/\Step (fun o=>o=q off) m gh w aV w/\Ext m gh w aV w/\(∀ b o,aV.S b o->b<w.heap.size)/\(∀ b,aV.κ b≠.none->base<=b/\b<w.heap.size)/\gW aV n w b p q (ak off cs) /\
   w.cell? ⟨b,off,none⟩=some u/\u.oneCell'=true/\CR aV n w r u v:=by
 have fI:=fun b hb=>hW.bY (gh:=gh) b hb
 obtain⟨hκ,hS,C,ty,hb,hC,gC⟩:=hB
 have ae0:off<cs.length:=(an9.1 hv).1
 have ae1:off<C.size:=by omega
 have hu:C[off]?=some C[off]:=aop ae1
 have cx:w.cell? ⟨b,off,none⟩=some C[off]:=by rw[cell_of_row w b off C ty _ hb,hu]
 obtain⟨h1,h2⟩:=gC off _ v hu hv
 rcases h2 with Py|⟨e,rfl,HV,b',cap,C',lZ,lo,hi,sz,iA,hk,he,gm,Mk,A9,hl,hh,hS'⟩
 ·refine⟨gh,C[off],fun _ _ h=>h,Step.refl _ _ _ _ fI,Ext.refl _ _ _ fI,hW.nW,hW.oL,⟨hκ,hS,C,ty,hb,by simp[ak];exact hC,fun j u x A4 w8=>?_⟩,cx,h1,.inl Py⟩
  rw[tD] at w8
  split at w8
  ·simp only[an0] at w8
   obtain⟨y,hy,rfl⟩:=w8
   obtain⟨k1,k2⟩:=gC j u y A4 hy
   exact⟨k1,.inl k2.dropped⟩
  ·exact gC j u x A4 w8
 ·have bf:b' < w.heap.size:=(aoi.1 gm).1
  have st:=kN hW bf r m
  rw[hk] at st
  have dn:b≠b':=by rintro rfl;rw[hκ] at hk;exact (hq off).2.2 hk.symm
  have hn:gh.κ b'≠.none:=by rw[hk];exact (hq off).1
  refine⟨gh.o6 b' r,C[off],fun _ _ h=>h,st,uo hW bf hr hn (by rw[hk];exact (hq off).2.1) m,hW.nW,?_,⟨by simp[Gh.o6,dn,hκ],hS,C,ty,hb,by simp[ak];exact hC,fun j u x A4 w8=>?_⟩,cx,h1,
   .inr ⟨e,rfl,HV,b',cap,C',lZ,lo,hi,sz,iA,by simp[Gh.o6],he,gm,Mk,A9,hl,hh,hS'⟩⟩
  ·intro b1 w6
   have jF:(if b1=b' then r else gh.κ b1)≠.none:=w6
   split at jF
   ·rename_i e;rw[e];exact hW.oL b' hn
   ·exact hW.oL b1 jF
  ·have st':=kN hW bf r n
   rw[hk] at st'
   rw[tD] at w8
   split at w8
   ·rename_i hj
    subst hj
    rw[hv] at w8
    simp only[aok,an2] at w8
    subst w8
    rw[hu] at A4;injection A4 with A4;subst A4
    exact⟨h1,.inl (.plain _ _ HV)⟩
   ·rename_i hj
    obtain⟨k1,k2⟩:=gC j u x A4 w8
    exact⟨k1,k2.mono st' (aoa _) (fun e=>hj (aij _ _ e))⟩
theorem aX.Kg{aV:Gh}{touch:bC->Prop}(hW:aX G base H gh w)(st:Step touch H.length gh w aV w'){loc:Nat}{ty:TypeId}{cs0:List AV}(hH:H[loc]?=some (.box ty cs0))(ht:∀ l,l≠loc->¬ touch (.hb l)/\∀ j,¬ touch (.hs l j))
  (hs:∀ b o,aV.S b o->b<w'.heap.size) (hk:∀ b,aV.κ b≠.none->base<=b/\b<w'.heap.size) {cs:List AV} (hB:gW aV H.length w' (aV.ρ loc) (.hb loc) (fun j=>.hs loc j) cs) (hr:cs.all (bo loc)=true) (jZ:∀ b o,aV.S b o->gh.S b o) (hlen:cs.length=cs0.length) :
  aX G base (H.set loc (.box ty cs)) aV w':=by
 have bf:loc<H.length:=(an9.1 hH).1
 refine⟨aoS hW.size st.size,hs,hk,fun g j x hx=>?_,fun l lZ ds hl=>?_,fun l lZ ds hl=>?_,fun g hg=>(hW.xf g hg).imp fun ty h=>st.len g ty _ h,hW.ko st (fun b o m h=>.inl (jZ b o h)),fun l o hl=>?_,fun l lZ ds hl=>?_⟩
 ·obtain⟨v,h1,h2,h3⟩:=hW.aZ g j x hx
  exact⟨v,(st.cell g j h3).trans h1,h2.mono st.S st.cell st.mp,st.S g j h3⟩
 ·rw[List.length_set]
  rw[api] at hl
  split at hl
  ·rename_i e
   subst e
   simp only[an2,bZ.box.injEq] at hl
   obtain⟨rfl,rfl⟩:=hl
   exact hB
  ·rename_i e
   have h:=(hW.boxes l lZ ds hl).mono st (aoa _) (ht l (apX e)).1 (ht l (apX e)).2
   rw[st.ρ l (an9.1 hl).1];exact h
 ·rw[api] at hl
  split at hl
  ·rename_i e
   subst e
   simp only[an2,bZ.box.injEq] at hl
   obtain⟨rfl,rfl⟩:=hl
   exact hr
  ·exact hW.refs l lZ ds hl
 ·rw[List.length_set]
  rw[api] at hl
  split at hl
  ·rename_i e
   subst e
   injection hl with hl
   subst hl
   trivial
  ·rename_i e
   rw[st.ρ l (an9.1 hl).1]
   exact (hW.more l o hl).mono st (aoa _) (ht l (apX e)).1 (ht l (apX e)).2
 ·rw[api] at hl
  split at hl
  ·rename_i e
   subst e
   simp only[an2,bZ.box.injEq] at hl
   obtain⟨rfl,rfl⟩:=hl
   intro hf
   have hm:=hW.types loc _ cs0 hH hf
   rw[st.ρ loc bf,hlen]
   exact st.len _ _ _ hm
  ·rename_i e
   rw[st.ρ l (an9.1 hl).1]
   exact fun hf=>st.len _ _ _ (hW.types l lZ ds hl hf)
theorem aX.xD{aV:Gh}{touch:bC->Prop}(hW:aX G base H gh w)(st:Step touch H.length gh w aV w'){loc:Nat}(bf:loc<H.length)(ht:∀ l,l≠loc->¬ touch (.hb l)/\∀ j,¬ touch (.hs l j))
  (hs:∀ b o,aV.S b o->b<w'.heap.size) (hk:∀ b,aV.κ b≠.none->base<=b/\b<w'.heap.size) {o:bZ} (zT:∀ ty cs,o≠.box ty cs) (hM:sQ aV H.length w' (aV.ρ loc) loc o)
  (jZ:∀ b o m,aV.S b o->gh.S b o\/(w'.cell? ⟨b,o,none⟩=some (.int .u8 m)->∃ C fr,w'.heap[b]?=some (.cells C ij fr))):aX G base (H.set loc o) aV w':=by
 have box:∀ {l:Nat} {ty:TypeId} {ds:List AV},(H.set loc o)[l]?=some (.box ty ds)->l≠loc/\H[l]?=some (.box ty ds):=by
  intro l ty ds hl
  rw[api] at hl
  split at hl
  ·injection hl with hl;exact absurd hl (zT ty ds)
  ·rename_i e;exact⟨apX e,hl⟩
 refine⟨aoS hW.size st.size,hs,hk,fun g j x hx=>?_,fun l lZ ds hl=>?_,fun l lZ ds hl=>?_,fun g hg=>(hW.xf g hg).imp fun ty h=>st.len g ty _ h,hW.ko st jZ,fun l o' hl=>?_,fun l lZ ds hl hf=>?_⟩
 ·obtain⟨v,h1,h2,h3⟩:=hW.aZ g j x hx
  exact⟨v,(st.cell g j h3).trans h1,h2.mono st.S st.cell st.mp,st.S g j h3⟩
 ·obtain⟨dn,hl⟩:=box hl
  rw[List.length_set,st.ρ l (an9.1 hl).1]
  exact (hW.boxes l lZ ds hl).mono st (aoa _) (ht l dn).1 (ht l dn).2
 ·exact hW.refs l lZ ds (box hl).2
 ·rw[List.length_set]
  rw[api] at hl
  split at hl
  ·rename_i e
   subst e
   injection hl with hl
   subst hl
   exact hM
  ·rename_i e
   rw[st.ρ l (an9.1 hl).1]
   exact (hW.more l o' hl).mono st (aoa _) (ht l (apX e)).1 (ht l (apX e)).2
 ·obtain⟨dn,hl⟩:=box hl
  rw[st.ρ l (an9.1 hl).1]
  exact st.len _ _ _ (hW.types l lZ ds hl hf)
theorem aX.Hi(hW:aX G base H gh w){ob:Obj}(hp:fp w w' ob){o:bZ}(zT:∀ ty cs,o≠.box ty cs)(hM:sQ (gh.bJ w.heap.size H.length) (H.length+1) w' w.heap.size H.length o) :
  aX G base (H++[o]) (gh.bJ w.heap.size H.length) w':=by
 have st:=gB hW hp
 have old:∀ {l:Nat} {o' : bZ},(H++[o])[l]?=some o'->(l<H.length/\H[l]?=some o')\/(l=H.length/\o'=o):=by
  intro l o' hl
  by_cases bf:l<H.length
  ·rw[aox bf] at hl;exact .inl ⟨bf,hl⟩
  ·rw[aoz (by omega)] at hl
   have hz:l=H.length:=by
    have:=(an9.1 hl).1
    simp at this;omega
   subst hz
   simp at hl
   exact .inr ⟨rfl,hl.symm⟩
 refine⟨aoS hW.size st.size,?_,?_,fun g j x hx=>?_,fun l lZ ds hl=>?_,fun l lZ ds hl=>?_,fun g hg=>(hW.xf g hg).imp fun ty h=>st.len g ty _ h,hW.ko st (fun b o m h=>h.elim .inl (fun h=>h.2.elim)),fun l o' hl=>?_,fun l lZ ds hl hf=>?_⟩
 ·intro b o ho
  rw[hp.size]
  rcases ho with ho|⟨_,ho⟩
  ·have:=hW.nW b o ho;omega
  ·exact ho.elim
 ·intro b hb
  rw[hp.size]
  have gm:(if b=w.heap.size then bC.hb H.length else gh.κ b)≠.none:=hb
  split at gm
  ·rename_i e
   have:=hW.size
   omega
  ·have:=hW.oL b gm;omega
 ·obtain⟨v,h1,h2,h3⟩:=hW.aZ g j x hx
  exact⟨v,(st.cell g j h3).trans h1,h2.mono st.S st.cell st.mp,st.S g j h3⟩
 ·rcases old hl with ⟨bf,hl⟩|⟨_,h⟩
  ·rw[List.length_append,apz,st.ρ l bf]
   exact (hW.boxes l lZ ds hl).mono st (ao' _) id (fun _=>id)
  ·exact absurd h.symm (zT lZ ds)
 ·rcases old hl with ⟨bf,hl⟩|⟨_,h⟩
  ·exact hW.refs l lZ ds hl
  ·exact absurd h.symm (zT lZ ds)
 ·rw[List.length_append,apz]
  rcases old hl with ⟨bf,hl⟩|⟨rfl,rfl⟩
  ·rw[st.ρ l bf]
   exact (hW.more l o' hl).mono st (ao' _) id (fun _=>id)
  ·have hρ:(gh.bJ w.heap.size H.length).ρ H.length=w.heap.size:=by simp[Gh.bJ]
   rw[hρ];exact hM
 ·rcases old hl with ⟨bf,hl⟩|⟨_,h⟩
  ·rw[st.ρ l bf]
   exact st.len _ _ _ (hW.types l lZ ds hl hf)
  ·exact absurd h.symm (zT lZ ds)
theorem GW{cs:List AV}{off:Nat}{y:AV}(h:y∈ak off cs):y∈cs\/∃ x,x∈cs/\y=x.drop:=by
 obtain⟨j,hj⟩:=aoM h
 rw[tD] at hj
 split at hj
 ·simp only[an0] at hj
  obtain⟨x,hx,rfl⟩:=hj
  exact .inr ⟨x,aoo hx,rfl⟩
 ·exact .inl (aoo hj)
theorem Dx{cs:List AV}{off loc:Nat}(h:cs.all (bo loc)=true):(ak off cs).all (bo loc)=true:=by
 refine aof.2 fun y hy=>?_
 rcases GW hy with hy|⟨x,hx,rfl⟩
 ·exact aof.1 h y hy
 ·exact oH (aof.1 h x hx)
theorem nY{n:Nat}{T:aQ}{gen:Nat}{tm:Nat->Value}{i:Nat}{v:Value}{x:AV}(hx:aG x=true)(h:CR gh n w (.sl i) v x):SR gh n nt w T gen tm i v x:=by
 cases x<;>first|exact h|(simp[aG] at hx)
theorem CR.aG{n:Nat}{p:bC}{v:Value}{x:AV}(h:CR gh n w p v x):aG x=true:=by
 rcases h with h|⟨e,rfl,_⟩
 ·cases h with
  | plain _ _ h=>cases h<;>rfl
  | full=>rfl
  | ref=>rfl
  | sref=>rfl
  | mref=>rfl
  | func=>rfl
  | iface=>rfl
  | agg=>rfl
  | tuple=>rfl
 ·rfl
theorem ki{x:AV}(h:Abs.aG x=true):bk x=none:=by cases x<;>first|rfl|(simp[Abs.aG] at h)
theorem BC{t:TypeId}(hg:l9 P t=some false){b off:Nat}{u:Value}(hc:w.cell? ⟨b,off,none⟩=some u):(Instr.loadAt t (.pointer (some ⟨b,off,none⟩))).run P w=.ok u w:=by
 simp[Instr.loadAt,Instr.sureAddr,loadVar,iv hg,hc]
theorem Ct(hW:aX G base s.H gh w)(hF:FR L nt gh w a s){o:Oper}{t:TypeId}{x:Operand}{y:aF}{take agg:Bool}{sz:Nat}{z:AV}{s' : AS}(ho:o.op=.load t x)(hc:ax nt x=some y)(hg:l9 P t=some agg)(hs:dV P t=some sz)
  (he:aq s take agg sz (y.addr G s.T)=some (z,some s')) (hd:∀ k,o.dst=some k->k<nt) :
  ∃ v' aV w',tP P a o w v' w'/\Out G base nt L gh w a s o.dst z s' v' aV w':=by
 have hv:=arg_val hW hF hc
 generalize hY:y.addr G s.T=Y at hv he
 cases Y<;>simp only[aq] at he<;>try (cases he;done)
 case eptr cs=>simp at he
 case ref loc off =>
  obtain⟨bf,qg⟩:=VR.jm (hv:VR gh s.H.length w (a.eval x) (.ref loc off))
  split at he
  ·rename_i NK cs hH
   simp only[an0,an7] at he
   obtain⟨u,hu,rfl,hn⟩:=he
   cases hq:(take&&!agg) with
   | false=>rw[hq] at hn;cases hn
   | true =>
    rw[hq] at hn
    simp only[cond_true,an2] at hn
    subst hn
    simp only[aod,ao7] at hq
    obtain⟨rfl,rfl⟩:=hq
    simp only[ab,an8,cond_true,an0] at hu
    obtain⟨u',hu,rfl⟩:=hu
    obtain⟨aV,uv,hSS,st,hE,rQ,qN,hB,cx,fY,mg⟩:=AL hW (hW.boxes loc _ cs hH) hu (NI o.dst) (ox _) (by simp) (by simp) s.H.length
    have hρ:aV.ρ loc=gh.ρ loc:=st.ρ loc bf
    have lW:aX G base (s.H.set loc (.box NK (ak off cs))) aV w:=hW.Kg st hH (by intro l hl;simp[hl]) rQ qN (by rw[hρ];exact hB) (Dx (hW.refs loc _ cs hH)) hSS (by simp[ak])
    have F0:FR L nt aV w a (s.gk ⟨s.H.set loc (.box NK (ak off cs)),loc⟩):=hF.grown st (fun i=>⟨by simp,by simp,by simp⟩) (by simp)
    refine⟨uv,aV,w,.inl ?_,Out.of (s1:=s.gk ⟨s.H.set loc (.box NK (ak off cs)),loc⟩) (gen':=s.gen) lW F0 hE (aoa _) hd (.inl (ki mg.aG)) (fun k hk=>?_)⟩
    ·simp[execOp,ho,qg,BC hg cx]
    ·rw[hk] at mg
     have:(s.gk ⟨s.H.set loc (.box NK (ak off cs)),loc⟩).H.length=s.H.length:=by simp[AS.gk]
     rw[this]
     exact nY mg.aG mg
  ·simp at he
  ·simp at he
  ·cases he
 case lref b g off =>
  obtain⟨hb,Jk,hr⟩:=(hv:_/\_/\_)
  split at he
  ·rename_i g' cs hT
   obtain⟨h0,qi⟩:=ae he
   clear he
   have DG:g=g':=by simpa [fW] using h0
   subst DG
   rename _=some (z,some s')=>he
   simp only[an0,an7] at he
   obtain⟨u,hu,rfl,hn⟩:=he
   cases hq:(take&&!agg) with
   | false=>rw[hq] at hn;cases hn
   | true =>
    rw[hq] at hn
    simp only[cond_true,an2] at hn
    subst hn
    simp only[aod,ao7] at hq
    obtain⟨rfl,rfl⟩:=hq
    simp only[ab,an8,cond_true,an0] at hu
    obtain⟨u',hu,rfl⟩:=hu
    obtain⟨k,hk,aah⟩:=uY hF hb hT
    have qg:=hr (by rw[hT];rfl) k hk
    obtain⟨aV,uv,hSS,st,hE,rQ,qN,hB,cx,fY,mg⟩:=AL hW aah hu (NI o.dst) (ox _) (by simp) (by simp) s.H.length
    have lW:aX G base s.H aV w:=hW.step st (by simp) rQ qN (fun b o _ h=>.inl (hSS b o h))
    have F0:FR L nt aV w a (s.cc b (.lbox g (ak off cs))) :=
     hF.cc (H':=s.H) (lo':=s.lo) st (aoa _) (fun i hi=>⟨by simp,by simp,by intro j e;injection e with e _;exact hi e⟩) (.inl ⟨hb,by rw[hT];rfl⟩) (fun _=>⟨by
      have h:=hF.slot b hb
      rw[hT] at h
      exact h.1,k,hk,hB⟩)
    refine⟨uv,aV,w,.inl ?_,Out.of (s1:=s.cc b (.lbox g (ak off cs))) (gen':=s.gen) lW F0 hE (aoa _) hd (.inl (ki mg.aG)) (fun k hk=>?_)⟩
    ·simp[execOp,ho,qg,BC hg cx]
    ·rw[hk] at mg
     exact nY mg.aG mg
  ·cases he
 case eref b g i zz off =>
  split at he
  ·obtain⟨_,he⟩:=ae he
   simp only[an1] at he
   obtain⟨r,_,he⟩:=he
   obtain⟨_,he⟩:=ae he
   simp at he
  ·cases he
end
end
section
section
variable {P:Program}{G:Nat->List AV}{base nt:Nat}{L:List Nat}{gh:Gh}{w w' : World}{a:Act}{s:AS}{H:ah}
theorem oQ(hW:aX G base s.H gh w)(hF:FR L nt gh w a s){x:Operand}{y:aF}(hc:ax nt x=some y)(hf:aG (y.eval G s.T)=true)(p:bC)(hp:p≠.outer) :
  ∃ aV,aX G base s.H aV w/\FR L nt aV w a (s.cI y)/\Ext s.H.length gh w aV w/\Step (fun r=>∃ t,r=.sl t) s.H.length gh w aV w/\CR aV s.H.length w p (a.eval x) (y.eval G s.T):=by
 have fI:=fun b hb=>hW.bY (gh:=gh) b hb
 have stay:s.cI y=s->VR gh s.H.length w (a.eval x) (y.eval G s.T)->∃ aV,aX G base s.H aV w/\FR L nt aV w a (s.cI y)/\Ext s.H.length gh w aV w/\Step (fun r=>∃ t,r=.sl t) s.H.length gh w aV w/\CR aV s.H.length w p (a.eval x) (y.eval G s.T):=by
  intro h1 h2
  rw[h1]
  exact⟨gh,hW,hF,Ext.refl _ _ _ fI,Step.refl _ _ _ _ fI,.inl h2⟩
 cases y with
 | tmp t =>
  obtain⟨rfl,ht⟩:=jz hc
  have hd:=cJ hW hF hc rfl hf
  simp only[aF.eval] at hf hd stay ⊢
  cases hT:s.T t with
  | slice e own =>
   cases own with
   | false =>
    rw[hT] at hd stay
    exact stay (by simp[AS.cI,hT]) hd
   | true =>
    obtain⟨aV,h1,h2,h3,h4,h5⟩:=uT hW hF ht hT p hp
    refine⟨aV,h1,?_,h3,h4.mono (fun r h=>⟨t,h⟩),h5⟩
    simpa [AS.cI,hT] using h2
  | _ =>
   rw[hT] at hd stay
   exact stay (by simp[AS.cI,hT]) hd
 | bt v =>
  refine stay rfl ?_
  cases x with
  | tmp k =>
   simp only[ax] at hc
   rcases apk (Nat.blt k nt) with hb|hb<;>rw[hb] at hc<;>simp at hc
  | const u =>
   simp only[ax,an0] at hc
   obtain⟨z,hz,h⟩:=hc
   injection h with h
   subst h
   exact jB hz
  | global g=>simp[ax] at hc
  | func f=>simp[ax] at hc
 | aZ g =>
  refine stay rfl ?_
  have:=cJ hW hF hc rfl hf
  exact this
 | fn f =>
  refine stay rfl ?_
  have:=cJ hW hF hc rfl hf
  exact this
theorem Si{b:Nat} : ({ S:=fun b' o=>gh.S b' o\/(b'=b/\(fun _=>False) o),κ:=fun b'=>if b'=b then gh.κ b else gh.κ b',ρ:=gh.ρ } : Gh)=gh:=by
 obtain⟨S,κ,ρ⟩:=gh
 congr 1
 ·funext b' o
  simp
 ·funext b'
  by_cases h:b'=b
  ·subst h;simp
  ·simp[h]
theorem lR(hW:aX G base H gh w){b:Nat}{C C' : Array Value}{ty:TypeId}{fr:Nat × Nat}(hb:w.heap[b]?=some (.cells C ty fr))(gO:C'.size=C.size)(cx:∀ o,gh.S b o->C'[o]?=C[o]?)(n:Nat) :
  Step (fun r=>r=gh.κ b) n gh w gh (w.setRow b C'):=by
 have h:=pz hW hb gO (fun _=>False) cx (gh.κ b) n
 rw[Si] at h
 exact h
theorem zm(hW:aX G base H gh w){b:Nat}{C C' : Array Value}{ty:TypeId}{fr:Nat × Nat}(hb:w.heap[b]?=some (.cells C ty fr))(gO:C'.size=C.size)(cx:∀ o,gh.S b o->C'[o]?=C[o]?)(h0:gh.κ b≠.none)(h1:gh.κ b≠.outer)(n:Nat) :
  Ext n gh w gh (w.setRow b C') :=
 ⟨(lR hW hb gO cx n).mono (fun r h=>by rw[h];exact⟨h0,h1⟩),fun _ h=>h⟩
def fy(C:Array Value)(off:Nat)(D:Array Value):Array Value:=(C.toList.take off++D.toList++C.toList.drop (off+D.toList.length)).toArray
theorem jM{C D:Array Value}{off:Nat}(h:off+D.size<=C.size)(j:Nat):(fy C off D)[j]?=if off<=j/\j<off+D.size then D[j-off]? else C[j]?:=by
 have aaI:min off C.size=off:=by omega
 unfold fy
 simp only[aoE,apg,List.length_append,List.length_take,aoC,aoU,aqP,aoX,aaI]
 by_cases h1:j<off
 ·have e1:j<off+D.size:=by omega
  rw[if_pos e1,if_pos h1,if_pos h1,if_neg (by omega)]
 ·by_cases h2:j<off+D.size
  ·rw[if_pos h2,if_neg h1,if_pos ⟨by omega,h2⟩]
  ·rw[if_neg h2,if_neg (by omega)]
   congr 1;omega
theorem dD{C D:Array Value}{off:Nat}(h:off+D.size<=C.size):(fy C off D).size=C.size:=by
 unfold fy;simp;omega
theorem wP{t:TypeId}{sz:Nat}(hs:dV P t=some sz){b off:Nat}{C:Array Value}{ty:TypeId}(hb:w.heap[b]?=some (.cells C ty (0,0))){v:Value}(hv:v.cells.size=sz)(jt:off+sz<=C.size)(fY:∀ u∈v.cells.toList,u.oneCell'=true) :
  (Instr.storeAt t (.pointer (some ⟨b,off,none⟩)) v).run P w=.ok () (w.setRow b (fy C off v.cells)):=by
 have h:=run_storeCells_at P b off ty v.cells.toList 0 C w hb (by simp;omega) fY
 simp only[aps] at h
 simp[Instr.storeAt,Instr.sureAddr,storeVar,dU hs,hv,h,fy]
theorem vq(hW:aX G base H gh w){b:Nat}{p:bC}{q:Nat->bC}{n:Nat}{cs vs:List AV}(hB:gW gh n w b p q cs){off sz:Nat}{t:TypeId}(hs:dV P t=some sz){v:Value}(ve:vs.length=sz)(ae0:off+sz<=cs.length)
  (hv:v.cells.size=sz) (cL:∀ (j:Nat) (u:Value) (x:AV),v.cells[j]?=some u->vs[j]?=some x->u.oneCell'=true/\CR gh n w (q (off+j)) u x) (hq:∀ j,q j≠p) (hp:p≠.none/\p≠.outer) (m:Nat) :
  ∃ w',(Instr.storeAt t (.pointer (some ⟨b,off,none⟩)) v).run P w=.ok () w'/\Step (fun r=>r=p) m gh w gh w'/\Ext m gh w gh w'/\w'.heap.size=w.heap.size/\gW gh n w' b p q (putAt cs off vs):=by
 obtain⟨hκ,hS,C,ty,hb,hC,gC⟩:=hB
 have lY:∀ o,gh.S b o->(fy C off v.cells)[o]?=C[o]?:=fun o ho=>(hS o ho).elim
 have A' : (fy C off v.cells).size=C.size:=dD (by omega)
 have st:=lR hW hb A' lY m
 have stn:=lR hW hb A' lY n
 have hE:=zm hW hb A' lY (by rw[hκ];exact hp.1) (by rw[hκ];exact hp.2) m
 rw[hκ] at st stn
 have jt:off+v.cells.size<=C.size:=by omega
 refine⟨_,wP hs hb hv (by omega) ?_,st,hE,by simp,hκ,hS,_,ty,setRow_heap w b C _ ty _ hb,by rw[dD jt,pv (by omega)];exact hC,fun j u x A4 w8=>?_⟩
 ·intro u hu
  obtain⟨j,hj⟩:=aoM hu
  have w7:v.cells[j]?=some u:=by simpa using hj
  have bf:j<vs.length:=by rw[ve,<- hv];exact (aoi.1 w7).1
  exact (cL j u _ w7 (an' bf)).1
 ·rw[jM jt] at A4
  rw[rX (by omega)] at w8
  have e1:v.cells.size=vs.length:=by omega
  rw[e1] at A4
  split at A4
  ·rename_i hc
   rw[if_pos hc] at w8
   obtain⟨k1,k2⟩:=cL _ u x A4 w8
   rw[show off+(j-off)=j by omega] at k2
   exact⟨k1,k2.mono stn (aoa _) (hq j)⟩
  ·rename_i hc
   rw[if_neg hc] at w8
   obtain⟨k1,k2⟩:=gC j u x A4 w8
   exact⟨k1,k2.mono stn (aoa _) (hq j)⟩
theorem tV{n:Nat}{v:Value}{x:AV}{vs:List AV}{q:Nat->bC}{off:Nat}(h:CR gh n w (q off) v x)(hc:x.cells=some vs) :
  v.cells.size=vs.length/\∀ (j:Nat) (u:Value) (y:AV),v.cells[j]?=some u->vs[j]?=some y->u.oneCell'=true/\CR gh n w (q (off+j)) u y:=by
 rcases h with h|⟨e,rfl,HV,hO⟩
 ·have hr:=rG h hc
  exact⟨hr.1,fun j u y hu hy=>⟨(hr.2 j u y hu hy).2,.inl (hr.2 j u y hu hy).1⟩⟩
 ·have e1:vs=[.slice e true]:=by simpa [AV.cells] using hc.symm
  subst e1
  have fY:=HV.fw
  have:v.cells=#[v]:=by obtain⟨b,cap,_,_,_,_,_,rfl,_⟩:=hO;rfl
  rw[this]
  refine⟨rfl,fun j u y hu hy=>?_⟩
  cases j with
  | zero=>simp at hu hy;subst hu hy;exact⟨fY,.inr ⟨e,rfl,HV,hO⟩⟩
  | succ j=>simp at hu
theorem iU{x:AV}{vs:List AV}(h:x.cells=some vs):aG x=true:=by cases x<;>first|rfl|cases h
theorem ia(s:AS)(y:aF):(s.cI y).H=s.H/\(s.cI y).gen=s.gen/\(s.cI y).lo=s.lo:=by
 cases y with
 | tmp t=>simp only[AS.cI];split<;>exact⟨rfl,rfl,rfl⟩
 | _=>exact⟨rfl,rfl,rfl⟩
theorem Li(s:AS)(y:aF)(b:Nat)(h:∀ e,s.T b≠.slice e true):(s.cI y).T b=s.T b:=by
 cases y<;>simp only[AS.cI]
 rename_i t
 split
 ·rename_i e hT
  by_cases hb:b=t
  ·subst hb;exact absurd hT (h e)
  ·simp[AS.cc,iO,hb]
 ·rfl
theorem mX(s:AS)(t:Nat)(h:∀ e,s.T t≠.slice e true):s.cI (.tmp t)=s:=by
 simp only[AS.cI]
theorem se(s:AS)(t:Nat){e:List (List AV)}(h:s.T t=.slice e true):s.cI (.tmp t)=s.cc t (.slice e false):=by
 simp only[AS.cI,h]
theorem zx(s:AS)(y:aF)(b:Nat)(X:AV)(h:∀ e,s.T b≠.slice e true)(hX:∀ e,X≠.slice e true):(s.cc b X).cI y=(s.cI y).cc b X:=by
 cases y<;>try rfl
 rename_i t
 by_cases hb:t=b
 ·subst hb
  rw[mX s t h,mX _ t (by simpa [AS.cc,iO] using hX)]
 ·have e1:(s.cc b X).T t=s.T t:=by simp[AS.cc,iO,hb]
  by_cases ho:∃ e,s.T t=.slice e true
  ·obtain⟨e,ho⟩:=ho
   rw[se s t ho,se (s.cc b X) t (by rw[e1,ho])]
   simp only[AS.cc]
   congr 1
   funext k
   simp only[iO]
   by_cases h1:k=t
   ·subst h1;simp[hb]
   ·by_cases h2:k=b
    ·subst h2;simp[h1]
    ·simp[h1,h2]
  ·have rP:∀ e,s.T t≠.slice e true:=fun e he=>ho ⟨e,he⟩
   rw[mX s t rP,mX (s.cc b X) t (by rw[e1];exact rP)]
theorem vX(s:AS)(y:aF)(c:gJ):(s.gk c).cI y=(s.cI y).gk c:=by
 cases y<;>simp only[AS.cI]
 rename_i t
 show (match s.T t with|.slice e true=>(s.gk c).cc t (.slice e false)|_=>s.gk c)=_
 cases hT:s.T t<;>try rfl
 rename_i e own
 cases own<;>rfl
theorem Out.skip{aV:Gh}{s1:AS}{d:Option Nat}(hW:aX G base s1.H aV w')(hF:FR L nt aV w' a s1)(hE:Ext s.H.length gh w aV w')(hd:∀ k,d=some k->k<nt):Out G base nt L gh w a s d .undef s1 undef aV w' :=
 Out.of (gen':=s1.gen) hW hF hE (aoa _) hd (.inl rfl) (fun k hk=>.inl VR.undef)
theorem M5{cs vs:List AV}{off:Nat}{f:AV->Bool}(h1:cs.all f=true)(h2:vs.all f=true):(putAt cs off vs).all f=true:=by
 refine aof.2 fun x hx=>?_
 unfold putAt at hx
 rcases aog.1 hx with hx|hx
 ·rcases aog.1 hx with hx|hx
  ·exact aof.1 h1 x (apx hx)
  ·exact aof.1 h2 x hx
 ·exact aof.1 h1 x (aqL hx)
theorem OH(hW:aX G base s.H gh w)(hF:FR L nt gh w a s){o:Oper}{t:TypeId}{xa xv:Operand}{ya yv:aF}{sz:Nat}{s' : AS}(ho:o.op=.store t xa xv)(KO:ax nt xa=some ya)(xr:ax nt xv=some yv)(hs:dV P t=some sz)
  (he:br s sz (ya.addr G s.T) (yv.eval G s.T)=some s') (hd:∀ k,o.dst=some k->k<nt) :
  ∃ v' aV w',tP P a o w v' w'/\Out G base nt L gh w a s o.dst .undef (s'.cI yv) v' aV w':=by
 have ha:=arg_val hW hF KO
 unfold br at he
 split at he
 ·cases he
 rename_i vs ve
 obtain⟨hlen,he⟩:=ae he
 have hlen:vs.length=sz:=by simpa [fW] using hlen
 have ND:=iU ve
 generalize hY:ya.addr G s.T=Y at ha he
 cases Y<;>simp only at he<;>try (cases he;done)
 case ref loc off =>
  obtain⟨bf,qg⟩:=VR.jm (ha:VR gh s.H.length w (a.eval xa) (.ref loc off))
  split at he
  ·rename_i NK cs hH
   obtain⟨h0,he⟩:=ae he
   injection he with he
   subst he
   simp only[aod,ao2] at h0
   obtain⟨lF,qf,wX,HU,Tk,mg⟩:=oQ hW hF xr ND (.hs loc off) (by simp)
   have hρ:lF.ρ loc=gh.ρ loc:=Tk.ρ loc bf
   obtain⟨gO,cL⟩:=tV (q:=fun j=>.hs loc j) mg ve
   obtain⟨w',cZ,wR,yB,nG,hB⟩:=vq (P:=P) qf (qf.boxes loc _ cs hH) hs hlen h0.1 (by omega) cL (by simp) (by simp) s.H.length
   have CC:aX G base (s.H.set loc (.box NK (putAt cs off vs))) lF w':=qf.Kg wR hH (by intro l hl;simp[hl]) (fun b o ho=>by rw[nG];exact qf.nW b o ho) (fun b hb=>by rw[nG];exact qf.oL b hb) hB (M5 (qf.refs loc _ cs hH) h0.2) (fun _ _ h=>h) (pv (by omega))
   have hS:=ia s yv
   have F1:FR L nt lF w' a ((s.cI yv).gk ⟨s.H.set loc (.box NK (putAt cs off vs)),loc⟩):=wX.grown (by rw[hS.1];exact wR) (fun i=>⟨by simp,by simp,by simp⟩) (by rw[hS.1];simp)
   refine⟨undef,lF,w',.inr ⟨?_,rfl⟩,?_⟩
   ·simp[execOp,ho,qg,<- hρ,cZ]
   ·rw[vX]
    exact Out.skip (s1:=(s.cI yv).gk ⟨s.H.set loc (.box NK (putAt cs off vs)),loc⟩) CC F1 (HU.trans yB (aoa _)) hd
  ·rename_i cs hH
   obtain⟨h0,he⟩:=ae he
   injection he with he
   subst he
   simp only[aod,ao2] at h0
   obtain⟨lF,qf,wX,HU,Tk,mg⟩:=oQ hW hF xr ND (.hs loc off) (by simp)
   have hρ:lF.ρ loc=gh.ρ loc:=Tk.ρ loc bf
   obtain⟨gO,cL⟩:=tV (q:=fun j=>.hs loc j) mg ve
   obtain⟨w',cZ,wR,yB,nG,hB⟩:=vq (P:=P) qf (qf.more loc _ hH:gW lF s.H.length w (lF.ρ loc) (.hb loc) (fun j=>.hs loc j) cs) hs hlen h0.1 (by omega) cL (by simp) (by simp) s.H.length
   have CC:aX G base (s.H.set loc (.cS (putAt cs off vs))) lF w':=qf.xD wR bf (by intro l hl;simp[hl]) (fun b o ho=>by rw[nG];exact qf.nW b o ho) (fun b hb=>by rw[nG];exact qf.oL b hb) (fun _ _ h=>by cases h) hB (fun _ _ _ h=>.inl h)
   have hS:=ia s yv
   have F1:FR L nt lF w' a ((s.cI yv).gk ⟨s.H.set loc (.cS (putAt cs off vs)),loc⟩):=wX.grown (by rw[hS.1];exact wR) (fun i=>⟨by simp,by simp,by simp⟩) (by rw[hS.1];simp)
   refine⟨undef,lF,w',.inr ⟨?_,rfl⟩,?_⟩
   ·simp[execOp,ho,qg,<- hρ,cZ]
   ·rw[vX]
    exact Out.skip (s1:=(s.cI yv).gk ⟨s.H.set loc (.cS (putAt cs off vs)),loc⟩) CC F1 (HU.trans yB (aoa _)) hd
  ·cases he
 case lref b g off =>
  obtain⟨hb,Jk,hr⟩:=(ha:_/\_/\_)
  split at he
  ·rename_i g' cs hT
   obtain⟨h0,he⟩:=ae he
   injection he with he
   subst he
   simp only[aod,ao2,fW,aov] at h0
   obtain⟨⟨rfl,h0⟩,_⟩:=h0
   obtain⟨k,hk,_⟩:=uY hF hb hT
   have qg:=hr (by rw[hT];rfl) k hk
   obtain⟨lF,qf,wX,HU,Tk,mg⟩:=oQ hW hF xr ND (.sc b off) (by simp)
   have hS:=ia s yv
   have T7:(s.cI yv).T b=.lbox g cs:=by rw[Li _ _ _ (by rw[hT];simp),hT]
   obtain⟨k',qN,hB1⟩:=uY wX hb T7
   have KQ:k'=k:=by rw[hk] at qN;injection qN with h;injection h with h;injection h with h;exact h.symm
   subst KQ
   rw[hS.1] at hB1
   obtain⟨gO,cL⟩:=tV (q:=fun j=>.sc b j) mg ve
   obtain⟨w',cZ,wR,yB,nG,hB⟩:=vq (P:=P) qf hB1 hs hlen h0 (by omega) cL (by simp) (by simp) s.H.length
   have CC:aX G base s.H lF w':=qf.step wR (by simp) (fun b o ho=>by rw[nG];exact qf.nW b o ho) (fun b hb=>by rw[nG];exact qf.oL b hb) (fun _ _ _ h=>.inl h)
   have F1:FR L nt lF w' a ((s.cI yv).cc b (.lbox g (putAt cs off vs))):=by
    refine wX.cc (H':=(s.cI yv).H) (lo':=(s.cI yv).lo) (by rw[hS.1];exact wR) (aoa _) (fun i hi=>⟨by simpa using hi,by simp,by simp⟩) (.inl ⟨hb,by rw[T7];rfl⟩) (fun _=>⟨?_,k',hk,?_⟩)
    ·have h:=wX.slot b hb
     rw[T7] at h
     exact h.1
    ·rw[hS.1];exact hB
   refine⟨undef,lF,w',.inr ⟨?_,rfl⟩,?_⟩
   ·simp[execOp,ho,qg,cZ]
   ·rw[zx _ _ _ _ (by rw[hT];simp) (by simp)]
    exact Out.skip (s1:=(s.cI yv).cc b (.lbox g (putAt cs off vs))) (by show aX G base (s.cI yv).H lF w';rw[hS.1];exact CC) F1 (HU.trans yB (aoa _)) hd
  ·cases he
 case eref b g i z off =>
  obtain⟨hb,Jk,hr⟩:=(ha:_/\_/\_)
  split at he
  ·rename_i g' e hT
   obtain⟨h0,Yw⟩:=ae he
   have DG:g=g':=by simpa [fW] using h0
   clear he
   subst DG
   simp only[an1] at Yw
   obtain⟨r,KW,qi⟩:=Yw
   obtain⟨h1,he3⟩:=ae qi
   injection he3 with he3
   subst he3
   simp only[aod,ao2,fW,aov] at h1
   obtain⟨⟨hrz,ae0⟩,tj⟩:=h1
   obtain⟨lF,qf,wX,HU,Tk,mg⟩:=oQ hW hF xr ND .none (by simp)
   have hS:=ia s yv
   have T7:(s.cI yv).T b=.lsl g e:=by rw[Li _ _ _ (by rw[hT];simp),hT]
   obtain⟨ad,cap,iA,bN⟩:=nX wX hb T7
   rcases bN with ⟨rfl,_⟩|⟨k,C,ty,jx,Po,rfl,hκ,hS1,Am,hC,hl,DI,gC⟩
   ·simp at KW
   have qg:=hr (by rw[hT];rfl) k _ _ iA
   have YP:jx=z:=by rw[<- hrz,DI i r KW]
   subst YP
   have aaw:i<e.length:=(an9.1 KW).1
   obtain⟨gO,cL⟩:=tV (q:=fun _=>.none) (off:=0) mg ve
   have afd:∀ (j:Nat) (x:AV),(vs.map AV.drop)[j]?=some x->∃ u,(a.eval xv).cells[j]?=some u/\PR lF.S w u x:=by
    intro j x hx
    simp only[aor,an0] at hx
    obtain⟨y,hy,rfl⟩:=hx
    have hj:j<(a.eval xv).cells.size:=by rw[gO];exact (an9.1 hy).1
    have hu:=aop hj
    refine⟨_,hu,(cL j _ y hu hy).2.dropped.ke (aof.1 tj _ (aoy.2 ⟨y,aoo hy,rfl⟩))⟩
   have jt:i*jx+off+(a.eval xv).cells.size<=C.size:=by
    have h2:(i+1)*jx<=e.length*jx:=aot _ aaw
    have h3:e.length*jx<=cap*jx:=aot _ hl
    rw[aoT] at h2
    omega
   have lY:∀ o,lF.S k o->(fy C (i*jx+off) (a.eval xv).cells)[o]?=C[o]?:=fun o ho=>(hS1 o ho).elim
   have wR:=lR qf Am (dD jt) lY s.H.length
   have yB:=zm qf Am (dD jt) lY (by rw[hκ];simp) (by rw[hκ];simp) s.H.length
   rw[hκ] at wR
   have cZ:=wP (P:=P) (w:=w) (off:=i*jx+off) hs Am (v:=a.eval xv) (by omega) (by omega) (fun u hu=>by
    obtain⟨j,hj⟩:=aoM hu
    have w7:(a.eval xv).cells[j]?=some u:=by simpa using hj
    have bf:j<vs.length:=by rw[<- gO];exact (aoi.1 w7).1
    exact (cL j u _ w7 (an' bf)).1)
   have CC:aX G base s.H lF (w.setRow k (fy C (i*jx+off) (a.eval xv).cells)):=qf.step wR (by simp) (fun b o ho=>by simpa using qf.nW b o ho) (fun b hb=>by simpa using qf.oL b hb) (fun _ _ _ h=>.inl h)
   have NB:off+(vs.map AV.drop).length<=r.length:=by simp;omega
   have F1:FR L nt lF (w.setRow k (fy C (i*jx+off) (a.eval xv).cells)) a ((s.cI yv).cc b (.lsl g (e.set i (putAt r off (vs.map AV.drop))))):=by
    refine wX.cc (H':=(s.cI yv).H) (lo':=(s.cI yv).lo) (by rw[hS.1];exact wR) (aoa _) (fun i hi=>⟨by simpa using hi,by simp,by simp⟩) (.inl ⟨hb,by rw[T7];rfl⟩) (fun _=>⟨?_,?_⟩)
    ·have h:=wX.slot b hb
     rw[T7] at h
     exact h.1
    ·refine⟨some ⟨k,0,none⟩,cap,by simpa using iA,.inr ⟨k,_,ty,jx,(by intro h0;have:=apS List.length h0;simp at this;exact Po this),rfl,hκ,hS1,setRow_heap w k C _ ty _ Am,by rw[dD jt,hC],by simpa using hl,?_,?_⟩⟩
     ·intro i' r' A9
      rw[api] at A9
      split at A9
      ·rename_i Mq
       injection A9 with A9
       subst A9
       rw[pv NB];exact hrz
      ·exact DI i' r' A9
     ·intro i' j r' x A9 hj
      rw[jM jt]
      rw[api] at A9
      split at A9
      ·rename_i Mq
       subst Mq
       injection A9 with A9
       subst A9
       rw[rX NB] at hj
       have zS:(vs.map AV.drop).length=(a.eval xv).cells.size:=by simp[gO]
       rw[zS] at hj
       by_cases hc:off<=j/\j<off+(a.eval xv).cells.size
       ·rw[if_pos hc] at hj
        rw[if_pos (by omega)]
        obtain⟨u,hu,hp⟩:=afd _ x hj
        refine⟨u,?_,hp.mono wR.S wR.cell wR.mp⟩
        rw[show i*jx+j-(i*jx+off)=j-off by omega];exact hu
       ·rw[if_neg hc] at hj
        rw[if_neg (by omega)]
        obtain⟨u,hu,hp⟩:=gC i j r x KW hj
        exact⟨u,hu,hp.mono wR.S wR.cell wR.mp⟩
      ·rename_i Mq
       have sn:j<jx:=by rw[<- DI i' r' A9];exact (an9.1 hj).1
       have dn:¬ (i*jx+off<=i' * jx+j/\i' * jx+j<i*jx+off+(a.eval xv).cells.size):=by
        rintro ⟨c1,c2⟩
        have:i=i':=by
         rcases aqD i i' with h'|h'|h'
         ·have:(i+1)*jx<=i' * jx:=aot _ h'
          rw[aoT] at this;omega
         ·exact h'
         ·have:(i' + 1)*jx<=i*jx:=aot _ h'
          rw[aoT] at this;omega
        exact Mq this
       rw[if_neg dn]
       obtain⟨u,hu,hp⟩:=gC i' j r' x A9 hj
       exact⟨u,hu,hp.mono wR.S wR.cell wR.mp⟩
   refine⟨undef,lF,w.setRow k (fy C (i*jx+off) (a.eval xv).cells),.inr ⟨?_,rfl⟩,?_⟩
   ·simp[execOp,ho,qg,cZ]
   ·rw[zx _ _ _ _ (by rw[hT];simp) (by simp)]
    exact Out.skip (s1:=(s.cI yv).cc b (.lsl g (e.set i (putAt r off (vs.map AV.drop))))) (by show aX G base (s.cI yv).H lF _;rw[hS.1];exact CC) F1 (HU.trans yB (aoa _)) hd
  ·cases he
end
end
section
section
variable {P:Program}{G:Nat->List AV}{base nt:Nat}{L:List Nat}{gh:Gh}{w w' : World}{a:Act}{s:AS}{H:ah}
theorem Ji{sz:Nat}{f:List (List AV)}(h:gG sz f=true){r:List AV}(hr:f[0]?=some r):r.length=sz:=by
 unfold gG at h
 cases f with
 | nil=>simp at hr
 | cons q f=>simp at hr;subst hr;simpa [fW] using h
theorem zJ{sz jx:Nat}{f:List (List AV)}(h:gG sz f=true)(bN:∀ (i:Nat) (r:List AV),f[i]?=some r->r.length=jx)(dn:f≠[]):jx=sz:=by
 cases f with
 | nil=>exact absurd rfl dn
 | cons q f=>rw[<- bN 0 q rfl];exact Ji h rfl
theorem BF{S:Nat->Nat->Prop}{V:Value}{f:List (List AV)}{sz:Nat}{tx:TypeId}(h:PR S w V (.slice f false))(hk:(∃ e',P.underlying tx=some (.slice e'))\/P.underlying tx=some .string)(hh:gG sz f=true) :
  ∃ news:List Value,Src P sz tx V f.length news w/\iC S w sz news.toArray f /\
   ((V=.slice none 0 0/\f=[])\/∃ b o cap,V=.slice (some ⟨b,o,none⟩) f.length cap/\f.length<=cap/\∀ j,j<f.length*sz->S b (o+j)/\w.cell? ⟨b,o+j,none⟩=news[j]?):=by
 cases h with
 | dw=>exact⟨[],⟨hk,fun _=>rfl,run_firstCells_none w sz 0 0 0,run_firstCells_none w.drew sz 0 0 0,by simp,fun _ h=>by cases h⟩,⟨by simp,fun i r h=>by simp at h,fun i j r x h=>by simp at h⟩,.inl ⟨rfl,rfl⟩⟩
 | slice b o n cap jx _ fn hn jG bN cx cL =>
  subst hn
  have gO:f≠[]->jx=sz:=fun dn=>zJ hh bN dn
  let news:List Value:=(List.range (f.length*sz)).map fun k=>(w.cell? ⟨b,o+k,none⟩).getD undef
  have hlen:news.length=f.length*sz:=by simp[news]
  have key:∀ k,k<f.length*sz->∃ u,news[k]?=some u/\w.cell? ⟨b,o+k,none⟩=some u/\u.oneCell'=true/\S b (o+k)/\∀ r x,f[k / sz]?=some r->r[k % sz]?=some x->PR S w u x:=by
   intro k hk
   obtain⟨h1,h2,h3⟩:=rA hk
   have dn:f≠[]:=by rintro rfl;simp at h1
   have hr:=an' h1
   have hlr:f[k / sz].length=sz:=by rw[bN _ _ hr,gO dn]
   have hx:=an' (show k % sz<f[k / sz].length by omega)
   obtain⟨c1,c2,c3⟩:=cx _ _ _ _ hr hx
   rw[gO dn,ap2,h3] at c1 c2
   refine⟨fn (k / sz) (k % sz),?_,c2,c3,c1,fun r x A9 oK=>cL _ _ _ _ A9 oK⟩
   simp only[news,aor,apW hk,aok,c2,apf]
  have YF:∀ j u,news[j]?=some u->w.cell? ((⟨b,o,none⟩:Addr).add j)=some u:=by
   intro j u hj
   have bf:j<f.length*sz:=by rw[<- hlen];exact (an9.1 hj).1
   obtain⟨u',h1,h2,_⟩:=key j bf
   rw[h1] at hj;injection hj with hj;subst hj
   rw[addr_add];exact h2
  refine⟨news,⟨hk,fun _=>rfl,run_firstCells_some w sz _ ⟨b,o,none⟩ f.length cap news hlen YF,run_firstCells_some w.drew sz _ ⟨b,o,none⟩ f.length cap news hlen (by simpa using YF),hlen,fun u hu=>?_⟩,⟨by simp[hlen],fun i r hr=>?_,fun i j r x hi hj=>?_⟩,.inr ⟨b,o,cap,rfl,jG,fun j hj=>?_⟩⟩
  ·obtain⟨j,hj⟩:=aoM hu
   have bf:j<f.length*sz:=by rw[<- hlen];exact (an9.1 hj).1
   obtain⟨u',h1,_,h3,_⟩:=key j bf
   rw[h1] at hj;injection hj with hj;subst hj
   exact h3
  ·rw[bN i r hr,gO (by rintro rfl;simp at hr)]
  ·have dn:f≠[]:=by rintro rfl;simp at hi
   have Ud:=(an9.1 hi).1
   have sn:j<sz:=by rw[<- gO dn,<- bN i r hi];exact (an9.1 hj).1
   obtain⟨u,h1,_,_,_,h5⟩:=key (i*sz+j) (tE Ud sn)
   refine⟨u,by simpa using h1,h5 r x ?_ ?_⟩
   ·rw[aqz,Nat.mul_add_div (by omega),Nat.div_eq_of_lt sn];simpa using hi
   ·rw[aqz,Nat.mul_add_mod,Nat.mod_eq_of_lt sn];exact hj
  ·obtain⟨u,h1,h2,_,h4,_⟩:=key j hj
   exact⟨h4,by rw[h2,h1]⟩
theorem XE{S:Nat->Nat->Prop}{q:ByteArray}{l:List UInt8}(hq:q.data.toList=l){tx:TypeId}(hk:(∃ e',P.underlying tx=some (.slice e'))\/P.underlying tx=some .string) :
  ∃ news:List Value,Src P 1 tx (.string q) l.length news w/\iC S w 1 news.toArray (l.map fun (b:UInt8)=>[AV.int .u8 b.toNat]):=by
 subst hq
 have hl:q.data.toList.length=q.size:=by simp
 refine⟨byteCells q,?_,by simp[byteCells],fun i r hr=>?_,fun i j r x hi hj=>?_⟩
 ·rw[hl]
  exact⟨hk,fun _=>rfl,firstCells_string q w,firstCells_string q w.drew,by rw[byteCells_length,apT],fun u hu=>by
   obtain⟨_,_,rfl⟩:=aoy.1 hu
   rfl⟩
 ·simp only[aor,an0] at hr
  obtain⟨y,_,rfl⟩:=hr
  rfl
 ·simp only[aor,an0] at hi
  obtain⟨y,hy,rfl⟩:=hi
  cases j with
  | succ j=>simp at hj
  | zero =>
   simp only[aoB,an2] at hj
   subst hj
   refine⟨.int .u8 y.toNat,?_,.int _ _⟩
   simp only[byteCells,aoE,aor,apT,aps,hy,aok]
theorem iC.append{S:Nat->Nat->Prop}{sz:Nat}{A B:List Value}{E F:List (List AV)}(h1:iC S w sz A.toArray E)(h2:iC S w sz B.toArray F):iC S w sz (A++B).toArray (E++F):=by
 have hA:A.length=E.length*sz:=by simpa using h1.1
 have hB:B.length=F.length*sz:=by simpa using h2.1
 refine⟨by simp[hA,hB,aoT],fun i r hi=>?_,fun i j r x hi hj=>?_⟩
 ·rw[apg] at hi
  split at hi
  ·exact h1.2.1 i r hi
  ·exact h2.2.1 _ r hi
 ·rw[apg] at hi
  split at hi
  ·obtain⟨v,hv,hp⟩:=h1.2.2 i j r x hi hj
   have:i*sz+j<A.length:=by have:=(aoi.1 hv).1;simpa using this
   refine⟨v,?_,hp⟩
   simp only[aoE] at hv ⊢
   rw[aox this];exact hv
  ·rename_i hge
   obtain⟨v,hv,hp⟩:=h2.2.2 _ j r x hi hj
   refine⟨v,?_,hp⟩
   simp only[aoE] at hv ⊢
   have e1:i*sz=E.length*sz+(i-E.length)*sz:=by rw[<- aoT];congr 1;omega
   rw[aoz (by rw[hA,e1];omega),hA,e1]
   rw[show E.length*sz+(i-E.length)*sz+j-E.length*sz=(i-E.length)*sz+j by omega];exact hv
theorem iC.ajx{S S' : Nat->Nat->Prop}{sz:Nat}{A C' : Array Value}{E:List (List AV)}{b:Nat}{ty:TypeId}{fr:Nat × Nat}(h:iC S w sz A E)(hS:∀ b o,S b o->S' b o)(hc:∀ b o,S b o->w'.cell? ⟨b,o,none⟩=w.cell? ⟨b,o,none⟩)(hm:∀ b E ck,S b 0->w.heap[b]?=some (.map E ck)->w'.heap[b]?=some (.map E ck))
  (hb:w'.heap[b]?=some (.cells C' ty fr)) (hA:∀ j,j<A.size->C'[j]?=A[j]?) (hq:∀ j,j<E.length*sz->S' b j) (cap:Nat) (jG:E.length<=cap):PR S' w' (.slice (some ⟨b,0,none⟩) E.length cap) (.slice E false):=by
 have key:∀ (i j:Nat) (r:List AV) (x:AV),E[i]?=some r->r[j]?=some x->∃ v,A[i*sz+j]?=some v/\PR S w v x/\i*sz+j<A.size/\A.getD (i*sz+j) undef=v:=by
  intro i j r x hi hj
  obtain⟨v,hv,lM⟩:=h.2.2 i j r x hi hj
  have bf:=(aoi.1 hv).1
  refine⟨v,hv,lM,bf,?_⟩
  rw[aop bf] at hv
  injection hv with hv
  simp[bf,hv]
 refine .slice b 0 E.length cap sz E (fun i j=>A.getD (i*sz+j) undef) rfl jG h.2.1 ?_ ?_
 ·intro i j r x hi hj
  obtain⟨v,hv,lM,bf,hg⟩:=key i j r x hi hj
  rw[Nat.zero_add,hg]
  refine⟨hq _ (by rw[<- h.1];exact bf),?_,lM.fw⟩
  rw[cell_of_row w' b _ C' ty fr hb,hA _ bf,hv]
 ·intro i j r x hi hj
  obtain⟨v,hv,lM,bf,hg⟩:=key i j r x hi hj
  rw[hg]
  exact lM.mono hS hc hm
structure wa (P:Program) (t e:TypeId) (sz bytes:Nat):Prop where
 ht:P.underlying t=some (.slice e)
 hi:∃ i z,P.info? e=some i/\i.zero=some z/\i.size=sz/\i.bytes=bytes/\z.cells.size=sz
 pos:0<sz
theorem grow{t tx ty e:TypeId}{sz bytes:Nat}(hT:wa P t e sz bytes){ao:Option Addr}{sLen sCap n:Nat}{olds news:List Value}{x:Value}(hold:(Builtin.firstCells sz sLen (.slice ao sLen sCap)).run P w.drew=.ok olds.toArray w.drew)
  (hol:olds.length=sLen*sz) (hs:Src P sz tx x n news w) (hg:sCap<sLen+n) (h63:sLen+n<=70368744177664) (hby:(sLen+n)*bytes<=70368744177664) :
  ∃ tU C' ,(Builtin.append_ #[t,tx] ty #[.slice ao sLen sCap,x]).run P w=.ok (.slice (some ⟨w.heap.size,0,none⟩) (sLen+n) tU) (w.drew.alloc (.cells C' e))/\sLen+n<=tU/\C'.size=tU*sz/\∀ j,j<(olds++news).toArray.size->C'[j]?=(olds++news).toArray[j]?:=by
 obtain⟨i,z,hi,hz,rfl,rfl,hzs⟩:=hT.hi
 have h:=run_append_grow_src (P:=P) w t tx ty e i z hT.ht hi hz ao sLen sCap olds hold x n news hs hg (by omega) (growslice_fits hg (by omega))
 have jG:=grownCap_ge w (sLen+n) sCap e
 refine⟨_,_,h,jG,?_,fun j hj=>?_⟩
 ·rw[Array.size_append,size_zeroCells,hzs]
  simp only[apI,List.length_append,hol,hs.newsLen]
  rw[<- aoT,<- aoT]
  congr 1;omega
 ·rw[aqw hj]
theorem room{t tx ty e e2:TypeId}{sz bytes:Nat}(hT:wa P t e sz bytes){b sLen sCap n:Nat}{news:List Value}{x:Value}{C:Array Value}{fr:Nat × Nat}(hs:Src P sz tx x n news w)(hb:w.heap[b]?=some (.cells C e2 fr))(ND:fr.2<=sLen*sz)
  (nF:sLen+n<=sCap) (jt:sLen*sz+news.length<=C.size) :
  (Builtin.append_ #[t,tx] ty #[.slice (some ⟨b,0,none⟩) sLen sCap,x]).run P w=.ok (.slice (some ⟨b,0,none⟩) (sLen+n) sCap) (w.setRow b (fy C (sLen*sz) news.toArray)):=by
 obtain⟨i,z,hi,hz,rfl,rfl,hzs⟩:=hT.hi
 have jN:=run_storeCells_atF P b (sLen*i.size) e2 fr news 0 C w hb (by simpa using ND) (by simpa using jt) hs.one
 simp only[aps] at jN
 rcases hs.kind with ⟨e',hk⟩|hk<;>simp[Builtin.append_,run_underlying hT.ht,run_underlying hk,sizeOf,typeInfo,hi,hs.len,nF,hs.cells,Addr.add_lit,jN,fy]
theorem CR.given(hW:aX G base s.H gh w)(hF:FR L nt gh w a s){v:Value}{e:List (List AV)}{own:Bool}(h:CR gh s.H.length w .ret v (.slice e own))(p:bC)(hp:p≠.outer) :
  ∃ aV,aX G base s.H aV w/\FR L nt aV w a s/\Ext s.H.length gh w aV w/\CR aV s.H.length w p v (.slice e own):=by
 have fI:=fun b hb=>hW.bY (gh:=gh) b hb
 rcases h with hv|⟨e',heq,HV,b,cap,C,ty,lo,hi,sz,iA,hk,he,hb,hC,hr,hl,hh,hS⟩
 ·exact⟨gh,hW,hF,Ext.refl _ _ _ fI,.inl hv⟩
 ·injection heq with h1 h2
  subst h1 h2
  have bf:b<w.heap.size:=(aoi.1 hb).1
  have st:=kN hW bf p s.H.length
  rw[hk] at st
  have hn:gh.κ b≠.none:=by rw[hk];simp
  exact⟨gh.o6 b p,Jf hW bf p hn (by rw[hk];simp),hF.grown (H':=s.H) (lo':=s.lo) st (fun i=>⟨by simp,by simp,by simp⟩) (aoa _),uo hW bf hp hn (by rw[hk];simp) _,.inr ⟨e,rfl,HV,b,cap,C,ty,lo,hi,sz,iA,by simp[Gh.o6],he,hb,hC,hr,hl,hh,hS⟩⟩
theorem Iv{n:Nat}{tx:TypeId}{sz:Nat}{x:Value}{news:List Value}(h:Src P sz tx x n news w):(Builtin.firstCells sz n x).run P w.drew=.ok news.toArray w.drew:=h.cellsD
theorem Ik(hW:aX G base s.H gh w)(hF:FR L nt gh w a s){t tx ty e:TypeId}{sz bytes:Nat}(hT:wa P t e sz bytes){V X:Value}{E F:List (List AV)}{news:List Value}
  (h:CR gh s.H.length w .ret V (.slice E true)) (hs:Src P sz tx X F.length news w) (dk:iC gh.S w sz news.toArray F) (jt:cF sz bytes E F=true) {isB:Bool} (lL:kD isB (E++F)=true) (Ph:isB=true->e=ij) (dn:F≠[]) (p:bC) (hp:p≠.outer) :
  ∃ v' aV w',(Builtin.append_ #[t,tx] ty #[V,X]).run P w=.ok v' w'/\aX G base s.H aV w'/\FR L nt aV w' a s/\Ext s.H.length gh w aV w'/\CR aV s.H.length w' p v' (.slice (E++F) true):=by
 simp only[cF,aod,ao2] at jt
 obtain⟨⟨⟨w6,jF⟩,hE⟩,_⟩:=jt
 have hFl:0<F.length:=aqQ.2 dn
 have HV:PR gh.S w V (.slice E false):=by
  rcases h with h|⟨e',heq,HV,_⟩
  ·exact (VR.dropped h).iF
  ·injection heq with h1;subst h1;exact HV
 obtain⟨olds,Pw,YI,Jo⟩:=BF (P:=P) (tx:=t) (sz:=sz) HV (.inl ⟨_,hT.ht⟩) hE
 have hol:olds.length=E.length*sz:=Pw.newsLen
 have dA:=YI.append dk
 have new:∀ ao cap,V=.slice ao E.length cap->cap<E.length+F.length->∃ v' aV w',(Builtin.append_ #[t,tx] ty #[V,X]).run P w=.ok v' w'/\aX G base s.H aV w'/\FR L nt aV w' a s/\Ext s.H.length gh w aV w'/\CR aV s.H.length w' p v' (.slice (E++F) true):=by
  intro ao cap hV bf
  subst hV
  obtain⟨tU,C',cZ,jG,Mk,su⟩:=grow (P:=P) (ty:=ty) hT (Iv Pw) hol hs bf jF w6
  have mH:fp w (w.drew.alloc (.cells C' e)) (.cells C' e):=.drew w _
  have st:=ig hW mH hp (fun o=>o<(E++F).length*sz) s.H.length
  have lW:=hW.alloc mH hp (fun o=>o<(E++F).length*sz) (fun k m hk hc=>by
   rw[cell_of_row _ _ k _ _ _ mH.new,su k (by rw[dA.1];exact hk)] at hc
   have:=nV dA lL Ph hk hc
   subst this
   exact⟨C',(0,0),mH.new⟩)
  have lM:=dA.slice (gh:=gh) rfl mH (p:=p) hW.nW su (q:=fun o=>o<(E++F).length*sz) (fun j hj=>hj) tU (by rw[List.length_append];exact jG)
  refine⟨_,_,_,cZ,lW,hF.grown (H':=s.H) (lo':=s.lo) st (fun i=>⟨id,id,fun _=>id⟩) (aoa _),mP hW mH hp _ _,.inr ⟨E++F,rfl,?_,?_⟩⟩
  ·have e1:E.length+F.length=(E++F).length:=by rw[List.length_append]
   rw[e1];exact lM
  ·refine⟨w.heap.size,tU,C',e,0,0,sz,by rw[List.length_append],by simp[Gh.alloc],by simp[dn],mH.new,Mk,dA.2.1,by rw[List.length_append];exact jG,ao9 _,?_⟩
   rintro o ho (hs|⟨_,hs⟩)
   ·have:=hW.nW _ _ hs;omega
   ·omega
 rcases h with h|⟨e',heq,_,b,cap,C,lZ,lo,hi,jx,iA,hk,he,hb,hC,hr,hl,hh,hS⟩
 ·cases h with
  | plain _ _ h=>cases h
  | full ao k _ h =>
   have hk:k=E.length:=by cases h with
    | dw=>rfl
    | slice _ _ _ _ _ _ _ hn=>exact hn.symm
   subst hk
   exact new ao E.length rfl (by omega)
 ·injection heq with h1
  subst h1
  by_cases bf:cap<E.length+F.length
  ·exact new _ cap iA bf
  ·subst iA
   have gO:jx=sz:=zJ hE hr he
   subst gO
   have nF:E.length+F.length<=cap:=by omega
   have jt:E.length*jx+news.length<=C.size:=by rw[hs.newsLen,hC,<- aoT];exact aot _ nF
   have cZ:=room (P:=P) (ty:=ty) hT hs hb hh nF jt
   have lG:E.length*jx+news.toArray.size<=C.size:=by simpa using jt
   have hold:∀ o,gh.S b o->(fy C (E.length*jx) news.toArray)[o]?=C[o]?:=by
    intro o ho
    have:o<E.length*jx:=by
     rcases apL o (E.length*jx) with h|h
     ·exact h
     ·exact absurd ho (hS o h)
    rw[jM lG,if_neg (by omega)]
   have st:=pz hW hb (dD lG) (fun o=>o<(E++F).length*jx) hold p s.H.length
   have hn:gh.κ b≠.none:=by rw[hk];simp
   have hE':=xB hW hb (dD lG) (fun o=>o<(E++F).length*jx) hold hp hn (by rw[hk];simp) s.H.length
   have Uk:∀ j,j<(olds++news).toArray.size->(fy C (E.length*jx) news.toArray)[j]?=(olds++news).toArray[j]?:=by
    intro j hj
    have al6:news.length=F.length*jx:=hs.newsLen
    simp only[apI,List.length_append] at hj
    rw[jM lG]
    simp only[aoE,apI]
    rw[apg]
    split
    ·rw[if_neg (by omega),hol]
    ·rename_i lY
     have w7:j<E.length*jx:=by omega
     rw[if_pos (by omega)]
     rcases Jo with ⟨_,Ny⟩|⟨b2,o2,adJ,hV2,_,s9⟩
     ·exact absurd Ny he
     ·injection hV2 with h1 h2 h3
      injection h1 with h1
      injection h1 with h1 h4
      subst h1 h4
      have:=(s9 j w7).2
      rw[Nat.zero_add,cell_of_row w b j C lZ _ hb] at this
      exact this
   have Mv:∀ k m,k<(E++F).length*jx->(fy C (E.length*jx) news.toArray)[k]?=some (.int .u8 m)->lZ=ij:=by
    intro k m hk hc
    rw[Uk k (by rw[dA.1];exact hk)] at hc
    refine nV dA lL (fun hB=>?_) hk hc
    subst hB
    cases E with
    | nil=>exact absurd rfl he
    | cons r0 E0 =>
     have KV:∃ m0,r0=[.int .u8 m0]:=by
      have:mc (r0 :: E0++F)=true:=lL
      simp only[mc,apu,ao6,aod] at this
      have h1:=this.1
      split at h1
      ·exact⟨_,rfl⟩
      ·cases h1
     obtain⟨m0,rfl⟩:=KV
     rcases Jo with ⟨_,Ny⟩|⟨b2,o2,adJ,hV2,_,s9⟩
     ·cases Ny
     ·injection hV2 with h1 h2 h3
      injection h1 with h1
      injection h1 with h1 h4
      subst h1 h4
      have h5:=hr 0 _ rfl
      simp only[apz] at h5
      obtain⟨v,hv,hp⟩:=YI.2.2 0 0 _ _ rfl rfl
      cases hp
      simp only[aoE,aqA,Nat.zero_add] at hv
      have h6:=s9 0 (by simp;omega)
      rw[Nat.zero_add,hv] at h6
      obtain⟨C2,fr2,h7⟩:=hW.bytes _ _ _ h6.1 h6.2
      rw[hb] at h7
      injection h7 with h7
      injection h7
   have lW:=Lf hW hb (dD lG) (fun o=>o<(E++F).length*jx) hold Mv p hn (by rw[hk];simp)
   have zy:=st
   rw[hk] at st
   have qk:news.length=F.length*jx:=hs.newsLen
   refine⟨_,_,_,cZ,lW,hF.grown (H':=s.H) (lo':=s.lo) st (fun i=>⟨by simp,by simp,by simp⟩) (aoa _),hE',.inr ⟨E++F,rfl,?_,?_⟩⟩
   ·rw[<- List.length_append]
    refine dA.ajx st.S st.cell st.mp (setRow_heap w b C _ lZ _ hb) (fun j hj=>?_) (fun j hj=>.inr ⟨rfl,hj⟩) cap (by rw[List.length_append];exact nF)
    simp only[apI,List.length_append] at hj
    rw[jM lG]
    simp only[aoE,apI]
    rw[apg]
    split
    ·rw[if_neg (by omega),hol]
    ·rename_i lY
     have w7:j<E.length*jx:=by omega
     rw[if_pos (by omega)]
     rcases Jo with ⟨_,Ny⟩|⟨b2,o2,adJ,hV2,_,s9⟩
     ·exact absurd Ny he
     ·injection hV2 with h1 h2 h3
      injection h1 with h1
      injection h1 with h1 h4
      subst h1 h4
      have:=(s9 j w7).2
      rw[Nat.zero_add,cell_of_row w b j C lZ _ hb] at this
      exact this
   ·refine⟨b,cap,_,lZ,lo,hi,jx,by rw[List.length_append],by simp,by simp[he],setRow_heap w b C _ lZ _ hb,by rw[dD lG,hC],dA.2.1,by rw[List.length_append];exact nF,?_,?_⟩
    ·rw[List.length_append,aoT];exact aoS hh (Nat.le_add_right _ _)
    ·rintro o ho (rQ|⟨_,rQ⟩)
     ·exact hS o (by rw[List.length_append,aoT] at ho;omega) rQ
     ·omega
end
end
section
section
variable {P:Program}{G:Nat->List AV}{base nt:Nat}{L:List Nat}{gh:Gh}{w w' : World}{a:Act}{s:AS}{H:ah}
theorem LA(hW:aX G base s.H gh w)(hF:FR L nt gh w a s){t tx ty e:TypeId}{sz bytes:Nat}(hT:wa P t e sz bytes){t0:Nat}{X:Value}{E F:List (List AV)}{news:List Value}
  (h:qt gh w (.bx t0) (fP a t0) E) (hs:Src P sz tx X F.length news w) (dk:iC gh.S w sz news.toArray F) (jt:cF sz bytes E F=true) (d:Option Nat) :
  ∃ v' aV w',(Builtin.append_ #[t,tx] ty #[fP a t0,X]).run P w=.ok v' w'/\aX G base s.H aV w'/\FR L nt aV w' a (s.cc t0 .any)/\Ext s.H.length gh w aV w'/\qt aV w' (HQ d) v' (E++F):=by
 simp only[cF,aod,ao2] at jt
 obtain⟨⟨⟨w6,jF⟩,hE⟩,hFo⟩:=jt
 have fI:=fun b hb=>hW.bY (gh:=gh) b hb
 have hdo:=tT d
 obtain⟨i,z,hi,_,rfl,_⟩:=hT.hi
 have fY:(fP a t0).oneCell'=true:=by obtain⟨ad,cap,hv,_⟩:=h;rw[hv];rfl
 have aet:∀ {aV:Gh} {w' : World} {n gen:Nat} {T:aQ},SR aV n nt w' T gen (fP a) t0 (fP a t0) .any:=fun {_ _ _ _ _}=>(.inl (.plain _ _ (.any _ fY)):CR _ _ _ _ _ _)
 have stay:FR L nt gh w a (s.cc t0 .any):=hF.cc (touch:=fun _=>False) (H':=s.H) (lo':=s.lo) (Step.refl _ _ _ _ fI) (aoa _) (fun i _=>⟨id,id,fun _=>id⟩) (.inr rfl) (fun _=>aet)
 have new:∀ ao cap olds,fP a t0=.slice ao E.length cap->cap<E.length+F.length->Src P i.size t (.slice ao E.length cap) E.length olds w->iC gh.S w i.size olds.toArray E ->
   ∃ v' aV w',(Builtin.append_ #[t,tx] ty #[fP a t0,X]).run P w=.ok v' w'/\aX G base s.H aV w'/\FR L nt aV w' a (s.cc t0 .any)/\Ext s.H.length gh w aV w'/\qt aV w' (HQ d) v' (E++F):=by
  intro ao cap olds hV bf Pw YI
  obtain⟨tU,C',cZ,jG,Mk,su⟩:=grow (P:=P) (ty:=ty) hT Pw.cellsD Pw.newsLen hs bf jF w6
  have dA:=YI.append dk
  have mH:fp w (w.drew.alloc (.cells C' e)) (.cells C' e):=.drew w _
  have st:=ig hW mH hdo (fun _=>False) s.H.length
  have lW:=hW.alloc mH hdo (fun _=>False) (fun _ _ h=>h.elim)
  rw[hV]
  have F0:FR L nt (gh.alloc w.heap.size (HQ d) fun _=>False) (w.drew.alloc (.cells C' e)) a (s.cc t0 .any) :=
   stay.grown (H':=s.H) (lo':=s.lo) st (fun i=>⟨id,id,fun _=>id⟩) (aoa _)
  refine⟨_,_,_,cZ,lW,F0,mP hW mH hdo _ _,some ⟨w.heap.size,0,none⟩,tU,by rw[List.length_append],.inr ⟨w.heap.size,C',e,i.size,?_,rfl,by simp[Gh.alloc],?_,mH.new,Mk,by rw[List.length_append];exact jG,dA.2.1,?_⟩⟩
  ·intro h0
   have:=apS List.length h0
   simp at this
   simp[this] at bf
  ·rintro o (ho|⟨_,ho⟩)
   ·have:=hW.nW _ o ho;omega
   ·exact ho
  ·intro k j r x hk hj
   obtain⟨v,hv,hp⟩:=dA.2.2 k j r x hk hj
   refine⟨v,?_,hp.mono st.S st.cell st.mp⟩
   rw[su _ (aoi.1 hv).1,hv]
 obtain⟨ao,cap,hV,⟨rfl,aez,yI⟩|⟨b,C,lZ,jx,dn,ha,hk,hS,hb,hC,hl,hr,gC⟩⟩:=h
 ·subst aez
  have Pw:Src P i.size t (.slice ao 0 0) 0 [] w:=by
   refine⟨.inl ⟨_,hT.ht⟩,fun _=>rfl,?_,?_,by simp,fun _ h=>by cases h⟩
   ·cases ao with
    | none=>exact run_firstCells_none w _ 0 0 0
    | some ad=>exact run_firstCells_some w _ 0 ad 0 0 [] (by simp) (fun j v h=>by simp at h)
   ·cases ao with
    | none=>exact run_firstCells_none w.drew _ 0 0 0
    | some ad=>exact run_firstCells_some w.drew _ 0 ad 0 0 [] (by simp) (fun j v h=>by simp at h)
  cases F with
  | nil =>
   have hn:news=[]:=by have:=hs.newsLen;simp at this;exact this
   subst hn
   refine⟨_,gh,w,?_,hW,stay,Ext.refl _ _ _ fI,ao,0,rfl,.inl ⟨rfl,rfl,yI⟩⟩
   rw[hV]
   exact run_append_nothing w t tx ty e i hT.ht hi ao 0 0 (aoa _) X hs
  | cons f F=>exact new ao 0 [] hV (by simp) Pw ⟨by simp,fun i r h=>by simp at h,fun i j r x h=>by simp at h⟩
 ·subst ha
  have gO:jx=i.size:=zJ hE hr dn
  subst gO
  have hEC:E.length*i.size<=C.size:=by rw[hC];exact aot _ hl
  have uA:(C.toList.take (E.length*i.size)).length=E.length*i.size:=by simp;omega
  have YI:iC gh.S w i.size (C.toList.take (E.length*i.size)).toArray E:=by
   refine⟨by simp;omega,hr,fun k j r x hk hj=>?_⟩
   obtain⟨u,hu,hp⟩:=gC k j r x hk hj
   refine⟨u,?_,hp⟩
   have h1:=(an9.1 hk).1
   have h2:j<i.size:=by rw[<- hr k r hk];exact (an9.1 hj).1
   simp only[aoE,aoC,if_pos (tE h1 h2)]
   simpa using hu
  have Pp:∀ u∈C.toList.take (E.length*i.size),u.oneCell'=true:=by
   intro u hu
   obtain⟨k,hk⟩:=aoM hu
   have bf:k<E.length*i.size:=by rw[<- uA];exact (an9.1 hk).1
   obtain⟨h1,h2,h3⟩:=rA bf
   have KV:=an' h1
   have yK:=an' (show k % i.size<E[k / i.size].length by rw[hr _ _ KV];exact h2)
   obtain⟨u',zU,hp⟩:=YI.2.2 _ _ _ _ KV yK
   rw[h3] at zU
   simp only[aoE] at zU
   rw[hk] at zU
   injection zU with zU
   subst zU
   exact hp.fw
  have cx:∀ j u,(C.toList.take (E.length*i.size))[j]?=some u->w.cell? ((⟨b,0,none⟩:Addr).add j)=some u:=by
   intro j u hj
   rw[addr_add,Nat.zero_add,cell_of_row w b j C lZ _ hb]
   rw[aoC] at hj
   split at hj
   ·simpa using hj
   ·cases hj
  have Pw:Src P i.size t (.slice (some ⟨b,0,none⟩) E.length cap) E.length (C.toList.take (E.length*i.size)) w:=.ofSlice w hT.ht ⟨b,0,none⟩ E.length cap _ uA cx Pp
  by_cases bf:cap<E.length+F.length
  ·exact new _ cap _ hV bf Pw YI
  ·have nF:E.length+F.length<=cap:=by omega
   have jt:E.length*i.size+news.length<=C.size:=by rw[hs.newsLen,hC,<- aoT];exact aot _ nF
   have cZ:=room (P:=P) (ty:=ty) hT hs hb (ao9 _) nF jt
   have lG:E.length*i.size+news.toArray.size<=C.size:=by simpa using jt
   have lY:∀ o,gh.S b o->(fy C (E.length*i.size) news.toArray)[o]?=C[o]?:=fun o ho=>(hS o ho).elim
   have st:=pz hW hb (dD lG) (fun _=>False) lY (HQ d) s.H.length
   have hn:gh.κ b≠.none:=by rw[hk];simp
   have hE':=xB hW hb (dD lG) (fun _=>False) lY hdo hn (by rw[hk];simp) s.H.length
   have lW:=Lf hW hb (dD lG) (fun _=>False) lY (fun _ _ h=>h.elim) (HQ d) hn (by rw[hk];simp)
   rw[hk] at st
   have F0:=hF.cc (t:=t0) (X:=.any) (H':=s.H) (lo':=s.lo) st (aoa _) (fun i hi=>⟨by simpa using hi,by simp,by simp⟩) (.inr rfl) (fun _=>aet)
   rw[hV]
   have dA:=YI.append dk
   refine⟨_,_,_,cZ,lW,F0,hE',some ⟨b,0,none⟩,cap,by rw[List.length_append],.inr ⟨b,_,lZ,i.size,by simp[dn],rfl,by simp,?_,setRow_heap w b C _ lZ _ hb,by rw[dD lG,hC],by rw[List.length_append];exact nF,dA.2.1,?_⟩⟩
   ·rintro o (ho|⟨_,ho⟩)
    ·exact hS o ho
    ·exact ho
   ·intro k j r x qN hj
    obtain⟨v,hv,hp⟩:=dA.2.2 k j r x qN hj
    refine⟨v,?_,hp.mono st.S st.cell st.mp⟩
    rw[jM lG]
    simp only[aoE,apI] at hv ⊢
    rw[apg,uA] at hv
    have qk:news.length=F.length*i.size:=hs.newsLen
    split at hv
    ·rename_i h1
     rw[if_neg (by omega)]
     rw[aoC,if_pos h1] at hv
     simpa using hv
    ·rename_i h1
     have h2:=(an9.1 hv).1
     rw[if_pos (by omega)]
     exact hv
theorem sf(hW:aX G base s.H gh w)(hF:FR L nt gh w a s){x:Operand}{y:aF}(hc:ax nt x=some y){sz:Nat}{f:List (List AV)}(he:dm sz (y.eval G s.T)=some f)(hh:gG sz f=true){tx:TypeId}
  (hk:(∃ e',P.underlying tx=some (.slice e'))\/P.underlying tx=some .string):∃ news,Src P sz tx (a.eval x) f.length news w/\iC gh.S w sz news.toArray f:=by
 generalize hY:y.eval G s.T=Y at he
 cases Y<;>simp only[dm] at he<;>try (cases he;done)
 ·rename_i l
  obtain⟨h0,h1⟩:=ae he
  have h0:sz=1:=by simpa [fW] using h0
  subst h0
  injection h1 with h1
  subst h1
  obtain⟨q,hq,hl⟩:=(cJ hW hF hc hY rfl).jn
  rw[hq,aoA]
  exact XE hl hk
 ·rename_i el own
  injection he with he
  subst he
  obtain⟨news,h1,h2,_⟩:=BF (P:=P) (tx:=tx) (sz:=sz) (cJ hW hF hc hY rfl).iF hk hh
  exact⟨news,h1,h2⟩
theorem gq{o:Oper}{c:Call}{x y:Operand}{t u:TypeId}(ho:o.op=.call c)(iE:c.callee=.builtin .append)(ft:c.args.toList=[x,y])(kX:c.argTypes.toList=[t,u]){v:Value}
  (cZ:(Builtin.append_ #[t,u] o.type #[a.eval x,a.eval y]).run P w=.ok v w'):(execOp a.eval o).run P w=.ok (.value v) w':=by
 have e1:c.args=#[x,y]:=by apply aqm;simpa using ft
 have e2:c.argTypes=#[t,u]:=by apply aqm;simpa using kX
 unfold execOp
 simp only[ho,resolve,iE,e1,e2,invoke,builtin,Sem.run_bind,Sem.run_pure,Result.andThen_ok,aqr,aoh,aol,cZ]
theorem Hy{S:Nat->Nat->Prop}{V:Value}{e:List (List AV)}(h:PR S w V (.slice e false)):∃ ao cap,V=.slice ao e.length cap/\e.length<=cap:=by
 cases h with
 | dw=>exact⟨none,0,rfl,aoa _⟩
 | slice b o n cap sz _ _ hn jG=>subst hn;exact⟨_,cap,rfl,jG⟩
theorem L1(hW:aX G base s.H gh w)(hF:FR L nt gh w a s){o:Oper}{c:Call}{x y:Operand}{t u e:TypeId}{sz bytes:Nat}{yx yy:aF}{isB wr:Bool}{z:AV}{s' : Option AS}
  (ho:o.op=.call c) (iE:c.callee=.builtin .append) (ft:c.args.toList=[x,y]) (kX:c.argTypes.toList=[t,u]) (hT:wa P t e sz bytes) (Ph:isB=true->e=ij) (hu:(∃ e',P.underlying u=some (.slice e'))\/P.underlying u=some .string)
  (dR:ax nt x=some yx) (yD:ax nt y=some yy) (he:dG G s isB wr sz bytes yx yy=some (z,s')) (hd:∀ k,o.dst=some k->k<nt) (hL:wr=true->∀ k,o.dst=some k->k∈L) :
  ∃ v' aV w',tP P a o w v' w'/\Out G base nt L gh w a s o.dst z (s'.getD s) v' aV w':=by
 have fI:=fun b hb=>hW.bY (gh:=gh) b hb
 have core:∀ (s1:AS) (lF:Gh) (el:List (List AV)) (own:Bool),s1.H=s.H->aX G base s1.H lF w->FR L nt lF w a s1->Ext s.H.length gh w lF w->(∀ b o,gh.S b o->lF.S b o) ->
   CR lF s1.H.length w .ret (a.eval x) (.slice el own)->aC isB sz bytes (.slice el own) (yy.eval G s.T)=some z ->
   ∃ v' aV w',tP P a o w v' w'/\Out G base nt L gh w a s o.dst z s1 v' aV w':=by
  intro s1 lF el own hH qf wX HU Pm mg wZ
  simp only[aC,an1] at wZ
  obtain⟨f,hf,wZ⟩:=wZ
  cases f with
  | nil =>
   simp only[an2] at wZ
   subst wZ
   obtain⟨news,hs,hr⟩:=sf (P:=P) hW hF yD hf rfl hu
   have hn:news=[]:=by have:=hs.newsLen;simp at this;exact this
   subst hn
   obtain⟨Je,CC,F1,yB,O0⟩:=mg.given qf wX (NI o.dst) (ox _)
   obtain⟨ao,cap,hV,hle⟩:=Hy (w:=w) (mg.dropped).iF
   obtain⟨i,z,hi,_,rfl,_⟩:=hT.hi
   refine⟨a.eval x,Je,w,.inl (gq ho iE ft kX ?_),Out.of (s1:=s1) (gen':=s1.gen) CC F1 (HU.trans yB (by rw[hH];exact aoa _)) (aoa _) hd (.inl rfl) (fun k hk=>?_)⟩
   ·rw[hV]
    exact run_append_nothing w t u o.type e i hT.ht hi ao _ cap hle _ hs
   ·rw[hk] at O0
    exact O0
  | cons f0 fr =>
   obtain⟨h0,wZ⟩:=ae wZ
   injection wZ with wZ
   subst wZ
   simp only[aod] at h0
   obtain⟨⟨rfl,jt⟩,lL⟩:=h0
   have hh:gG sz (f0 :: fr)=true:=by simp only[cF,aod] at jt;exact jt.2
   obtain⟨news,hs,hr⟩:=sf (P:=P) hW hF yD hf hh hu
   have hr1:iC lF.S w sz news.toArray (f0 :: fr):=⟨hr.1,hr.2.1,fun i j r x hi hj=>by
    obtain⟨v,hv,hp⟩:=hr.2.2 i j r x hi hj
    exact⟨v,hv,hp.mono Pm (fun _ _ _=>rfl) (fun _ _ _ _ h=>h)⟩⟩
   obtain⟨v',Je,w2,cZ,CC,F1,yB,O0⟩:=Ik (P:=P) (ty:=o.type) qf wX hT mg hs hr1 jt lL Ph (by simp) (NI o.dst) (ox _)
   refine⟨v',Je,w2,.inl (gq ho iE ft kX cZ),Out.of (s1:=s1) (gen':=s1.gen) CC F1 (HU.trans yB (by rw[hH];exact aoa _)) (aoa _) hd (.inl rfl) (fun k hk=>?_)⟩
   rw[hk] at O0
   exact O0
 have S5:∀ (t0:Nat) (el f:List (List AV)),x=.tmp t0->t0<nt->qt gh w (.bx t0) (fP a t0) el->dm sz (yy.eval G s.T)=some f->cF sz bytes el f=true->wr=true ->
   ∃ v' aV w',tP P a o w v' w'/\Out G base nt L gh w a s o.dst (.lsl s.gen (el++f)) { s.cc t0 .any with gen:=s.gen+1 } v' aV w':=by
  intro t0 el f hx ht bN hf jt DK
  have hh:gG sz f=true:=by simp only[cF,aod] at jt;exact jt.2
  obtain⟨news,hs,hr⟩:=sf (P:=P) hW hF yD hf hh hu
  obtain⟨v',Je,w2,cZ,CC,F1,yB,YK⟩:=LA (P:=P) (ty:=o.type) hW hF hT bN hs hr jt o.dst
  have hxe:a.eval x=fP a t0:=by rw[hx];rfl
  refine⟨v',Je,w2,.inl (gq ho iE ft kX (by rw[hxe];exact cZ)),Out.of (s1:=s.cc t0 .any) (gen':=s.gen+1) CC F1 yB (ao' _) hd (.inr ⟨⟨s.gen,aoa _,rfl⟩,hL DK⟩) (fun k hk=>⟨aqt _,?_⟩)⟩
  rw[hk] at YK
  exact YK
 cases yx with
 | tmp t0 =>
  obtain⟨rfl,ht⟩:=jz dR
  simp only[dG] at he
  split at he
  ·rename_i g el O2
   simp only[an1] at he
   obtain⟨f,hf,he⟩:=he
   obtain⟨h0,he⟩:=ae he
   simp only[an2,an7] at he
   obtain⟨rfl,rfl⟩:=he
   simp only[aod] at h0
   exact S5 t0 el f rfl ht (nX hF ht O2) hf h0.2 h0.1
  ·rename_i el own O2
   cases DK:wr with
   | true =>
    rw[DK] at he
    simp only[cond_true,an1] at he
    obtain⟨f,hf,he⟩:=he
    obtain⟨h0,he⟩:=ae he
    simp only[an2,an7] at he
    obtain⟨rfl,rfl⟩:=he
    simp only[aod,aqp] at h0
    obtain⟨⟨rfl,rfl⟩,jt⟩:=h0
    have mg:=BU hF ht O2
    have bN:qt gh w (.bx t0) (fP a t0) []:=by
     rcases mg with h|⟨e',heq,_,b,cap,C,ty,lo,hi,jx,iA,hk,dn,_⟩
     ·change VR gh s.H.length w (fP a t0) _ at h
      generalize fP a t0=V at h
      cases h with
      | plain _ _ h=>cases h
      | full ao k _ h hz =>
       cases h with
       | dw=>exact⟨none,0,rfl,.inl ⟨rfl,rfl,fun ad h=>by cases h⟩⟩
       | slice b o _ _ jx _ _ hn =>
        simp at hn
        subst hn
        exact⟨_,0,rfl,.inl ⟨rfl,rfl,fun ad h=>⟨by injection h with h;subst h;rfl,hz ad h rfl⟩⟩⟩
     ·injection heq with h1;subst h1;exact absurd rfl dn
    exact S5 t0 [] f rfl ht bN hf jt DK
   | false =>
    rw[DK] at he
    simp only[an8,an0,an7] at he
    obtain⟨z',wZ,rfl,rfl⟩:=he
    obtain⟨lF,qf,wX,HU,Tk,mg⟩:=uT hW hF ht O2 .ret (by simp)
    exact core (s.cc t0 (.slice el false)) lF el own rfl qf wX HU Tk.S mg wZ
  ·rename_i O2
   cases DK:wr with
   | true =>
    rw[DK] at he
    simp only[cond_true,an1] at he
    obtain⟨f,hf,he⟩:=he
    obtain⟨h0,he⟩:=ae he
    simp only[an2,an7] at he
    obtain⟨rfl,rfl⟩:=he
    have hv:=(cJ hW hF dR (show (aF.tmp t0).eval G s.T=.aj from O2) rfl).lN
    exact S5 t0 [] f rfl ht ⟨none,0,hv,.inl ⟨rfl,rfl,fun ad h=>by cases h⟩⟩ hf h0 DK
   | false =>
    rw[DK] at he
    simp only[an8,an0,an7] at he
    obtain⟨z',wZ,rfl,rfl⟩:=he
    have hv:=(cJ hW hF dR (show (aF.tmp t0).eval G s.T=.aj from O2) rfl).lN
    exact core s gh [] true rfl hW hF (Ext.refl _ _ _ fI) (fun _ _ h=>h) (.inl (by rw[hv];exact .full none 0 [] .dw (fun ad h=>by cases h))) wZ
  ·cases he
 | bt v =>
  simp only[dG] at he
  cases DK:wr with
  | true=>rw[DK] at he;cases he
  | false =>
   rw[DK] at he
   simp only[an8,an0,an7] at he
   obtain⟨z',wZ,rfl,rfl⟩:=he
   simp only[aF.eval] at wZ
   cases v<;>simp only[aC] at wZ<;>try (cases wZ;done)
   rename_i el own
   have hv:VR gh s.H.length w (a.eval x) (.slice el own):=by
    cases x with
    | tmp k =>
     simp only[ax] at dR
     rcases apk (Nat.blt k nt) with hb|hb<;>rw[hb] at dR<;>simp at dR
    | const u =>
     simp only[ax,an0] at dR
     obtain⟨zz,hz,h⟩:=dR
     injection h with h
     subst h
     exact jB hz
    | global g=>simp[ax] at dR
    | func f=>simp[ax] at dR
   exact core s gh el own rfl hW hF (Ext.refl _ _ _ fI) (fun _ _ h=>h) (.inl hv) wZ
 | aZ g =>
  simp only[dG] at he
  cases DK:wr with
  | true=>rw[DK] at he;cases he
  | false =>
   rw[DK] at he
   simp[aF.eval,aC] at he
 | fn f =>
  simp only[dG] at he
  cases DK:wr with
  | true=>rw[DK] at he;cases he
  | false =>
   rw[DK] at he
   simp[aF.eval,aC] at he
end
end
section
def clean(gh:Gh):Prop:=∀ b,gh.κ b=.none\/gh.κ b=.outer\/(∃ l,gh.κ b=.hb l)\/(∃ l j,gh.κ b=.hs l j)\/∃ j,gh.κ b=.par j
def gV(p:bC):Prop:=(∃ l,p=.hb l)\/(∃ l j,p=.hs l j)\/∃ j,p=.par j
def nR(H:ah):Option gJ->ah
 | none=>H
 | some c=>c.heap
structure l8 (G:Nat->List AV) (base:Nat) (H:ah) (gh:Gh) (w:World) (r:AV) (c:Option gJ) (v:Value) (aV:Gh) (w' : World):Prop where
 len:H.length<=(nR H c).length
 W:aX G base (nR H c) aV w'
 st:Step gV H.length gh w aV w'
 out:∀ b,aV.κ b=.outer->gh.κ b=.outer
 val:CR aV (nR H c).length w' .ret v r
def kY(H:ah)(c:Option gJ):Prop:=H.length<=(nR H c).length/\∀ c',c=some c'->c'.lo<=H.length/\∀ l,l<c'.lo->c'.heap[l]?=H[l]?
def fc(P:Program)(G:Nat->List AV)(cf:dq):Prop :=
 ∀ f args H r c,cf f args H=some (r,c)->(∃ fn,P.funcs[f]?=some fn/\fn.body.isSome=true/\fn.name≠ "runtime.NumGoroutine")/\kY H c /\
  ∀ (base:Nat) (gh:Gh) (w:World) (vs:Array Value),aX G base H gh w->clean gh->vs.size=args.length->(∀ (j:Nat) (v:Value) (x:AV),vs[j]?=some v->args[j]?=some x->CR gh H.length w (.par j) v x) ->
   Calls P f vs w fun e w'=>∃ v aV,e=.returned v/\l8 G base H gh w r c v aV w'
section
variable {P:Program}{G:Nat->List AV}{base nt:Nat}{L:List Nat}{gh:Gh}{w w' : World}{a:Act}{s:AS}{H:ah}
def fu:bC->Bool
 | .bx _|.sl _|.sc ..|.ret=>true
 | _=>false
def Gh.tf(gh:Gh):Gh:={ gh with κ:=fun b=>bif fu (gh.κ b) then .outer else gh.κ b }
theorem Jl(gh:Gh):clean gh.tf:=by
 intro b
 simp only[Gh.tf]
 cases h:gh.κ b<;>simp[fu]
theorem A3(hW:aX G base H gh w)(n:Nat):Step (fun p=>fu p=true) n gh w gh.tf w:=by
 refine⟨fun _ _ h=>h,fun _ _ _=>rfl,aoa _,rfl,rfl,rfl,fun b hb hn=>⟨.inl rfl,?_,fun _ h=>h⟩,fun b hb=>?_,fun _ _=>rfl,fun _ _ _ h=>h,fun _ _ _ _ h=>h⟩
 ·simp only[Gh.tf]
  cases h:fu (gh.κ b)
  ·rfl
  ·exact absurd h hn
 ·simp only[Gh.tf,hW.fresh b hb]
  simp[fu]
theorem aau(hW:aX G base H gh w):aX G base H gh.tf w:=by
 refine hW.step (A3 hW H.length) (fun l=>⟨by simp[fu],by simp[fu]⟩) hW.nW (fun b hb=>hW.oL b fun h=>hb ?_) (fun _ _ _ h=>.inl h)
 simp[Gh.tf,h,fu]
def Gh.back(gh aV:Gh):Gh:={ aV with κ:=fun b=>bif fu (gh.κ b) then gh.κ b else aV.κ b }
theorem N8(hW:aX G base H gh w){r:AV}{c:Option gJ}{v:Value}{aV:Gh}(h:l8 G base H gh.tf w r c v aV w') :
  aX G base (nR H c) (gh.back aV) w'/\Step gV H.length gh w (gh.back aV) w'/\Ext H.length gh w (gh.back aV) w'/\CR (gh.back aV) (nR H c).length w' .ret v r:=by
 have aiD:∀ b,fu (gh.κ b)=true->aV.κ b=.outer:=by
  intro b hb
  have bf:b<w.heap.size:=(hW.oL b (by intro h0;rw[h0] at hb;cases hb)).2
  have:=(h.st.AF b bf (by simp[Gh.tf,hb,gV])).2.1
  rw[this]
  simp[Gh.tf,hb]
 have agt:Step (fun p=>p=.outer) (nR H c).length aV w' (gh.back aV) w':=by
  refine⟨fun _ _ h=>h,fun _ _ _=>rfl,aoa _,rfl,rfl,rfl,fun b hb hn=>⟨.inl rfl,?_,fun _ h=>h⟩,fun b hb=>?_,fun _ _=>rfl,fun _ _ _ h=>h,fun _ _ _ _ h=>h⟩
  ·simp only[Gh.back]
   cases hs:fu (gh.κ b)
   ·rfl
   ·exact absurd (aiD b hs) hn
  ·simp only[Gh.back]
   have gm:w.heap.size<=b:=aoS h.st.size hb
   rw[hW.fresh b gm]
   simp only[fu,an8]
   exact h.st.fresh b gm
 have hlen:=h.len
 have jN:Step gV H.length gh w (gh.back aV) w':=by
  refine⟨h.st.S,h.st.cell,h.st.size,h.st.os,h.st.tape,h.st.output,fun b hb hn=>?_,fun b hb=>?_,h.st.ρ,h.st.len,h.st.mp⟩
  ·cases hs:fu (gh.κ b) with
   | true =>
    have:=h.st.AF b hb (by simp[Gh.tf,hs,gV])
    exact⟨this.1,by simp[Gh.back,hs],this.2.2⟩
   | false =>
    have e1:gh.tf.κ b=gh.κ b:=by simp[Gh.tf,hs]
    have:=h.st.AF b hb (by rw[e1];exact hn)
    exact⟨this.1,by simp only[Gh.back,hs,an8];rw[this.2.1,e1],this.2.2⟩
  ·simp only[Gh.back]
   rw[hW.fresh b hb]
   simp only[fu,an8]
   exact h.st.fresh b hb
 refine⟨h.W.step agt (fun l=>⟨by simp,by simp⟩) h.W.nW (fun b hb=>?_) (fun _ _ _ h=>.inl h),jN,⟨jN.mono (fun p hp=>?_),fun b hb=>?_⟩,h.val.mono agt (aoa _) (by simp)⟩
 ·simp only[Gh.back] at hb
  cases hs:fu (gh.κ b) with
  | true =>
   have:=hW.oL b (by intro h0;rw[h0] at hs;cases hs)
   have:=h.st.size
   omega
  | false =>
   rw[hs] at hb
   exact h.W.oL b hb
 ·rcases hp with ⟨l,rfl⟩|⟨l,j,rfl⟩|⟨j,rfl⟩<;>simp[pA]
 ·simp only[Gh.back] at hb
  cases hs:fu (gh.κ b) with
  | true =>
   rw[hs] at hb
   simp only[cond_true] at hb
   rw[hb] at hs
   cases hs
  | false =>
   rw[hs] at hb
   have:=h.out b hb
   simpa [Gh.tf,hs] using this
theorem CR.aae(hW:aX G base s.H gh w)(hF:FR L nt gh w a s){v:Value}{x:AV}(h:CR gh s.H.length w .ret v x)(p:bC)(hp:p≠.outer) :
  ∃ aV,aX G base s.H aV w/\FR L nt aV w a s/\Ext s.H.length gh w aV w/\CR aV s.H.length w p v x:=by
 rcases h with h|⟨e,rfl,h⟩
 ·exact⟨gh,hW,hF,Ext.refl _ _ _ (fun b hb=>hW.bY b hb),.inl h⟩
 ·exact CR.given hW hF (.inr ⟨e,rfl,h⟩) p hp
theorem kq{n:Nat}{v:Value}{x:AV}(h:VR gh n w v x.drop):VR gh n w v x.bD:=by
 cases x<;>first|exact h|skip
 rename_i cs
 exact VR.yh (h:VR gh n w v (.agg cs))
theorem LF{cf:dq}(jH:fc P G cf)(hW:aX G base s.H gh w)(hF:FR L nt gh w a s){o:Oper}{f:FuncId}{vs:Array Value}{args:List AV}{r:AV}{ch:Option gJ}
  (he:cf f args s.H=some (r,ch)) (ve:vs.size=args.length) (cL:∀ (j:Nat) (v:Value) (x:AV),vs[j]?=some v->args[j]?=some x->CR gh s.H.length w (.par j) v x)
  (cZ:(∃ fn,P.funcs[f]?=some fn/\fn.body.isSome=true/\fn.name≠ "runtime.NumGoroutine")->(execOp a.eval o).run P w=.ok (.enter f vs) w) (hd:∀ k,o.dst=some k->k<nt) (K:Act->World->Prop) (Q:Exit->Act->World->Prop)
  (hK:∀ v' aV w',Out G base nt L gh w a s o.dst r ((ch.map s.gk).getD s) v' aV w'->K (a.put o.dst v') w'):o.wp P a w K Q:=by
 obtain⟨zQ,_,qh⟩:=jH f _ _ _ _ he
 have jN:=A3 hW s.H.length
 have hC:=qh base gh.tf w vs (aau hW) (Jl gh) ve (fun j v x hv hx=>(cL j v x hv hx).mono jN (aoa _) (by simp[fu]))
 unfold Oper.wp
 rw[cZ zQ,Oper.upon_enter]
 refine hC.mono ?_
 rintro e w2 ⟨v,aV,rfl,hR⟩
 obtain⟨CC,aff,yB,Uo⟩:=N8 hW hR
 have YB:=hR.len
 have key:∀ s1:AS,s1.H=nR s.H ch->FR L nt (gh.back aV) w2 a s1->∃ gh3,Out G base nt L gh w a s o.dst r s1 v gh3 w2:=by
  intro s1 An wX
  obtain⟨gh3,hW3,hF3,hE3,hv3⟩:=CR.aae (by rw[An];exact CC) wX (by rw[An];exact Uo) (NI o.dst) (ox _)
  refine⟨gh3,Out.of (s1:=s1) (gen':=s1.gen) hW3 hF3 (yB.trans hE3 (by rw[An];exact YB)) (aoa _) hd (.inl (ki hv3.aG)) (fun k hk=>?_)⟩
  rw[hk] at hv3
  exact nY hv3.aG hv3
 cases ch with
 | none =>
  obtain⟨gh3,hO⟩:=key s rfl (hF.grown (H':=s.H) (lo':=s.lo) aff (fun i=>⟨by simp[gV],by simp[gV],by simp[gV]⟩) (aoa _))
  exact hK v gh3 w2 hO
 | some c' =>
  obtain⟨gh3,hO⟩:=key (s.gk c') rfl (hF.grown aff (fun i=>⟨by simp[gV],by simp[gV],by simp[gV]⟩) YB)
  exact hK v gh3 w2 hO
theorem TJ{cf:dq}(jH:fc P G cf)(hW:aX G base s.H gh w)(hF:FR L nt gh w a s){o:Oper}{c:Call}{fx:Operand}{yf:aF}{ys:List aF}{f:FuncId}{fs cs:List AV}{r:AV}{ch:Option gJ}
  (ho:o.op=.call c) (iE:c.callee=.value fx) (dR:ax nt fx=some yf) (yD:jA nt c.args.toList=some ys) (aat:yf.eval G s.T=.func (.func f) fs cs) (ND:(ys.map fun y=>y.addr G s.T).all aG=true)
  (he:cf f (fs++ys.map (fun y=>(y.addr G s.T).bD)++cs) s.H=some (r,ch)) (hd:∀ k,o.dst=some k->k<nt) (K:Act->World->Prop) (Q:Exit->Act->World->Prop)
  (hK:∀ v' aV w',Out G base nt L gh w a s o.dst r ((ch.map s.gk).getD s) v' aV w'->K (a.put o.dst v') w'):o.wp P a w K Q:=by
 have hfv:=cJ hW hF dR aat rfl
 obtain⟨us,ts,hfe,yF,jW,h1,h2⟩:=hfv.ra
 have ft:=BV hW hF yD ND
 have hlen:=(k9 yD).1
 let vs:Array Value:=us++c.args.map a.eval++ts
 have ve:vs.size=(fs++ys.map (fun y=>(y.addr G s.T).bD)++cs).length:=by
  simp[vs,yF,jW] at hlen ⊢
  omega
 have cL:∀ (j:Nat) (v:Value) (x:AV),vs[j]?=some v->(fs++ys.map (fun y=>(y.addr G s.T).bD)++cs)[j]?=some x->VR gh s.H.length w v x:=by
  intro j v x hv hx
  have DE:(c.args.map a.eval).size=ys.length:=by simpa using hlen
  simp only[vs,Array.getElem?_append,Array.size_append] at hv
  simp only[apg,List.length_append,aoA] at hx
  rw[yF,DE] at hv
  split at hv
  ·rename_i c1
   rw[if_pos c1] at hx
   split at hv
   ·rename_i c2
    rw[if_pos c2] at hx
    exact h1 j v x hv hx
   ·rename_i c2
    rw[if_neg c2] at hx
    simp only[aor,an0] at hx
    obtain⟨y,hy,rfl⟩:=hx
    refine kq (ft (j-fs.length) v _ ?_ ?_)
    ·rw[<- aqG,aoX];exact hv
    ·simp only[aor,hy,aok]
  ·rename_i c1
   rw[if_neg c1] at hx
   exact h2 _ v x hv hx
 refine LF jH hW hF he ve (fun j v x hv hx=>.inl (cL j v x hv hx)) ?_ hd K Q hK
 rintro ⟨fn,zQ,qL,qP⟩
 unfold execOp
 cases hb:fn.body with
 | none=>rw[hb] at qL;cases qL
 | some code =>
  simp[ho,resolve,iE,hfe,Deferred.ofValue,invoke,callFunc,zQ,qP,hb,vs]
end
end
section
section
variable {P:Program}{G:Nat->List AV}{base nt:Nat}{L:List Nat}{gh:Gh}{w w' : World}{a:Act}{s:AS}{H:ah}
def DL(P:Program)(w:World)(d:Nat):Prop :=
 ∀ (t:TypeId) (ks:List CK),mA P d t=some ks->∀ (D o:Nat) (cs:Array Value) (em:Bool),d<=D->o+ks.length<=cs.size->∃ v,(part t cs o).run P w=.ok v w/\(Instr.checkKey em D t v).run P w=.ok () w
theorem tX{t:TypeId}{D:Nat}{v:Value}{em:Bool}(h:P.underlying t=some .bool\/(∃ k,P.underlying t=some (.int k))\/P.underlying t=some .string):(Instr.checkKey em (D+1) t v).run P w=.ok () w:=by
 rcases h with h|⟨k,h⟩|h<;>simp[Instr.checkKey,run_underlying h]
theorem tW{d:Nat}(hd:DL P w d){D:Nat}(hD:d<=D){cs:Array Value}{em:Bool} : ∀ (fs:List Go.Field) (q:Nat) (ks:List CK),ot (mA P d) fs q=some ks->q+ks.length<=cs.size ->
  Sem.run P (forIn fs PUnit.unit fun (f:Go.Field) (_:PUnit) =>
   if f.name≠ "_" then do
    let v <- part f.type cs f.offset
    Instr.checkKey em D f.type v
    pure (ForInStep.yield PUnit.unit)
   else pure (ForInStep.yield PUnit.unit)) w=.ok PUnit.unit w:=by
 intro fs
 induction fs with
 | nil=>intro q ks h1 h2;rfl
 | cons f fs ih =>
  intro q ks h1 h2
  unfold ot at h1
  obtain⟨h3,h1⟩:=ae h1
  simp only[an1,an0] at h1
  obtain⟨kf,hkf,kr,hkr,rfl⟩:=h1
  simp only[aod,fW,aov,bne_iff_ne] at h3
  obtain⟨hof,A6⟩:=h3
  rw[List.length_append] at h2
  obtain⟨v,p1,p2⟩:=hd f.type kf hkf D q cs em hD (by omega)
  have hr:=ih (q+kf.length) kr hkr (by omega)
  rw[List.forIn_cons,if_pos A6,hof]
  simp only[Sem.run_bind,p1,p2,Result.andThen_ok,Sem.run_pure]
  exact hr
theorem AM:∀ d,DL P w d
 | 0=>fun t ks h=>by cases h
 | d+1=>by
  intro t ks h D o cs em hD gC
  have h0:=h
  unfold mA at h
  cases hu:P.underlying t with
  | none=>rw[hu] at h;cases h
  | some dd =>
   rw[hu] at h
   obtain⟨D,rfl⟩:∃ m,D=m+1:=⟨D-1,by omega⟩
   have sc:ks.length=1->l9 P t=some false->(dd=.bool\/(∃ k,dd=.int k)\/dd=.string)->∃ v,(part t cs o).run P w=.ok v w/\(Instr.checkKey em (D+1) t v).run P w=.ok () w:=by
    intro h1 h2 h3
    have hg:=h2
    have hv:cs[o]?=some cs[o]:=aop (by omega)
    refine⟨cs[o],by simp[part,iv hg,hv],tX ?_⟩
    rcases h3 with h3|⟨k,h3⟩|h3<;>subst h3
    ·exact .inl hu
    ·exact .inr (.inl ⟨k,hu⟩)
    ·exact .inr (.inr hu)
   cases dd<;>try (cases h;done)
   case bool=>injection h with h;subst h;exact sc rfl (ma hu rfl) (.inl rfl)
   case int kk=>injection h with h;subst h;exact sc rfl (ma hu rfl) (.inr (.inl ⟨kk,rfl⟩))
   case string=>injection h with h;subst h;exact sc rfl (ma hu rfl) (.inr (.inr rfl))
   case struct fs =>
    obtain⟨_,fV,sz,gO,hlen⟩:=p9 h0 hu
    have hg:l9 P t=some true:=by unfold l9;rw[hu];rfl
    refine⟨.agg (cs.extract o (o+sz)),by simp[part,iv hg,dU gO],?_⟩
    have:=tW (AM d) (show d<=D by omega) (cs:=cs.extract o (o+sz)) (em:=em) fs.toList 0 ks fV (by simp;omega)
    unfold Instr.checkKey
    simp only[Sem.run_bind,run_underlying hu,Result.andThen_ok]
    rw[<- Array.forIn_toList,this]
    rfl
theorem si{n:Nat}{v:Value}{k:AV}{kc:List AV}(h:VR gh n w v k)(hc:k.cells=some kc):(∃ C,v=.agg C/\k=.agg kc/\Row gh n w C kc)\/(kc=[k]/\v.oneCell'=true):=by
 have hr:=rG h hc
 cases k
 case agg xs =>
  obtain⟨C,rfl,hs,fY,h⟩:=h.kj
  injection hc with hc
  subst hc
  exact .inl ⟨C,rfl,rfl,hs,h⟩
 case any=>cases hc
 case tuple=>cases hc
 case lbox=>cases hc
 case lref=>cases hc
 case lsl=>cases hc
 case lsr=>cases hc
 case eref=>cases hc
 case iter=>cases hc
 all_goals
  injection hc with hc
  subst hc
  exact .inr ⟨rfl,h.fw (by intro cs h;cases h) (by intro cs h;cases h)⟩
theorem vm{n:Nat}{v:Value}{k:AV}(h:VR gh n w v k)(ha:true=k.isAgg):∃ C,v=.agg C:=by
 cases k<;>first|(cases ha;done)|skip
 obtain⟨C,rfl,_⟩:=h.kj
 exact⟨C,rfl⟩
structure BM (P:Program) (kt:TypeId) (ks:List CK) (ka:Bool):Prop where
 flat:mA P 8 kt=some ks
 agg:l9 P kt=some ka
theorem BM.cases{kt:TypeId}{ks:List CK}{ka:Bool}(h:BM P kt ks ka):(ka=false/\((P.underlying kt=some .bool/\ks=[.b])\/(∃ k,P.underlying kt=some (.int k)/\ks=[.i])\/(P.underlying kt=some .string/\ks=[.s]))) \/
  (ka=true/\∃ fs,P.underlying kt=some (.struct fs)):=by
 have hf:=h.flat
 have ha:=h.agg
 unfold mA at hf
 unfold l9 at ha
 cases hu:P.underlying kt with
 | none=>rw[hu] at hf;cases hf
 | some dd =>
  rw[hu] at hf ha
  cases dd<;>try (cases hf;done)
  case bool=>injection hf with hf;subst hf;simp at ha;exact .inl ⟨ha,.inl ⟨rfl,rfl⟩⟩
  case int k=>injection hf with hf;subst hf;simp at ha;exact .inl ⟨ha,.inr (.inl ⟨k,rfl,rfl⟩)⟩
  case string=>injection hf with hf;subst hf;simp at ha;exact .inl ⟨ha,.inr (.inr ⟨rfl,rfl⟩)⟩
  case struct fs=>simp at ha;exact .inr ⟨ha,fs,rfl⟩
theorem vV{kt:TypeId}{ks:List CK}{ka:Bool}(hK:BM P kt ks ka){n:Nat}{kv:Value}{k:AV}{kc:List AV}(hk:VR gh n w kv k)(qo:k.cells=some kc)(hl:kc.length=ks.length)(vd:ka=k.isAgg)(em:Bool) :
  (Instr.checkKey em 10000 kt kv).run P w=.ok () w:=by
 rcases hK.cases with ⟨rfl,h⟩|⟨rfl,fs,hu⟩
 ·refine tX ?_
  rcases h with ⟨h,_⟩|⟨k,h,_⟩|⟨h,_⟩
  ·exact .inl h
  ·exact .inr (.inl ⟨k,h⟩)
  ·exact .inr (.inr h)
 ·obtain⟨C,rfl⟩:=vm hk vd
  obtain⟨rR,fV,sz,gO,hlen⟩:=p9 hK.flat hu
  have hC:C.size=kc.length:=by
   rcases si hk qo with ⟨C',e,_,hr⟩|⟨_,h1⟩
   ·injection e with e;subst e;exact hr.1
   ·simp[Value.oneCell'] at h1
  have:=tW (AM (w:=w) (P:=P) 7) (show 7<=9999 by omega) (cs:=C) (em:=em) fs.toList 0 ks fV (by omega)
  unfold Instr.checkKey
  simp only[Sem.run_bind,run_underlying hu,Result.andThen_ok]
  rw[<- Array.forIn_toList,this]
  rfl
def Kq(S:Nat->Nat->Prop)(w:World)(kz:Nat)(ka:Bool)(v:Value)(r:List AV):Prop:=∃ f:Nat->Value,v=qq ka kz f/\∀ (j:Nat) (x:AV),r[j]?=some x->j<kz->PR S w (f j) x
theorem pO:∀ {k:List CK} {X Y:List AV} {b:Bool},cq k X Y=some b->k.length<=X.length/\k.length<=Y.length
 | [],X,Y,b,h=>⟨ao9 _,ao9 _⟩
 | c :: k,X,Y,b,h=>by
  cases c<;>cases X<;>try (cases h;done)
  all_goals (rename_i x X';cases x<;>try (cases h;done))
  all_goals (cases Y<;>try (cases h;done))
  all_goals (rename_i y Y';cases y<;>try (cases h;done))
  ·simp only[cq,an0] at h
   obtain⟨b',hb,_⟩:=h
   have:=pO hb
   simp;omega
  ·simp only[cq] at h
   obtain⟨_,h⟩:=ae h
   simp only[an0] at h
   obtain⟨b',hb,_⟩:=h
   have:=pO hb
   simp;omega
  ·simp only[cq,an0] at h
   obtain⟨b',hb,_⟩:=h
   have:=pO hb
   simp;omega
theorem MG{kt:TypeId}{ks:List CK}{ka:Bool}(hK:BM P kt ks ka){n:Nat}{kv:Value}{k:AV}{kc:List AV}(hk:VR gh n w kv k)(qo:k.cells=some kc)(hl:kc.length=ks.length)(vd:ka=k.isAgg)
  {v:Value} {r:List AV} (hv:Kq gh.S w ks.length ka v r) {b:Bool} (he:cq ks kc r=some b) :
  (ka=true->(Op.equal kt kv v).run P w=.ok b w)/\(ka=false->∀ d,P.underlying kt=some d->Instr.sameNow d kv v=some b):=by
 obtain⟨f,rfl,hf⟩:=hv
 have DI:=(pO he).2
 rcases hK.cases with ⟨rfl,h⟩|⟨rfl,fs,hu⟩
 ·refine⟨(fun h=>by cases h),fun _ d hd=>?_⟩
  have aay:kc=[k]:=by
   cases k<;>first|(cases vd;done)|(injection qo with qo;exact qo.symm)|(cases qo;done)
  subst aay
  have hv0:∀ x,r[0]?=some x->PR gh.S w (f 0) x:=fun x hx=>hf 0 x hx (by rcases h with ⟨_,h⟩|⟨_,_,h⟩|⟨_,h⟩<;>rw[h]<;>exact Nat.one_pos)
  show Instr.sameNow d kv (f 0)=some b
  cases r with
  | nil=>rcases h with ⟨_,h⟩|⟨_,_,h⟩|⟨_,h⟩<;>subst h<;>simp at DI
  | cons x r =>
   have hx:=hv0 x rfl
   rcases h with ⟨h,rfl⟩|⟨q,h,rfl⟩|⟨h,rfl⟩
   ·rw[h] at hd;injection hd with hd;subst hd
    cases k<;>try (cases he;done)
    cases x<;>try (cases he;done)
    obtain rfl:=hk.jI
    generalize f 0=u at hx
    cases hx
    simp[cq] at he
    simp[Instr.sameNow,he]
   ·rw[h] at hd;injection hd with hd;subst hd
    cases k<;>try (cases he;done)
    cases x<;>try (cases he;done)
    obtain rfl:=hk.jl
    generalize f 0=u at hx
    cases hx
    simp only[cq] at he
    obtain⟨h0,he⟩:=ae he
    simp at he h0
    simp[Instr.sameNow,he,h0]
   ·rw[h] at hd;injection hd with hd;subst hd
    cases k<;>try (cases he;done)
    cases x<;>try (cases he;done)
    obtain⟨p,rfl,rfl⟩:=hk.jn
    generalize f 0=u at hx
    cases hx with
    | str q _ hq =>
     subst hq
     simp[cq] at he
     simp only[Instr.sameNow,an2]
     rw[<- he]
     first|rfl|(show (p.data==q.data)=_;simp)
 ·obtain⟨C,rfl⟩:=vm hk vd
  refine⟨fun _=>?_,fun h=>by cases h⟩
  have hC:Row gh n w C kc:=by
   rcases si hk qo with ⟨C',e,_,hr⟩|⟨_,h1⟩
   ·injection e with e;subst e;exact hr
   ·simp[Value.oneCell'] at h1
  have hD:Row gh n w (((List.range ks.length).map f).toArray) (r.take ks.length):=by
   refine⟨by simp;omega,fun j u x hu hx=>?_⟩
   simp only[aoE,aor,an0] at hu
   obtain⟨i,hi,rfl⟩:=hu
   obtain⟨bf,xu⟩:=an9.1 hi
   simp at bf xu
   subst xu
   rw[aoC,if_pos bf] at hx
   exact .plain _ _ (hf _ x hx bf)
  have DF:cq ks kc (r.take ks.length)=some b:=by
   rw[<- he,<- oo ks kc r ks.length (aoa _),<- oo ks kc (r.take ks.length) ks.length (aoa _),List.take_take,Nat.min_self]
  exact tK (vE 7) hK.flat hu (D:=9999) (by omega) (n:=n) hC hD DF
theorem uk{d:TypeDesc}{kv:Value}{ks:List CK}{kc:List AV} : ∀ (l:List MapEntry) (es:List (List AV)) (i0:Nat) (o:Option Nat),l.length=es.length ->
  (∀ (i:Nat) (e:MapEntry) (r:List AV) (b:Bool),l[i]?=some e->es[i]?=some r->cq ks kc r=some b->Instr.sameNow d kv e.key=some b)->dH ks kc es=some o ->
  Instr.findNow d kv l i0=some (o.map fun i=>(i0+i,(l.getD i default).val))
 | [],[],i0,o,_,_,h=>by simp only[dH,an2] at h;subst h;rfl
 | [],_ :: _,_,_,hl,_,_=>by simp at hl
 | _ :: _,[],_,_,hl,_,_=>by simp at hl
 | e :: l,r :: es,i0,o,hl,hq,h=>by
  simp only[dH,an1] at h
  obtain⟨b,hb,h⟩:=h
  have h0:=hq 0 e r b rfl rfl hb
  cases b with
  | true =>
   simp only[cond_true,an2] at h
   subst h
   simp[Instr.findNow,h0]
  | false =>
   simp only[an8,an0] at h
   obtain⟨o',rP,rfl⟩:=h
   have ih:=uk l es (i0+1) o' (by simpa using hl) (fun i e r b h1 h2 h3=>hq (i+1) e r b (by simpa using h1) (by simpa using h2) h3) rP
   simp only[Instr.findNow,h0,ih,aqk]
   cases o' with
   | none=>rfl
   | some i=>simp[ap2,aqM 1 i]
theorem qd{kt:TypeId}{kv:Value}{ks:List CK}{kc:List AV} : ∀ (l:List MapEntry) (es:List (List AV)) (i0:Nat) (o:Option Nat),l.length=es.length ->
  (∀ (i:Nat) (e:MapEntry) (r:List AV) (b:Bool),l[i]?=some e->es[i]?=some r->cq ks kc r=some b->(Op.equal kt kv e.key).run P w=.ok b w)->dH ks kc es=some o ->
  (Instr.findAsking kt kv l i0).run P w=.ok (o.map fun i=>(i0+i,(l.getD i default).val)) w
 | [],[],i0,o,_,_,h=>by simp only[dH,an2] at h;subst h;rfl
 | [],_ :: _,_,_,hl,_,_=>by simp at hl
 | _ :: _,[],_,_,hl,_,_=>by simp at hl
 | e :: l,r :: es,i0,o,hl,hq,h=>by
  simp only[dH,an1] at h
  obtain⟨b,hb,h⟩:=h
  have h0:=hq 0 e r b rfl rfl hb
  cases b with
  | true =>
   simp only[cond_true,an2] at h
   subst h
   simp[Instr.findAsking,h0]
  | false =>
   simp only[an8,an0] at h
   obtain⟨o',rP,rfl⟩:=h
   have ih:=qd l es (i0+1) o' (by simpa using hl) (fun i e r b h1 h2 h3=>hq (i+1) e r b (by simpa using h1) (by simpa using h2) h3) rP
   simp only[Instr.findAsking,Sem.run_bind,h0,Result.andThen_ok,apy,aqv,ih]
   cases o' with
   | none=>rfl
   | some i=>simp[ap2,aqM 1 i]
theorem zq{kt:TypeId}{ks:List CK}{ka:Bool}(hK:BM P kt ks ka){n:Nat}{kv:Value}{k:AV}{kc:List AV}(hk:VR gh n w kv k)(qo:k.cells=some kc)(hl:kc.length=ks.length)(vd:ka=k.isAgg)
  {l:List MapEntry} {es:List (List AV)} (hlen:l.length=es.length) (bN:∀ (i:Nat) (e:MapEntry) (r:List AV),l[i]?=some e->es[i]?=some r->Kq gh.S w ks.length ka e.key r) {o:Option Nat} (hf:dH ks kc es=some o) :
  (Instr.findKey kt kv l).run P w=.ok (o.map fun i=>(i,(l.getD i default).val)) w:=by
 have hq:=fun (i:Nat) (e:MapEntry) (r:List AV) (b:Bool) (h1:l[i]?=some e) (h2:es[i]?=some r) (h3:cq ks kc r=some b)=>MG hK hk qo hl vd (bN i e r h1 h2) h3
 rcases hK.cases with ⟨rfl,h⟩|⟨rfl,fs,hu⟩
 ·obtain⟨d,hd⟩:∃ d,P.underlying kt=some d:=by rcases h with ⟨h,_⟩|⟨_,h,_⟩|⟨h,_⟩<;>exact⟨_,h⟩
  have hn:=uk l es 0 o hlen (fun i e r b h1 h2 h3=>(hq i e r b h1 h2 h3).2 rfl d hd) hf
  simp only[Nat.zero_add] at hn
  simp[Instr.findKey,run_underlying hd,hn]
 ·cases l with
  | nil =>
   cases es with
   | cons _ _=>simp at hlen
   | nil =>
    simp only[dH,an2] at hf
    subst hf
    simp[Instr.findKey,run_underlying hu,Instr.findNow]
  | cons e l =>
   have hn:=qd (P:=P) (w:=w) (e :: l) es 0 o hlen (fun i e r b h1 h2 h3=>(hq i e r b h1 h2 h3).1 rfl) hf
   simp only[Nat.zero_add] at hn
   simp[Instr.findKey,run_underlying hu,Instr.findNow,Instr.sameNow,hn]
end
end
section
section
variable {P:Program}{G:Nat->List AV}{base nt:Nat}{L:List Nat}{gh:Gh}{w w' : World}{a:Act}{s:AS}{H:ah}
def tC(w:World)(b:Nat)(E:Array MapEntry)(ck:Nat):World:={ w with heap:=w.heap.setIfInBounds b (Obj.map E ck) }
theorem Ht{b:Nat}{E E' : Array MapEntry}{ck ck' : Nat}(hb:w.heap[b]?=some (.map E ck)):(tC w b E' ck').heap[b]?=some (.map E' ck'):=by
 have bf:b<w.heap.size:=(aoi.1 hb).1
 simp[tC,bf]
theorem mK{b b' : Nat}{E' : Array MapEntry}{ck' : Nat}(h:b'≠b):(tC w b E' ck').heap[b']?=w.heap[b']?:=by
 simp[tC,apX h]
theorem zt{b:Nat}{E E' : Array MapEntry}{ck ck' : Nat}(hb:w.heap[b]?=some (.map E ck)):(setObj b (.map E' ck')).run P w=.ok () (tC w b E' ck'):=by
 simp[setObj,Sem.run,hb,tC]
theorem GV(hW:aX G base H gh w){b:Nat}{E E' : Array MapEntry}{ck ck' : Nat}(hb:w.heap[b]?=some (.map E ck))(hS:∀ o,¬ gh.S b o)(n:Nat):Step (fun r=>r=gh.κ b) n gh w gh (tC w b E' ck'):=by
 have dn:∀ b' o,gh.S b' o->b'≠b:=fun b' o h=>by rintro rfl;exact hS o h
 refine⟨fun _ _ h=>h,fun b' o h=>cell_of_heap (mK (dn b' o h)),by simp[tC],rfl,rfl,rfl,fun b' gm hn=>?_,fun b' gm=>?_,fun _ _=>rfl,fun b' ty m hm=>?_,fun b' E1 c1 hs hm=>?_⟩
 ·have w9:b'≠b:=by rintro rfl;exact hn rfl
  exact⟨.inl (mK w9),rfl,fun _ h=>h⟩
 ·have:w.heap.size<=b':=by simpa [tC] using gm
  exact hW.bY b' this
 ·obtain⟨C,fr,h1,h2⟩:=hm
  have w9:b'≠b:=by rintro rfl;rw[hb] at h1;cases h1
  exact⟨C,fr,by rw[mK w9];exact h1,h2⟩
 ·rw[mK (dn b' 0 hs)];exact hm
structure H3 (P:Program) (t kt et:TypeId) (ks:List CK) (ka va:Bool) (vz:Nat) (z:Value) (zero:List AV):Prop where
 ht:P.underlying t=some (.map kt et)
 key:BM P kt ks ka
 vz1:va=false->vz=1
 hz:∃ i,P.info? et=some i/\i.zero=some z
 cells:dS z.cells.toList=some zero
 agg:NV z=va
 len:zero.length=vz
theorem BM.kz{kt:TypeId}{ks:List CK}{ka:Bool}(h:BM P kt ks ka)(hf:ka=false):ks.length=1:=by
 rcases h.cases with ⟨_,⟨_,h⟩|⟨_,_,h⟩|⟨_,h⟩⟩|⟨rfl,_⟩
 ·rw[h];rfl
 ·rw[h];rfl
 ·rw[h];rfl
 ·cases hf
theorem uM{t:TypeId}{m:List CK × Bool × Bool × List AV}(h:MN P t=some m):∃ kt et z,H3 P t kt et m.1 m.2.1 m.2.2.1 m.2.2.2.length z m.2.2.2:=by
 unfold MN at h
 split at h
 ·rename_i kt et hu
  simp only[an1] at h
  obtain⟨ks,fV,ka,vd,i,hi,z,hz,zero,hzc,h⟩:=h
  obtain⟨h0,h⟩:=ae h
  injection h with h
  subst h
  refine⟨kt,et,z,hu,⟨fV,vd⟩,fun hv=>?_,⟨i,hi,hz⟩,hzc,rfl,rfl⟩
  simp only at hv ⊢
  rw[hv] at h0
  simpa [fW] using h0
 ·cases h
theorem OG(hW:aX G base s.H gh w)(hF:FR L nt gh w a s){o:Oper}{t:TypeId}(ho:o.op=.makeMap t none)(hd:∀ k,o.dst=some k->k<nt)(kz:Nat)(ka va:Bool) :
  ∃ v' aV w',tP P a o w v' w'/\Out G base nt L gh w a s o.dst (.mref s.H.length) (s.gk ⟨s.H++[.map kz ka va []],s.H.length⟩) v' aV w':=by
 have hp:=fp.alloc w (.map #[] 0)
 have hρ:(gh.bJ w.heap.size s.H.length).ρ s.H.length=w.heap.size:=by simp[Gh.bJ]
 have hv:VR (gh.bJ w.heap.size s.H.length) (s.H++[bZ.map kz ka va []]).length (w.alloc (.map #[] 0)) (.map (some w.heap.size)) (.mref s.H.length):=by
  have:=VR.mref (gh:=gh.bJ w.heap.size s.H.length) (w:=w.alloc (.map #[] 0)) (n:=(s.H++[bZ.map kz ka va []]).length) s.H.length (by simp)
  rw[hρ] at this;exact this
 have hM:sQ (gh.bJ w.heap.size s.H.length) (s.H.length+1) (w.alloc (.map #[] 0)) w.heap.size s.H.length (.map kz ka va []):=by
  refine⟨⟨by simp[Gh.bJ,Gh.alloc],?_,#[],0,fun _ _=>undef,hp.new,⟨rfl,rfl,fun i e h=>by simp at h,fun i e h=>by simp at h,fun i j e e' h=>by simp at h,fun i e r h=>by simp at h⟩,fun i j r x h=>by simp at h,fun i j r x h=>by simp at h⟩,rfl⟩
  rintro o (ho|⟨_,ho⟩)
  ·have:=hW.nW _ o ho;omega
  ·exact ho
 refine⟨_,_,_,.inl ?_,hW.Hi hp (fun _ _ h=>by cases h) hM,hF.put (gB hW hp) (fun i=>⟨id,id,fun _=>id⟩) (by simp) o.dst hd (.dC hv),kS hW hp⟩
 simp[execOp,ho,Instr.makeMap,newObj,Sem.run]
theorem RC{n:Nat}{va:Bool}{m:Nat}{g:Nat->Value}{cs:List AV}(hm:cs.length=m)(h1:va=false->m=1)(h:∀ (j:Nat) (x:AV),cs[j]?=some x->VR gh n w (g j) x.drop/\(g j).oneCell'=true) :
  VR gh n w (qq va m g) (cond va (.agg (cs.map AV.drop)) ((cs.headD .undef).drop)):=by
 cases va with
 | true =>
  refine .agg _ _ (by simp[hm]) (fun j v hv=>?_) (fun j v x hv hx=>?_)
  ·simp only[aoE,aor,an0] at hv
   obtain⟨i,hi,rfl⟩:=hv
   obtain⟨bf,xu⟩:=an9.1 hi
   simp at bf xu
   subst xu
   exact (h _ _ (an' (by omega))).2
  ·simp only[aoE,aor,an0] at hv hx
   obtain⟨i,hi,rfl⟩:=hv
   obtain⟨bf,xu⟩:=an9.1 hi
   simp at bf xu
   subst xu
   obtain⟨y,hy,rfl⟩:=hx
   exact (h _ y hy).1
 | false =>
  have:=h1 rfl
  cases cs with
  | nil=>simp at hm;omega
  | cons x cs=>exact (h 0 x rfl).1
theorem Lo{n:Nat}{t kt et:TypeId}{ks:List CK}{ka va:Bool}{vz:Nat}{z:Value}{zero:List AV}(hT:H3 P t kt et ks ka va vz z zero):VR gh n w z (cond va (.agg (zero.map AV.drop)) ((zero.headD .undef).drop)):=by
 obtain⟨hl,hv⟩:=j8 (gh:=gh) (n:=n) (w:=w) hT.cells
 have Jh:=hT.agg
 cases z
 case agg C =>
  simp[NV] at Jh
  subst Jh
  refine .agg C _ (by simpa [Value.cells] using hl) (fun j v sE=>?_) (fun j v x sE hx=>?_)
  ·have bf:=(aoi.1 sE).1
   have hz:zero[j]?=some zero[j]:=an' (by
    have:C.toList.length=zero.length:=by simpa [Value.cells] using hl
    simp at this;omega)
   exact (hv j v _ (by simpa [Value.cells] using sE) hz).2
  ·simp only[aor,an0] at hx
   obtain⟨y,hy,rfl⟩:=hx
   exact (hv j v y (by simpa [Value.cells] using sE) hy).1.dropped
 all_goals
  simp[NV] at Jh
  subst Jh
  have h1:zero.length=1:=by rw[hT.len];exact hT.vz1 rfl
  obtain⟨x,rfl⟩:=apG.1 h1
  exact (hv 0 _ x rfl rfl).1.dropped
theorem y7{n:Nat}{ok va:Bool}{cs:List AV}{v:Value}(h:VR gh n w v (cond va (.agg (cs.map AV.drop)) ((cs.headD .undef).drop)))(found:Bool) :
  VR gh n w (if ok then .tuple #[v,.bool found] else v) (y6 ok va cs found):=by
 unfold y6
 simp only
 cases ok with
 | false=>exact h
 | true =>
  refine .tuple _ _ rfl (fun j u x hu hx=>?_)
  match j with
  | 0=>injection hu with hu;injection hx with hx;subst hu hx;exact h
  | 1=>injection hu with hu;injection hx with hx;subst hu hx;exact .plain _ _ (.bool _)
  | j+2=>simp at hx
structure Rows (gh:Gh) (n:Nat) (w:World) (E:Array MapEntry) (kz:Nat) (ka va:Bool) (es:List (List AV)):Prop where
 size:E.size=es.length
 key:∀ (i:Nat) (e:MapEntry) (r:List AV),E[i]?=some e->es[i]?=some r->Kq gh.S w kz ka e.key r
 val:∀ (i:Nat) (e:MapEntry) (r:List AV),E[i]?=some e->es[i]?=some r->kz<=r.length/\(va=false->r.length=kz+1)/\∃ g,e.val=qq va (r.length-kz) g/\∀ (j:Nat) (x:AV),(r.drop kz)[j]?=some x->VR gh n w (g j) x.drop/\(g j).oneCell'=true
theorem zo{n b kz:Nat}{ka va:Bool}{es:List (List AV)}{v:Value}(h:PR gh.S w v (.fg kz ka va es)):∃ b E ck,v=.map (some b)/\w.heap[b]?=some (.map E ck)/\Rows gh n w E kz ka va es:=by
 cases h with
 | fg b _ _ _ _ E ck f hS hb hE cL =>
  refine⟨b,E,ck,rfl,hb,hE.size,fun i e r h1 h2=>⟨f i,(hE.row i e r h1 h2).2.2.2.1,fun j x hj _=>cL i j r x h2 hj⟩,fun i e r h1 h2=>?_⟩
  obtain⟨k1,_,k2,_,k3⟩:=hE.row i e r h1 h2
  refine⟨k1,k2,fun j=>f i (kz+j),k3,fun j x hj=>?_⟩
  rw[aoU] at hj
  have:=cL i (kz+j) r x h2 hj
  exact⟨VR.dropped (.plain _ _ this),this.fw⟩
theorem zn{n b kz:Nat}{p:bC}{q:Nat->bC}{ka va:Bool}{es:List (List AV)}(h:Az gh n w b p q kz ka va es):∃ E ck,w.heap[b]?=some (.map E ck)/\Rows gh n w E kz ka va es:=by
 obtain⟨_,_,E,ck,f,hb,hE,h1,h2⟩:=h
 refine⟨E,ck,hb,hE.size,fun i e r k1 k2=>⟨f i,(hE.row i e r k1 k2).2.2.2.1,fun j x hj hl=>h1 i j r x k2 hj hl⟩,fun i e r k1 k2=>?_⟩
 obtain⟨l1,_,l2,_,l3⟩:=hE.row i e r k1 k2
 refine⟨l1,l2,fun j=>f i (kz+j),l3,fun j x hj=>?_⟩
 rw[aoU] at hj
 obtain⟨m1,_,m2⟩:=h2 i (kz+j) r x k2 hj (by omega)
 exact⟨m2.dropped,m1⟩
theorem xl:∀ {ks:List CK} {kc:List AV} {es:List (List AV)} {i:Nat},dH ks kc es=some (some i)->i<es.length
 | ks,kc,[],i,h=>by simp[dH] at h
 | ks,kc,r :: es,i,h=>by
  simp only[dH,an1] at h
  obtain⟨b,_,h⟩:=h
  cases b with
  | true=>simp at h;subst h;simp
  | false =>
   simp only[an8,an0] at h
   obtain⟨o,ho,h⟩:=h
   cases o with
   | none=>simp at h
   | some j=>simp at h;subst h;have:=xl ho;simp;omega
theorem Hr{n:Nat}{t kt et:TypeId}{ks:List CK}{ka va:Bool}{vz:Nat}{z:Value}{zero:List AV}(hT:H3 P t kt et ks ka va vz z zero){kv:Value}{k:AV}{kc:List AV}(hk:VR gh n w kv k)(qo:k.cells=some kc)(hl:kc.length=ks.length)(vd:ka=k.isAgg)
  {b:Nat} {E:Array MapEntry} {ck:Nat} {es:List (List AV)} (hb:w.heap[b]?=some (.map E ck)) (hR:Rows gh n w E ks.length ka va es) {o:Option Nat} (hf:dH ks kc es=some o) (ok:Bool) :
  ∃ v,(Instr.lookup t (.map (some b)) kv ok).run P w=.ok v w/\VR gh n w v (pf ok va zero ks.length es o):=by
 have rN:=vV hT.key hk qo hl vd E.isEmpty
 have NC:=zq hT.key hk qo hl vd (l:=E.toList) (by simpa using hR.size) (fun i e r h1 h2=>hR.key i e r (by simpa using h1) h2) hf
 obtain⟨i0,CD,hz0⟩:=hT.hz
 have hzr:(zeroValue et).run P w=.ok z w:=by simp[zeroValue,typeInfo,CD,hz0]
 cases o with
 | none =>
  refine⟨if ok then .tuple #[z,.bool false] else z,?_,y7 (Lo hT) false⟩
  simp[Instr.lookup,run_underlying hT.ht,getObj,Sem.run,hb]
  simp[rN,NC,hzr]
 | some i =>
  have hi:=xl hf
  have hiE:i<E.size:=by rw[hR.size];exact hi
  have hE:E[i]?=some E[i]:=aop hiE
  have he:es[i]?=some es[i]:=an' hi
  obtain⟨k1,k2,g,k3,k4⟩:=hR.val i _ _ hE he
  have zR:es.getD i []=es[i]:=by simp[List.getD,he]
  have hed:E.toList.getD i default=E[i]:=by
   have:E.toList[i]?=some E[i]:=by rw[aoX];exact hE
   simp[List.getD,this]
  have hv:=RC (gh:=gh) (n:=n) (w:=w) (va:=va) (m:=es[i].length-ks.length) (g:=g) (cs:=es[i].drop ks.length) (by simp) (fun hva=>by have:=k2 hva;omega) k4
  rw[<- k3] at hv
  refine⟨if ok then .tuple #[E[i].val,.bool true] else E[i].val,?_,by simp only[pf];rw[zR];exact y7 hv true⟩
  simp only[aok,hed] at NC
  simp[Instr.lookup,run_underlying hT.ht,getObj,Sem.run,hb]
  simp[rN,NC]
theorem Dp{n:Nat}{t kt et:TypeId}{ks:List CK}{ka va:Bool}{vz:Nat}{z:Value}{zero:List AV}(hT:H3 P t kt et ks ka va vz z zero){kv:Value}{k:AV}{kc:List AV}(hk:VR gh n w kv k)(qo:k.cells=some kc)(hl:kc.length=ks.length)(vd:ka=k.isAgg)(ok:Bool) :
  ∃ v,(Instr.lookup t (.map none) kv ok).run P w=.ok v w/\VR gh n w v (y6 ok va zero false):=by
 have rN:=vV hT.key hk qo hl vd true
 have NC:=zq hT.key hk qo hl vd (l:=[]) (es:=[]) rfl (fun i e r h1 h2=>by simp at h1) (o:=none) rfl
 obtain⟨i0,CD,hz0⟩:=hT.hz
 have hzr:(zeroValue et).run P w=.ok z w:=by simp[zeroValue,typeInfo,CD,hz0]
 refine⟨if ok then .tuple #[z,.bool false] else z,?_,y7 (Lo hT) false⟩
 simp[Instr.lookup,run_underlying hT.ht]
 simp[rN,NC,hzr]
end
end
end Go.Abs
