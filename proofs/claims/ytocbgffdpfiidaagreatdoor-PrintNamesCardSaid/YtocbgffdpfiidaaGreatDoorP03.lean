/-
  A part of the proof of PrintNames: AbsOps9, AbsOps10, AbsOps11, AbsOps12, AbsCall, AbsMap1, AbsMap2.
-/
import Derived.Deep.Upon
import Derived.Lib.FrozenHead
import Derived.Test.YtocbgffdpfiidaaGreatDoorP02
set_option linter.unusedSimpArgs false
set_option linter.unusedVariables false
set_option linter.defProp false
namespace Go.Abs
section
section
variable {P:Program}{G:Nat->List AV}{base nt:Nat}{L:List Nat}{gh:Gh}{w w' : World}{a:Act}{s:AS}{H:ag}
theorem rQ(hW:aG G base s.H gh w)(hF:FR L nt gh w a s){t:Nat}(ht:t<nt){e:List (List AV)}{own:Bool}(hT:s.T t=.slice e own)(p:aX)(hp:p≠.outer) :
  ∃ aF,aG G base s.H aF w/\FR L nt aF w a (s.bz t (.slice e false))/\Ext s.H.length gh w aF w/\Step (fun r=>r=.sl t) s.H.length gh w aF w/\CR aF s.H.length w p (dO a t) (.slice e own):=by
 have dK:=fun b hb=>hW.bw (gh:=gh) b hb
 have h:CR gh s.H.length w (.sl t) (dO a t) (.slice e own):=by
  have h:=hF.slot t ht
  rw[hT] at h
  exact h
 rcases h with hv|⟨e',heq,DN,b,cap,C,ty,lo,hi,sz,fZ,hk,he,hb,hC,hr,hl,hh,hS⟩
 ·refine⟨gh,hW,?_,Ext.refl _ _ _ dK,Step.refl _ _ _ _ dK,.inl hv⟩
  exact hF.bz (touch:=fun _=>False) (H':=s.H) (lo':=s.lo) (Step.refl _ _ _ _ dK) (aiK _) (fun i _=>⟨id,id,fun _=>id⟩) (.inr rfl) (fun _=>.inl hv.dropped)
 ·injection heq with h1 h2
  subst h1 h2
  have a7:b<w.heap.size:=(aiN.1 hb).1
  have st:=js hW a7 p s.H.length
  rw[hk] at st
  have hn:gh.κ b≠.none:=by rw[hk];simp
  refine⟨gh.mT b p,F1 hW a7 p hn (by rw[hk];simp),?_,rq hW a7 hp hn (by rw[hk];simp) _,st,.inr ⟨e,rfl,DN,b,cap,C,ty,lo,hi,sz,fZ,by simp[Gh.mT],he,hb,hC,hr,hl,hh,hS⟩⟩
  refine hF.bz (H':=s.H) (lo':=s.lo) st (aiK _) (fun i hi=>⟨by simp,by simpa using hi,by simp⟩) (.inr rfl) (fun _=>?_)
  show CR (gh.mT b p) s.H.length w (.sl t) (dO a t) (.slice e false)
  exact .inl (.plain _ _ DN)
theorem Out.of{aF:Gh}{s1:AS}{d:Option Nat}{gen' : Nat}{v:Value}{x:AV}(hW:aG G base s1.H aF w')(hF:FR L nt aF w' a s1)(hE:Ext s.H.length gh w aF w')(hg:s1.gen<=gen')(hd:∀ k,d=some k->k<nt)
  (hx:aQ x=none\/((∃ g,s1.gen<=g/\aQ x=some g)/\∀ k,d=some k->k∈L)) (hv:∀ k,d=some k->SR aF s1.H.length nt w' s1.T gen' (dO a) k v x) :
  Out G base nt L gh w a s d x { s1 with gen:=gen' } v aF w' :=
 ⟨hW,hF.OI hg (fun b hb=>hW.bw b hb) d hd hx hv,hE⟩
theorem ig{x:Operand}{t:Nat}(h:ah nt x=some (.tmp t)):x=.tmp t/\t<nt:=by
 cases x with
 | tmp k =>
  simp only[ah] at h
  rcases ajE (Nat.blt k nt) with hb|hb<;>rw[hb] at h<;>simp at h
  subst h
  exact⟨rfl,by simpa [ajb] using hb⟩
 | const v =>
  simp only[ah,aiE] at h
  obtain⟨z,hz,h⟩:=h
  cases h
 | global g=>simp[ah] at h
 | func f=>simp[ah] at h
theorem Ce(hW:aG G base s.H gh w)(hF:FR L nt gh w a s){b g:Nat}{e:List (List AV)}(hb:b<nt)(hT:s.T b=.lsl g e)(pn:gd e=true)(p:aX)(hp:p≠.outer) :
  ∃ aF,aG G base s.H aF w/\FR L nt aF w a (s.bz b (.slice e false))/\Ext s.H.length gh w aF w/\CR aF s.H.length w p (dO a b) (.slice e true):=by
 have dK:=fun b hb=>hW.bw (gh:=gh) b hb
 have fh:(dO a b).oneCell'=true:=by obtain⟨ad,cap,hv,_⟩:=l8 hF hb hT;rw[hv];rfl
 obtain⟨ad,cap,hV,⟨rfl,rfl,vJ⟩|⟨k,C,ty,sz,cU,rfl,hκ,hS,hk,hC,hl,hr,fq⟩⟩:=l8 hF hb hT
 ·have hp:PR gh.S w (.slice ad 0 0) (.slice [] false):=by
   cases ad with
   | none=>exact .cB
   | some ad =>
    obtain⟨b',o',sp⟩:=ad
    have:=(vJ _ rfl).1
    simp only at this
    subst this
    exact .slice b' o' 0 0 0 [] (fun _ _=>undef) rfl (aiK _) (fun i r h=>by simp at h) (fun i j r x h=>by simp at h) (fun i j r x h=>by simp at h)
  refine⟨gh,hW,?_,Ext.refl _ _ _ dK,.inl ?_⟩
  ·exact hF.bz (touch:=fun _=>False) (H':=s.H) (lo':=s.lo) (Step.refl _ _ _ _ dK) (aiK _) (fun i _=>⟨id,id,fun _=>id⟩) (.inr rfl) (fun _=>.inl (.plain _ _ (by rw[hV];exact hp)))
  ·rw[hV]
   exact .full ad 0 [] hp (fun ZL h _=>(vJ ZL h).2)
 ·have j8:∀ o,gh.S k o->C[o]?=C[o]?:=fun _ _=>rfl
  have hn:gh.κ k≠.none:=by rw[hκ];simp
  have HI:∀ j m,j<e.length*sz->C[j]?=some (.int .u8 m)->ty=fP:=by
   intro j m hj hc
   have cy:fW gh.S w sz (C.toList.take (e.length*sz)).toArray e:=by
    have hle:e.length*sz<=C.size:=by rw[hC];exact aiZ _ hl
    refine⟨by simp;omega,hr,fun i j r x hi hj=>?_⟩
    obtain⟨u,hu,hp⟩:=fq i j r x hi hj
    refine⟨u,?_,hp⟩
    have h1:=(aiI.1 hi).1
    have h2:j<sz:=by rw[<- hr i r hi];exact (aiI.1 hj).1
    simp only[ai3,ai0,if_pos (qC h1 h2)]
    simpa using hu
   refine l6 (isB:=false) (m:=m) cy pn (fun h=>by cases h) hj ?_
   simp only[ai3,ai0,if_pos hj]
   simpa using hc
  have st:=nj hW hk rfl (fun o=>o<e.length*sz) j8 p s.H.length
  have hE:=uM hW hk rfl (fun o=>o<e.length*sz) j8 (p:=p) hp hn (by rw[hκ];simp) s.H.length
  have j6:=H3 hW hk rfl (fun o=>o<e.length*sz) j8 HI p hn (by rw[hκ];simp)
  have L1:=setRow_self w k C ty (0,0) hk
  rw[L1] at hE j6 st
  rw[hκ] at st
  have slc:∀ S' : Nat->Nat->Prop,(∀ o,o<e.length*sz->S' k o)->(∀ b o,gh.S b o->S' b o)->PR S' w (dO a b) (.slice e false):=by
   intro S' U1 hn2
   rw[hV]
   have key:∀ (i j:Nat) (r:List AV) (x:AV),e[i]?=some r->r[j]?=some x->C[i*sz+j]?=some (C.getD (i*sz+j) undef)/\PR gh.S w (C.getD (i*sz+j) undef) x/\i*sz+j<e.length*sz:=by
    intro i j r x hi hj
    obtain⟨u,hu,hp⟩:=fq i j r x hi hj
    have a7:=(aiN.1 hu).1
    have:C.getD (i*sz+j) undef=u:=by
     rw[aiS a7] at hu
     injection hu with hu
     simp[a7,hu]
    rw[this]
    exact⟨hu,hp,qC (aiI.1 hi).1 (by rw[<- hr i r hi];exact (aiI.1 hj).1)⟩
   refine .slice k 0 e.length cap sz e (fun i j=>C.getD (i*sz+j) undef) rfl hl hr (fun i j r x hi hj=>?_) (fun i j r x hi hj=>?_)
   ·obtain⟨h1,h2,h3⟩:=key i j r x hi hj
    refine⟨by have:=U1 _ h3;simpa using this,?_,h2.dB⟩
    rw[Nat.zero_add,cell_of_row w k _ C ty _ hk];exact h1
   ·exact (key i j r x hi hj).2.1.mono hn2 (fun _ _ _=>rfl) (fun _ _ _ _ h=>h)
  refine⟨_,j6,?_,hE,.inr ⟨e,rfl,?_,k,cap,C,ty,0,0,sz,hV,by simp,cU,hk,hC,hr,hl,ajy _,?_⟩⟩
  ·exact hF.bz (H':=s.H) (lo':=s.lo) st (aiK _) (fun i hi=>⟨by simpa using hi,by simp,by simp⟩) (.inr rfl) (fun _=>.inl (.plain _ _ (slc _ (fun o h=>.inr ⟨rfl,h⟩) (fun b o h=>.inl h))))
  ·exact slc _ (fun o h=>.inr ⟨rfl,h⟩) (fun b o h=>.inl h)
  ·rintro o ho (h|⟨_,h⟩)
   ·exact hS o h
   ·omega
theorem zU(hW:aG G base s.H gh w)(hF:FR L nt gh w a s){o:Oper}{x:Operand}{y:ak}{take obj:Bool}{z:AV}{s' : AS}(ho:o.op=.move x\/o.op=.assign x)(hc:ah nt x=some y)
  (he:kO G s take obj y=some (z,some s')) (hd:∀ k,o.dst=some k->k<nt) (hL:obj=true->∀ k,o.dst=some k->k∈L) :
  ∃ v' aF w',qM P a o w v' w'/\Out G base nt L gh w a s o.dst z s' v' aF w':=by
 have cm:(execOp a.eval o).run P w=.ok (.value (a.eval x)) w:=by rcases ho with ho|ho<;>simp[execOp,ho]
 cases y<;>simp only[kO] at he<;>try (cases he;done)
 rename_i t
 obtain⟨rfl,ht⟩:=ig hc
 change (execOp a.eval o).run P w=.ok (.value (dO a t)) w at cm
 split at he
 ·cases he
 ·rename_i g e hT
  cases take
  ·cases he
  simp only[cond_true] at he
  cases Kj:obj with
  | false =>
   rw[Kj] at he
   simp only[aiQ] at he
   obtain⟨pn,he⟩:=ab he
   simp only[aiG,aiH] at he
   obtain⟨rfl,rfl⟩:=he
   obtain⟨aF,h1,h2,h3,h4⟩:=Ce hW hF ht hT pn (Kl o.dst) (mo _)
   refine⟨_,aF,w,.inl cm,Out.of (s1:=s.bz t (.slice e false)) (gen':=s.gen) h1 h2 h3 (aiK _) hd (.inl rfl) (fun k hk=>?_)⟩
   rw[hk] at h4
   exact h4
  | true =>
  rw[Kj] at he
  simp only[cond_true] at he
  simp only[aiG,aiH] at he
  obtain⟨rfl,rfl⟩:=he
  have br:=l8 hF ht hT
  have dK:=fun b hb=>hW.bw (gh:=gh) b hb
  have fh:(dO a t).oneCell'=true:=by obtain⟨ad,cap,hv,_⟩:=br;rw[hv];rfl
  have key:∃ aF,aG G base s.H aF w/\FR L nt aF w a (s.bz t .any)/\Ext s.H.length gh w aF w/\om aF w (DL o.dst) (dO a t) e:=by
   obtain⟨ad,cap,hv,br⟩:=br
   rcases br with hz|⟨b,C,ty,sz,WG,ha,hk,hS,hb,hC,hl,hr,fq⟩
   ·refine⟨gh,hW,?_,Ext.refl _ _ _ dK,ad,cap,hv,.inl hz⟩
    exact hF.bz (touch:=fun _=>False) (H':=s.H) (lo':=s.lo) (Step.refl _ _ _ _ dK) (aiK _) (fun i _=>⟨id,id,fun _=>id⟩) (.inr rfl) (fun _=>.inl (.plain _ _ (.any _ fh)))
   ·have a7:b<w.heap.size:=(aiN.1 hb).1
    have st:=js hW a7 (DL o.dst) s.H.length
    rw[hk] at st
    have hn:gh.κ b≠.none:=by rw[hk];simp
    refine⟨gh.mT b (DL o.dst),F1 hW a7 _ hn (by rw[hk];simp),?_,rq hW a7 (qQ _) hn (by rw[hk];simp) _,ad,cap,hv,.inr ⟨b,C,ty,sz,WG,ha,by simp[Gh.mT],hS,hb,hC,hl,hr,fq⟩⟩
    exact hF.bz (H':=s.H) (lo':=s.lo) st (aiK _) (fun i hi=>⟨by simpa using hi,by simp,by simp⟩) (.inr rfl) (fun _=>.inl (.plain _ _ (.any _ fh)))
  obtain⟨aF,h1,h2,h3,h4⟩:=key
  refine⟨_,aF,w,.inl cm,Out.of (s1:=s.bz t .any) (gen':=s.gen+1) h1 h2 h3 (ajD _) hd (.inr ⟨⟨s.gen,aiK _,rfl⟩,hL Kj⟩) (fun k hk=>⟨akT _,?_⟩)⟩
  rw[hk] at h4
  exact h4
 ·rename_i e own hT
  simp only[aiG,aiH] at he
  obtain⟨rfl,he⟩:=he
  cases WX:(take&&own) with
  | false=>rw[WX] at he;cases he
  | true =>
   rw[WX] at he
   simp only[cond_true,aiG] at he
   subst he
   obtain⟨aF,h1,h2,h3,_,h4⟩:=rQ hW hF ht hT (Kl o.dst) (mo _)
   refine⟨_,aF,w,.inl cm,Out.of (s1:=s.bz t (.slice e false)) (gen':=s.gen) h1 h2 h3 (aiK _) hd (.inl rfl) (fun k hk=>?_)⟩
   rw[hk] at h4
   have WM:own=true:=by cases take<;>simp_all
   subst WM
   exact h4
 ·cases he
 ·cases he
theorem qB{cs:List AV}{off j:Nat} : (bN off cs)[j]?=if j=off then (cs[j]?).map AV.drop else cs[j]?:=by
 unfold bN
 rw[List.getElem?_modify]
 by_cases h:off=j
 ·subst h;simp
 ·rw[if_neg (fun e=>h e.symm)]
  cases cs[j]?<;>simp[h]
theorem xX{b:Nat}{p:aX}{q:Nat->aX}{n:Nat}{cs:List AV}(hW:aG G base H gh w)(hB:fI gh n w b p q cs){off:Nat}{v:AV}(hv:cs[off]?=some v)(r:aX)(hr:r≠.outer)(hq:∀ j,q j≠.none/\q j≠.outer/\q j≠p)(adR:∀ i j,q i=q j->i=j)(m:Nat) :
  ∃ aF u,(∀ b o,aF.S b o->gh.S b o)/\Step (fun o=>o=q off) m gh w aF w/\Ext m gh w aF w/\(∀ b o,aF.S b o->b<w.heap.size)/\(∀ b,aF.κ b≠.none->base<=b/\b<w.heap.size)/\fI aF n w b p q (bN off cs) /\
   w.cell? ⟨b,off,none⟩=some u/\u.oneCell'=true/\CR aF n w r u v:=by
 have dK:=fun b hb=>hW.bw (gh:=gh) b hb
 obtain⟨hκ,hS,C,ty,hb,hC,fq⟩:=hB
 have WI:off<cs.length:=(aiI.1 hv).1
 have aaX:off<C.size:=by omega
 have hu:C[off]?=some C[off]:=aiS aaX
 have bH:w.cell? ⟨b,off,none⟩=some C[off]:=by rw[cell_of_row w b off C ty _ hb,hu]
 obtain⟨h1,h2⟩:=fq off _ v hu hv
 rcases h2 with L3|⟨e,rfl,DN,b',cap,C',j9,lo,hi,sz,fZ,hk,he,fF,I',yw,hl,hh,hS'⟩
 ·refine⟨gh,C[off],fun _ _ h=>h,Step.refl _ _ _ _ dK,Ext.refl _ _ _ dK,hW.l7,hW.mG,⟨hκ,hS,C,ty,hb,by simp[bN];exact hC,fun j u x yp uu=>?_⟩,bH,h1,.inl L3⟩
  rw[qB] at uu
  split at uu
  ·simp only[aiE] at uu
   obtain⟨y,hy,rfl⟩:=uu
   obtain⟨k1,k2⟩:=fq j u y yp hy
   exact⟨k1,.inl k2.dropped⟩
  ·exact fq j u x yp uu
 ·have a7:b' < w.heap.size:=(aiN.1 fF).1
  have st:=js hW a7 r m
  rw[hk] at st
  have cU:b≠b':=by rintro rfl;rw[hκ] at hk;exact (hq off).2.2 hk.symm
  have hn:gh.κ b'≠.none:=by rw[hk];exact (hq off).1
  refine⟨gh.mT b' r,C[off],fun _ _ h=>h,st,rq hW a7 hr hn (by rw[hk];exact (hq off).2.1) m,hW.l7,?_,⟨by simp[Gh.mT,cU,hκ],hS,C,ty,hb,by simp[bN];exact hC,fun j u x yp uu=>?_⟩,bH,h1,
   .inr ⟨e,rfl,DN,b',cap,C',j9,lo,hi,sz,fZ,by simp[Gh.mT],he,fF,I',yw,hl,hh,hS'⟩⟩
  ·intro b1 HB
   have jA:(if b1=b' then r else gh.κ b1)≠.none:=HB
   split at jA
   ·rename_i e;rw[e];exact hW.mG b' hn
   ·exact hW.mG b1 jA
  ·have st':=js hW a7 r n
   rw[hk] at st'
   rw[qB] at uu
   split at uu
   ·rename_i hj
    subst hj
    rw[hv] at uu
    simp only[aiV,aiG] at uu
    subst uu
    rw[hu] at yp;injection yp with yp;subst yp
    exact⟨h1,.inl (.plain _ _ DN)⟩
   ·rename_i hj
    obtain⟨k1,k2⟩:=fq j u x yp uu
    exact⟨k1,k2.mono st' (aiK _) (fun e=>hj (adR _ _ e))⟩
theorem aG.G3{aF:Gh}{touch:aX->Prop}(hW:aG G base H gh w)(st:Step touch H.length gh w aF w'){loc:Nat}{ty:TypeId}{cs0:List AV}(hH:H[loc]?=some (.box ty cs0))(ht:∀ l,l≠loc->¬ touch (.hb l)/\∀ j,¬ touch (.hs l j))
  (hs:∀ b o,aF.S b o->b<w'.heap.size) (hk:∀ b,aF.κ b≠.none->base<=b/\b<w'.heap.size) {cs:List AV} (hB:fI aF H.length w' (aF.ρ loc) (.hb loc) (fun j=>.hs loc j) cs) (hr:cs.all (aR loc)=true) (mf:∀ b o,aF.S b o->gh.S b o) (hlen:cs.length=cs0.length) :
  aG G base (H.set loc (.box ty cs)) aF w':=by
 have a7:loc<H.length:=(aiI.1 hH).1
 refine⟨ajt hW.size st.size,hs,hk,fun g j x hx=>?_,fun l j9 ds hl=>?_,fun l j9 ds hl=>?_,fun g hg=>(hW.uB g hg).imp fun ty h=>st.len g ty _ h,hW.jc st (fun b o m h=>.inl (mf b o h)),fun l o hl=>?_,fun l j9 ds hl=>?_⟩
 ·obtain⟨v,h1,h2,h3⟩:=hW.aP g j x hx
  exact⟨v,(st.cell g j h3).trans h1,h2.mono st.S st.cell st.mp,st.S g j h3⟩
 ·rw[List.length_set]
  rw[ajF] at hl
  split at hl
  ·rename_i e
   subst e
   simp only[aiG,de.box.injEq] at hl
   obtain⟨rfl,rfl⟩:=hl
   exact hB
  ·rename_i e
   have h:=(hW.boxes l j9 ds hl).mono st (aiK _) (ht l (aj6 e)).1 (ht l (aj6 e)).2
   rw[st.ρ l (aiI.1 hl).1];exact h
 ·rw[ajF] at hl
  split at hl
  ·rename_i e
   subst e
   simp only[aiG,de.box.injEq] at hl
   obtain⟨rfl,rfl⟩:=hl
   exact hr
  ·exact hW.refs l j9 ds hl
 ·rw[List.length_set]
  rw[ajF] at hl
  split at hl
  ·rename_i e
   subst e
   injection hl with hl
   subst hl
   trivial
  ·rename_i e
   rw[st.ρ l (aiI.1 hl).1]
   exact (hW.more l o hl).mono st (aiK _) (ht l (aj6 e)).1 (ht l (aj6 e)).2
 ·rw[ajF] at hl
  split at hl
  ·rename_i e
   subst e
   simp only[aiG,de.box.injEq] at hl
   obtain⟨rfl,rfl⟩:=hl
   intro hf
   have hm:=hW.types loc _ cs0 hH hf
   rw[st.ρ loc a7,hlen]
   exact st.len _ _ _ hm
  ·rename_i e
   rw[st.ρ l (aiI.1 hl).1]
   exact fun hf=>st.len _ _ _ (hW.types l j9 ds hl hf)
theorem aG.uN{aF:Gh}{touch:aX->Prop}(hW:aG G base H gh w)(st:Step touch H.length gh w aF w'){loc:Nat}(a7:loc<H.length)(ht:∀ l,l≠loc->¬ touch (.hb l)/\∀ j,¬ touch (.hs l j))
  (hs:∀ b o,aF.S b o->b<w'.heap.size) (hk:∀ b,aF.κ b≠.none->base<=b/\b<w'.heap.size) {o:de} (HI:∀ ty cs,o≠.box ty cs) (hM:p7 aF H.length w' (aF.ρ loc) loc o)
  (mf:∀ b o m,aF.S b o->gh.S b o\/(w'.cell? ⟨b,o,none⟩=some (.int .u8 m)->∃ C fr,w'.heap[b]?=some (.cells C fP fr))):aG G base (H.set loc o) aF w':=by
 have box:∀ {l:Nat} {ty:TypeId} {ds:List AV},(H.set loc o)[l]?=some (.box ty ds)->l≠loc/\H[l]?=some (.box ty ds):=by
  intro l ty ds hl
  rw[ajF] at hl
  split at hl
  ·injection hl with hl;exact absurd hl (HI ty ds)
  ·rename_i e;exact⟨aj6 e,hl⟩
 refine⟨ajt hW.size st.size,hs,hk,fun g j x hx=>?_,fun l j9 ds hl=>?_,fun l j9 ds hl=>?_,fun g hg=>(hW.uB g hg).imp fun ty h=>st.len g ty _ h,hW.jc st mf,fun l o' hl=>?_,fun l j9 ds hl hf=>?_⟩
 ·obtain⟨v,h1,h2,h3⟩:=hW.aP g j x hx
  exact⟨v,(st.cell g j h3).trans h1,h2.mono st.S st.cell st.mp,st.S g j h3⟩
 ·obtain⟨cU,hl⟩:=box hl
  rw[List.length_set,st.ρ l (aiI.1 hl).1]
  exact (hW.boxes l j9 ds hl).mono st (aiK _) (ht l cU).1 (ht l cU).2
 ·exact hW.refs l j9 ds (box hl).2
 ·rw[List.length_set]
  rw[ajF] at hl
  split at hl
  ·rename_i e
   subst e
   injection hl with hl
   subst hl
   exact hM
  ·rename_i e
   rw[st.ρ l (aiI.1 hl).1]
   exact (hW.more l o' hl).mono st (aiK _) (ht l (aj6 e)).1 (ht l (aj6 e)).2
 ·obtain⟨cU,hl⟩:=box hl
  rw[st.ρ l (aiI.1 hl).1]
  exact st.len _ _ _ (hW.types l j9 ds hl hf)
theorem aG.Dj(hW:aG G base H gh w){ob:Obj}(hp:dv w w' ob){o:de}(HI:∀ ty cs,o≠.box ty cs)(hM:p7 (gh.bj w.heap.size H.length) (H.length+1) w' w.heap.size H.length o) :
  aG G base (H++[o]) (gh.bj w.heap.size H.length) w':=by
 have st:=fp hW hp
 have old:∀ {l:Nat} {o' : de},(H++[o])[l]?=some o'->(l<H.length/\H[l]?=some o')\/(l=H.length/\o'=o):=by
  intro l o' hl
  by_cases a7:l<H.length
  ·rw[ai1 a7] at hl;exact .inl ⟨a7,hl⟩
  ·rw[ai7 (by omega)] at hl
   have hz:l=H.length:=by
    have:=(aiI.1 hl).1
    simp at this;omega
   subst hz
   simp at hl
   exact .inr ⟨rfl,hl.symm⟩
 refine⟨ajt hW.size st.size,?_,?_,fun g j x hx=>?_,fun l j9 ds hl=>?_,fun l j9 ds hl=>?_,fun g hg=>(hW.uB g hg).imp fun ty h=>st.len g ty _ h,hW.jc st (fun b o m h=>h.elim .inl (fun h=>h.2.elim)),fun l o' hl=>?_,fun l j9 ds hl hf=>?_⟩
 ·intro b o ho
  rw[hp.size]
  rcases ho with ho|⟨_,ho⟩
  ·have:=hW.l7 b o ho;omega
  ·exact ho.elim
 ·intro b hb
  rw[hp.size]
  have fF:(if b=w.heap.size then aX.hb H.length else gh.κ b)≠.none:=hb
  split at fF
  ·rename_i e
   have:=hW.size
   omega
  ·have:=hW.mG b fF;omega
 ·obtain⟨v,h1,h2,h3⟩:=hW.aP g j x hx
  exact⟨v,(st.cell g j h3).trans h1,h2.mono st.S st.cell st.mp,st.S g j h3⟩
 ·rcases old hl with ⟨a7,hl⟩|⟨_,h⟩
  ·rw[List.length_append,ajQ,st.ρ l a7]
   exact (hW.boxes l j9 ds hl).mono st (ajD _) id (fun _=>id)
  ·exact absurd h.symm (HI j9 ds)
 ·rcases old hl with ⟨a7,hl⟩|⟨_,h⟩
  ·exact hW.refs l j9 ds hl
  ·exact absurd h.symm (HI j9 ds)
 ·rw[List.length_append,ajQ]
  rcases old hl with ⟨a7,hl⟩|⟨rfl,rfl⟩
  ·rw[st.ρ l a7]
   exact (hW.more l o' hl).mono st (ajD _) id (fun _=>id)
  ·have hρ:(gh.bj w.heap.size H.length).ρ H.length=w.heap.size:=by simp[Gh.bj]
   rw[hρ];exact hM
 ·rcases old hl with ⟨a7,hl⟩|⟨_,h⟩
  ·rw[st.ρ l a7]
   exact st.len _ _ _ (hW.types l j9 ds hl hf)
  ·exact absurd h.symm (HI j9 ds)
theorem CY{cs:List AV}{off:Nat}{y:AV}(h:y∈bN off cs):y∈cs\/∃ x,x∈cs/\y=x.drop:=by
 obtain⟨j,hj⟩:=ai' h
 rw[qB] at hj
 split at hj
 ·simp only[aiE] at hj
  obtain⟨x,hx,rfl⟩:=hj
  exact .inr ⟨x,aiT hx,rfl⟩
 ·exact .inl (aiT hj)
theorem AW{cs:List AV}{off loc:Nat}(h:cs.all (aR loc)=true):(bN off cs).all (aR loc)=true:=by
 refine aiO.2 fun y hy=>?_
 rcases CY hy with hy|⟨x,hx,rfl⟩
 ·exact aiO.1 h y hy
 ·exact mz (aiO.1 h x hx)
theorem l9{n:Nat}{T:aC}{gen:Nat}{tm:Nat->Value}{i:Nat}{v:Value}{x:AV}(hx:ar x=true)(h:CR gh n w (.sl i) v x):SR gh n nt w T gen tm i v x:=by
 cases x<;>first|exact h|(simp[ar] at hx)
theorem CR.ar{n:Nat}{p:aX}{v:Value}{x:AV}(h:CR gh n w p v x):ar x=true:=by
 rcases h with h|⟨e,rfl,_⟩
 ·cases h with
  | plain _ _ h=>cases h<;>rfl
  | full=>rfl
  | ref=>rfl
  | sref=>rfl
  | mref=>rfl
  | func=>rfl
  | iface=>rfl
  | agg=>rfl
  | tuple=>rfl
 ·rfl
theorem iZ{x:AV}(h:Abs.ar x=true):aQ x=none:=by cases x<;>first|rfl|(simp[Abs.ar] at h)
theorem yX{t:TypeId}(hg:ki P t=some false){b off:Nat}{u:Value}(hc:w.cell? ⟨b,off,none⟩=some u):(Instr.loadAt t (.pointer (some ⟨b,off,none⟩))).run P w=.ok u w:=by
 simp[Instr.loadAt,Instr.sureAddr,loadVar,fT hg,hc]
theorem zT(hW:aG G base s.H gh w)(hF:FR L nt gh w a s){o:Oper}{t:TypeId}{x:Operand}{y:ak}{take agg:Bool}{sz:Nat}{z:AV}{s' : AS}(ho:o.op=.load t x)(hc:ah nt x=some y)(hg:ki P t=some agg)(hs:da P t=some sz)
  (he:cG s take agg sz (y.addr G s.T)=some (z,some s')) (hd:∀ k,o.dst=some k->k<nt) :
  ∃ v' aF w',qM P a o w v' w'/\Out G base nt L gh w a s o.dst z s' v' aF w':=by
 have hv:=arg_val hW hF hc
 generalize hY:y.addr G s.T=Y at hv he
 cases Y<;>simp only[cG] at he<;>try (cases he;done)
 case eptr cs=>simp at he
 case ref loc off =>
  obtain⟨a7,nX⟩:=VR.gV (hv:VR gh s.H.length w (a.eval x) (.ref loc off))
  split at he
  ·rename_i Km cs hH
   simp only[aiE,aiH] at he
   obtain⟨u,hu,rfl,hn⟩:=he
   cases hq:(take&&!agg) with
   | false=>rw[hq] at hn;cases hn
   | true =>
    rw[hq] at hn
    simp only[cond_true,aiG] at hn
    subst hn
    simp only[aiL,akk] at hq
    obtain⟨rfl,rfl⟩:=hq
    simp only[an,aiQ,cond_true,aiE] at hu
    obtain⟨u',hu,rfl⟩:=hu
    obtain⟨aF,uv,hSS,st,hE,qt,pH,hB,bH,fh,kB⟩:=xX hW (hW.boxes loc _ cs hH) hu (Kl o.dst) (mo _) (by simp) (by simp) s.H.length
    have hρ:aF.ρ loc=gh.ρ loc:=st.ρ loc a7
    have j6:aG G base (s.H.set loc (.box Km (bN off cs))) aF w:=hW.G3 st hH (by intro l hl;simp[hl]) qt pH (by rw[hρ];exact hB) (AW (hW.refs loc _ cs hH)) hSS (by simp[bN])
    have Cl:FR L nt aF w a (s.dZ ⟨s.H.set loc (.box Km (bN off cs)),loc⟩):=hF.grown st (fun i=>⟨by simp,by simp,by simp⟩) (by simp)
    refine⟨uv,aF,w,.inl ?_,Out.of (s1:=s.dZ ⟨s.H.set loc (.box Km (bN off cs)),loc⟩) (gen':=s.gen) j6 Cl hE (aiK _) hd (.inl (iZ kB.ar)) (fun k hk=>?_)⟩
    ·simp[execOp,ho,nX,yX hg bH]
    ·rw[hk] at kB
     have:(s.dZ ⟨s.H.set loc (.box Km (bN off cs)),loc⟩).H.length=s.H.length:=by simp[AS.dZ]
     rw[this]
     exact l9 kB.ar kB
  ·simp at he
  ·simp at he
  ·cases he
 case lref b g off =>
  obtain⟨hb,F6,hr⟩:=(hv:_/\_/\_)
  split at he
  ·rename_i g' cs hT
   obtain⟨h0,nY⟩:=ab he
   clear he
   have A7:g=g':=by simpa [dU] using h0
   subst A7
   rename _=some (z,some s')=>he
   simp only[aiE,aiH] at he
   obtain⟨u,hu,rfl,hn⟩:=he
   cases hq:(take&&!agg) with
   | false=>rw[hq] at hn;cases hn
   | true =>
    rw[hq] at hn
    simp only[cond_true,aiG] at hn
    subst hn
    simp only[aiL,akk] at hq
    obtain⟨rfl,rfl⟩:=hq
    simp only[an,aiQ,cond_true,aiE] at hu
    obtain⟨u',hu,rfl⟩:=hu
    obtain⟨k,hk,Wj⟩:=rV hF hb hT
    have nX:=hr (by rw[hT];rfl) k hk
    obtain⟨aF,uv,hSS,st,hE,qt,pH,hB,bH,fh,kB⟩:=xX hW Wj hu (Kl o.dst) (mo _) (by simp) (by simp) s.H.length
    have j6:aG G base s.H aF w:=hW.step st (by simp) qt pH (fun b o _ h=>.inl (hSS b o h))
    have Cl:FR L nt aF w a (s.bz b (.lbox g (bN off cs))) :=
     hF.bz (H':=s.H) (lo':=s.lo) st (aiK _) (fun i hi=>⟨by simp,by simp,by intro j e;injection e with e _;exact hi e⟩) (.inl ⟨hb,by rw[hT];rfl⟩) (fun _=>⟨by
      have h:=hF.slot b hb
      rw[hT] at h
      exact h.1,k,hk,hB⟩)
    refine⟨uv,aF,w,.inl ?_,Out.of (s1:=s.bz b (.lbox g (bN off cs))) (gen':=s.gen) j6 Cl hE (aiK _) hd (.inl (iZ kB.ar)) (fun k hk=>?_)⟩
    ·simp[execOp,ho,nX,yX hg bH]
    ·rw[hk] at kB
     exact l9 kB.ar kB
  ·cases he
 case eref b g i zz off =>
  split at he
  ·obtain⟨_,he⟩:=ab he
   simp only[aiF] at he
   obtain⟨r,_,he⟩:=he
   obtain⟨_,he⟩:=ab he
   simp at he
  ·cases he
end
end
section
section
variable {P:Program}{G:Nat->List AV}{base nt:Nat}{L:List Nat}{gh:Gh}{w w' : World}{a:Act}{s:AS}{H:ag}
theorem mI(hW:aG G base s.H gh w)(hF:FR L nt gh w a s){x:Operand}{y:ak}(hc:ah nt x=some y)(hf:ar (y.eval G s.T)=true)(p:aX)(hp:p≠.outer) :
  ∃ aF,aG G base s.H aF w/\FR L nt aF w a (s.cq y)/\Ext s.H.length gh w aF w/\Step (fun r=>∃ t,r=.sl t) s.H.length gh w aF w/\CR aF s.H.length w p (a.eval x) (y.eval G s.T):=by
 have dK:=fun b hb=>hW.bw (gh:=gh) b hb
 have stay:s.cq y=s->VR gh s.H.length w (a.eval x) (y.eval G s.T)->∃ aF,aG G base s.H aF w/\FR L nt aF w a (s.cq y)/\Ext s.H.length gh w aF w/\Step (fun r=>∃ t,r=.sl t) s.H.length gh w aF w/\CR aF s.H.length w p (a.eval x) (y.eval G s.T):=by
  intro h1 h2
  rw[h1]
  exact⟨gh,hW,hF,Ext.refl _ _ _ dK,Step.refl _ _ _ _ dK,.inl h2⟩
 cases y with
 | tmp t =>
  obtain⟨rfl,ht⟩:=ig hc
  have hd:=bS hW hF hc rfl hf
  simp only[ak.eval] at hf hd stay ⊢
  cases hT:s.T t with
  | slice e own =>
   cases own with
   | false =>
    rw[hT] at hd stay
    exact stay (by simp[AS.cq,hT]) hd
   | true =>
    obtain⟨aF,h1,h2,h3,h4,h5⟩:=rQ hW hF ht hT p hp
    refine⟨aF,h1,?_,h3,h4.mono (fun r h=>⟨t,h⟩),h5⟩
    simpa [AS.cq,hT] using h2
  | _ =>
   rw[hT] at hd stay
   exact stay (by simp[AS.cq,hT]) hd
 | a8 v =>
  refine stay rfl ?_
  cases x with
  | tmp k =>
   simp only[ah] at hc
   rcases ajE (Nat.blt k nt) with hb|hb<;>rw[hb] at hc<;>simp at hc
  | const u =>
   simp only[ah,aiE] at hc
   obtain⟨z,hz,h⟩:=hc
   injection h with h
   subst h
   exact ik hz
  | global g=>simp[ah] at hc
  | func f=>simp[ah] at hc
 | aP g =>
  refine stay rfl ?_
  have:=bS hW hF hc rfl hf
  exact this
 | fn f =>
  refine stay rfl ?_
  have:=bS hW hF hc rfl hf
  exact this
theorem O4{b:Nat} : ({ S:=fun b' o=>gh.S b' o\/(b'=b/\(fun _=>False) o),κ:=fun b'=>if b'=b then gh.κ b else gh.κ b',ρ:=gh.ρ } : Gh)=gh:=by
 obtain⟨S,κ,ρ⟩:=gh
 congr 1
 ·funext b' o
  simp
 ·funext b'
  by_cases h:b'=b
  ·subst h;simp
  ·simp[h]
theorem j0(hW:aG G base H gh w){b:Nat}{C C' : Array Value}{ty:TypeId}{fr:Nat × Nat}(hb:w.heap[b]?=some (.cells C ty fr))(fC:C'.size=C.size)(bH:∀ o,gh.S b o->C'[o]?=C[o]?)(n:Nat) :
  Step (fun r=>r=gh.κ b) n gh w gh (w.setRow b C'):=by
 have h:=nj hW hb fC (fun _=>False) bH (gh.κ b) n
 rw[O4] at h
 exact h
theorem wv(hW:aG G base H gh w){b:Nat}{C C' : Array Value}{ty:TypeId}{fr:Nat × Nat}(hb:w.heap[b]?=some (.cells C ty fr))(fC:C'.size=C.size)(bH:∀ o,gh.S b o->C'[o]?=C[o]?)(h0:gh.κ b≠.none)(h1:gh.κ b≠.outer)(n:Nat) :
  Ext n gh w gh (w.setRow b C') :=
 ⟨(j0 hW hb fC bH n).mono (fun r h=>by rw[h];exact⟨h0,h1⟩),fun _ h=>h⟩
def dE(C:Array Value)(off:Nat)(D:Array Value):Array Value:=(C.toList.take off++D.toList++C.toList.drop (off+D.toList.length)).toArray
theorem iF{C D:Array Value}{off:Nat}(h:off+D.size<=C.size)(j:Nat):(dE C off D)[j]?=if off<=j/\j<off+D.size then D[j-off]? else C[j]?:=by
 have LR:min off C.size=off:=by omega
 unfold dE
 simp only[ai3,aju,List.length_append,List.length_take,ai0,aje,alc,ajd,LR]
 by_cases h1:j<off
 ·have e1:j<off+D.size:=by omega
  rw[if_pos e1,if_pos h1,if_pos h1,if_neg (by omega)]
 ·by_cases h2:j<off+D.size
  ·rw[if_pos h2,if_neg h1,if_pos ⟨by omega,h2⟩]
  ·rw[if_neg h2,if_neg (by omega)]
   congr 1;omega
theorem cE{C D:Array Value}{off:Nat}(h:off+D.size<=C.size):(dE C off D).size=C.size:=by
 unfold dE;simp;omega
theorem ua{t:TypeId}{sz:Nat}(hs:da P t=some sz){b off:Nat}{C:Array Value}{ty:TypeId}(hb:w.heap[b]?=some (.cells C ty (0,0))){v:Value}(hv:v.cells.size=sz)(gY:off+sz<=C.size)(fh:∀ u∈v.cells.toList,u.oneCell'=true) :
  (Instr.storeAt t (.pointer (some ⟨b,off,none⟩)) v).run P w=.ok () (w.setRow b (dE C off v.cells)):=by
 have h:=run_storeCells_at P b off ty v.cells.toList 0 C w hb (by simp;omega) fh
 simp only[aki] at h
 simp[Instr.storeAt,Instr.sureAddr,storeVar,cZ hs,hv,h,dE]
theorem sv(hW:aG G base H gh w){b:Nat}{p:aX}{q:Nat->aX}{n:Nat}{cs vs:List AV}(hB:fI gh n w b p q cs){off sz:Nat}{t:TypeId}(hs:da P t=some sz){v:Value}(sd:vs.length=sz)(WI:off+sz<=cs.length)
  (hv:v.cells.size=sz) (bU:∀ (j:Nat) (u:Value) (x:AV),v.cells[j]?=some u->vs[j]?=some x->u.oneCell'=true/\CR gh n w (q (off+j)) u x) (hq:∀ j,q j≠p) (hp:p≠.none/\p≠.outer) (m:Nat) :
  ∃ w',(Instr.storeAt t (.pointer (some ⟨b,off,none⟩)) v).run P w=.ok () w'/\Step (fun r=>r=p) m gh w gh w'/\Ext m gh w gh w'/\w'.heap.size=w.heap.size/\fI gh n w' b p q (putAt cs off vs):=by
 obtain⟨hκ,hS,C,ty,hb,hC,fq⟩:=hB
 have j8:∀ o,gh.S b o->(dE C off v.cells)[o]?=C[o]?:=fun o ho=>(hS o ho).elim
 have Cv:(dE C off v.cells).size=C.size:=cE (by omega)
 have st:=j0 hW hb Cv j8 m
 have stn:=j0 hW hb Cv j8 n
 have hE:=wv hW hb Cv j8 (by rw[hκ];exact hp.1) (by rw[hκ];exact hp.2) m
 rw[hκ] at st stn
 have gY:off+v.cells.size<=C.size:=by omega
 refine⟨_,ua hs hb hv (by omega) ?_,st,hE,by simp,hκ,hS,_,ty,setRow_heap w b C _ ty _ hb,by rw[cE gY,ni (by omega)];exact hC,fun j u x yp uu=>?_⟩
 ·intro u hu
  obtain⟨j,hj⟩:=ai' hu
  have rZ:v.cells[j]?=some u:=by simpa using hj
  have a7:j<vs.length:=by rw[sd,<- hv];exact (aiN.1 rZ).1
  exact (bU j u _ rZ (aiJ a7)).1
 ·rw[iF gY] at yp
  rw[pA (by omega)] at uu
  have e1:v.cells.size=vs.length:=by omega
  rw[e1] at yp
  split at yp
  ·rename_i hc
   rw[if_pos hc] at uu
   obtain⟨k1,k2⟩:=bU _ u x yp uu
   rw[show off+(j-off)=j by omega] at k2
   exact⟨k1,k2.mono stn (aiK _) (hq j)⟩
  ·rename_i hc
   rw[if_neg hc] at uu
   obtain⟨k1,k2⟩:=fq j u x yp uu
   exact⟨k1,k2.mono stn (aiK _) (hq j)⟩
theorem qS{n:Nat}{v:Value}{x:AV}{vs:List AV}{q:Nat->aX}{off:Nat}(h:CR gh n w (q off) v x)(hc:x.cells=some vs) :
  v.cells.size=vs.length/\∀ (j:Nat) (u:Value) (y:AV),v.cells[j]?=some u->vs[j]?=some y->u.oneCell'=true/\CR gh n w (q (off+j)) u y:=by
 rcases h with h|⟨e,rfl,DN,hO⟩
 ·have hr:=pb h hc
  exact⟨hr.1,fun j u y hu hy=>⟨(hr.2 j u y hu hy).2,.inl (hr.2 j u y hu hy).1⟩⟩
 ·have e1:vs=[.slice e true]:=by simpa [AV.cells] using hc.symm
  subst e1
  have fh:=DN.dB
  have:v.cells=#[v]:=by obtain⟨b,cap,_,_,_,_,_,rfl,_⟩:=hO;rfl
  rw[this]
  refine⟨rfl,fun j u y hu hy=>?_⟩
  cases j with
  | zero=>simp at hu hy;subst hu hy;exact⟨fh,.inr ⟨e,rfl,DN,hO⟩⟩
  | succ j=>simp at hu
theorem gx{x:AV}{vs:List AV}(h:x.cells=some vs):ar x=true:=by cases x<;>first|rfl|cases h
theorem fM(s:AS)(y:ak):(s.cq y).H=s.H/\(s.cq y).gen=s.gen/\(s.cq y).lo=s.lo:=by
 cases y with
 | tmp t=>simp only[AS.cq];split<;>exact⟨rfl,rfl,rfl⟩
 | _=>exact⟨rfl,rfl,rfl⟩
theorem H5(s:AS)(y:ak)(b:Nat)(h:∀ e,s.T b≠.slice e true):(s.cq y).T b=s.T b:=by
 cases y<;>simp only[AS.cq]
 rename_i t
 split
 ·rename_i e hT
  by_cases hb:b=t
  ·subst hb;exact absurd hT (h e)
  ·simp[AS.bz,gr,hb]
 ·rfl
theorem lr(s:AS)(t:Nat)(h:∀ e,s.T t≠.slice e true):s.cq (.tmp t)=s:=by
 simp only[AS.cq]
theorem pC(s:AS)(t:Nat){e:List (List AV)}(h:s.T t=.slice e true):s.cq (.tmp t)=s.bz t (.slice e false):=by
 simp only[AS.cq,h]
theorem wM(s:AS)(y:ak)(b:Nat)(X:AV)(h:∀ e,s.T b≠.slice e true)(hX:∀ e,X≠.slice e true):(s.bz b X).cq y=(s.cq y).bz b X:=by
 cases y<;>try rfl
 rename_i t
 by_cases hb:t=b
 ·subst hb
  rw[lr s t h,lr _ t (by simpa [AS.bz,gr] using hX)]
 ·have e1:(s.bz b X).T t=s.T t:=by simp[AS.bz,gr,hb]
  by_cases ho:∃ e,s.T t=.slice e true
  ·obtain⟨e,ho⟩:=ho
   rw[pC s t ho,pC (s.bz b X) t (by rw[e1,ho])]
   simp only[AS.bz]
   congr 1
   funext k
   simp only[gr]
   by_cases h1:k=t
   ·subst h1;simp[hb]
   ·by_cases h2:k=b
    ·subst h2;simp[h1]
    ·simp[h1,h2]
  ·have pk:∀ e,s.T t≠.slice e true:=fun e he=>ho ⟨e,he⟩
   rw[lr s t pk,lr (s.bz b X) t (by rw[e1];exact pk)]
theorem tn(s:AS)(y:ak)(c:fz):(s.dZ c).cq y=(s.cq y).dZ c:=by
 cases y<;>simp only[AS.cq]
 rename_i t
 show (match s.T t with|.slice e true=>(s.dZ c).bz t (.slice e false)|_=>s.dZ c)=_
 cases hT:s.T t<;>try rfl
 rename_i e own
 cases own<;>rfl
theorem Out.skip{aF:Gh}{s1:AS}{d:Option Nat}(hW:aG G base s1.H aF w')(hF:FR L nt aF w' a s1)(hE:Ext s.H.length gh w aF w')(hd:∀ k,d=some k->k<nt):Out G base nt L gh w a s d .undef s1 undef aF w' :=
 Out.of (gen':=s1.gen) hW hF hE (aiK _) hd (.inl rfl) (fun k hk=>.inl VR.undef)
theorem JP{cs vs:List AV}{off:Nat}{f:AV->Bool}(h1:cs.all f=true)(h2:vs.all f=true):(putAt cs off vs).all f=true:=by
 refine aiO.2 fun x hx=>?_
 unfold putAt at hx
 rcases aiM.1 hx with hx|hx
 ·rcases aiM.1 hx with hx|hx
  ·exact aiO.1 h1 x (ajR hx)
  ·exact aiO.1 h2 x hx
 ·exact aiO.1 h1 x (List.mem_of_mem_drop hx)
theorem Lg(hW:aG G base s.H gh w)(hF:FR L nt gh w a s){o:Oper}{t:TypeId}{xa xv:Operand}{ya yv:ak}{sz:Nat}{s' : AS}(ho:o.op=.store t xa xv)(HD:ah nt xa=some ya)(UP:ah nt xv=some yv)(hs:da P t=some sz)
  (he:ba s sz (ya.addr G s.T) (yv.eval G s.T)=some s') (hd:∀ k,o.dst=some k->k<nt) :
  ∃ v' aF w',qM P a o w v' w'/\Out G base nt L gh w a s o.dst .undef (s'.cq yv) v' aF w':=by
 have ha:=arg_val hW hF HD
 unfold ba at he
 split at he
 ·cases he
 rename_i vs sd
 obtain⟨hlen,he⟩:=ab he
 have hlen:vs.length=sz:=by simpa [dU] using hlen
 have Kf:=gx sd
 generalize hY:ya.addr G s.T=Y at ha he
 cases Y<;>simp only at he<;>try (cases he;done)
 case ref loc off =>
  obtain⟨a7,nX⟩:=VR.gV (ha:VR gh s.H.length w (a.eval xa) (.ref loc off))
  split at he
  ·rename_i Km cs hH
   obtain⟨h0,he⟩:=ab he
   injection he with he
   subst he
   simp only[aiL,ajg] at h0
   obtain⟨jP,nW,uq,DM,PW,kB⟩:=mI hW hF UP Kf (.hs loc off) (by simp)
   have hρ:jP.ρ loc=gh.ρ loc:=PW.ρ loc a7
   obtain⟨fC,bU⟩:=qS (q:=fun j=>.hs loc j) kB sd
   obtain⟨w',cm,ud,vC,lO,hB⟩:=sv (P:=P) nW (nW.boxes loc _ cs hH) hs hlen h0.1 (by omega) bU (by simp) (by simp) s.H.length
   have z7:aG G base (s.H.set loc (.box Km (putAt cs off vs))) jP w':=nW.G3 ud hH (by intro l hl;simp[hl]) (fun b o ho=>by rw[lO];exact nW.l7 b o ho) (fun b hb=>by rw[lO];exact nW.mG b hb) hB (JP (nW.refs loc _ cs hH) h0.2) (fun _ _ h=>h) (ni (by omega))
   have hS:=fM s yv
   have Cm:FR L nt jP w' a ((s.cq yv).dZ ⟨s.H.set loc (.box Km (putAt cs off vs)),loc⟩):=uq.grown (by rw[hS.1];exact ud) (fun i=>⟨by simp,by simp,by simp⟩) (by rw[hS.1];simp)
   refine⟨undef,jP,w',.inr ⟨?_,rfl⟩,?_⟩
   ·simp[execOp,ho,nX,<- hρ,cm]
   ·rw[tn]
    exact Out.skip (s1:=(s.cq yv).dZ ⟨s.H.set loc (.box Km (putAt cs off vs)),loc⟩) z7 Cm (DM.trans vC (aiK _)) hd
  ·rename_i cs hH
   obtain⟨h0,he⟩:=ab he
   injection he with he
   subst he
   simp only[aiL,ajg] at h0
   obtain⟨jP,nW,uq,DM,PW,kB⟩:=mI hW hF UP Kf (.hs loc off) (by simp)
   have hρ:jP.ρ loc=gh.ρ loc:=PW.ρ loc a7
   obtain⟨fC,bU⟩:=qS (q:=fun j=>.hs loc j) kB sd
   obtain⟨w',cm,ud,vC,lO,hB⟩:=sv (P:=P) nW (nW.more loc _ hH:fI jP s.H.length w (jP.ρ loc) (.hb loc) (fun j=>.hs loc j) cs) hs hlen h0.1 (by omega) bU (by simp) (by simp) s.H.length
   have z7:aG G base (s.H.set loc (.dL (putAt cs off vs))) jP w':=nW.uN ud a7 (by intro l hl;simp[hl]) (fun b o ho=>by rw[lO];exact nW.l7 b o ho) (fun b hb=>by rw[lO];exact nW.mG b hb) (fun _ _ h=>by cases h) hB (fun _ _ _ h=>.inl h)
   have hS:=fM s yv
   have Cm:FR L nt jP w' a ((s.cq yv).dZ ⟨s.H.set loc (.dL (putAt cs off vs)),loc⟩):=uq.grown (by rw[hS.1];exact ud) (fun i=>⟨by simp,by simp,by simp⟩) (by rw[hS.1];simp)
   refine⟨undef,jP,w',.inr ⟨?_,rfl⟩,?_⟩
   ·simp[execOp,ho,nX,<- hρ,cm]
   ·rw[tn]
    exact Out.skip (s1:=(s.cq yv).dZ ⟨s.H.set loc (.dL (putAt cs off vs)),loc⟩) z7 Cm (DM.trans vC (aiK _)) hd
  ·cases he
 case lref b g off =>
  obtain⟨hb,F6,hr⟩:=(ha:_/\_/\_)
  split at he
  ·rename_i g' cs hT
   obtain⟨h0,he⟩:=ab he
   injection he with he
   subst he
   simp only[aiL,ajg,dU,ai2] at h0
   obtain⟨⟨rfl,h0⟩,_⟩:=h0
   obtain⟨k,hk,_⟩:=rV hF hb hT
   have nX:=hr (by rw[hT];rfl) k hk
   obtain⟨jP,nW,uq,DM,PW,kB⟩:=mI hW hF UP Kf (.sc b off) (by simp)
   have hS:=fM s yv
   have QJ:(s.cq yv).T b=.lbox g cs:=by rw[H5 _ _ _ (by rw[hT];simp),hT]
   obtain⟨k',pH,hB1⟩:=rV uq hb QJ
   have Zz:k'=k:=by rw[hk] at pH;injection pH with h;injection h with h;injection h with h;exact h.symm
   subst Zz
   rw[hS.1] at hB1
   obtain⟨fC,bU⟩:=qS (q:=fun j=>.sc b j) kB sd
   obtain⟨w',cm,ud,vC,lO,hB⟩:=sv (P:=P) nW hB1 hs hlen h0 (by omega) bU (by simp) (by simp) s.H.length
   have z7:aG G base s.H jP w':=nW.step ud (by simp) (fun b o ho=>by rw[lO];exact nW.l7 b o ho) (fun b hb=>by rw[lO];exact nW.mG b hb) (fun _ _ _ h=>.inl h)
   have Cm:FR L nt jP w' a ((s.cq yv).bz b (.lbox g (putAt cs off vs))):=by
    refine uq.bz (H':=(s.cq yv).H) (lo':=(s.cq yv).lo) (by rw[hS.1];exact ud) (aiK _) (fun i hi=>⟨by simpa using hi,by simp,by simp⟩) (.inl ⟨hb,by rw[QJ];rfl⟩) (fun _=>⟨?_,k',hk,?_⟩)
    ·have h:=uq.slot b hb
     rw[QJ] at h
     exact h.1
    ·rw[hS.1];exact hB
   refine⟨undef,jP,w',.inr ⟨?_,rfl⟩,?_⟩
   ·simp[execOp,ho,nX,cm]
   ·rw[wM _ _ _ _ (by rw[hT];simp) (by simp)]
    exact Out.skip (s1:=(s.cq yv).bz b (.lbox g (putAt cs off vs))) (by show aG G base (s.cq yv).H jP w';rw[hS.1];exact z7) Cm (DM.trans vC (aiK _)) hd
  ·cases he
 case eref b g i z off =>
  obtain⟨hb,F6,hr⟩:=(ha:_/\_/\_)
  split at he
  ·rename_i g' e hT
   obtain⟨h0,UR⟩:=ab he
   have A7:g=g':=by simpa [dU] using h0
   clear he
   subst A7
   simp only[aiF] at UR
   obtain⟨r,HM,nY⟩:=UR
   obtain⟨h1,he3⟩:=ab nY
   injection he3 with he3
   subst he3
   simp only[aiL,ajg,dU,ai2] at h1
   obtain⟨⟨hrz,WI⟩,ux⟩:=h1
   obtain⟨jP,nW,uq,DM,PW,kB⟩:=mI hW hF UP Kf .none (by simp)
   have hS:=fM s yv
   have QJ:(s.cq yv).T b=.lsl g e:=by rw[H5 _ _ _ (by rw[hT];simp),hT]
   obtain⟨ad,cap,fZ,br⟩:=l8 uq hb QJ
   rcases br with ⟨rfl,_⟩|⟨k,C,ty,ia,WG,rfl,hκ,hS1,xz,hC,hl,Ji,fq⟩
   ·simp at HM
   have nX:=hr (by rw[hT];rfl) k _ _ fZ
   have U' : ia=z:=by rw[<- hrz,Ji i r HM]
   subst U'
   have Wy:i<e.length:=(aiI.1 HM).1
   obtain⟨fC,bU⟩:=qS (q:=fun _=>.none) (off:=0) kB sd
   have aa4:∀ (j:Nat) (x:AV),(vs.map AV.drop)[j]?=some x->∃ u,(a.eval xv).cells[j]?=some u/\PR jP.S w u x:=by
    intro j x hx
    simp only[aiW,aiE] at hx
    obtain⟨y,hy,rfl⟩:=hx
    have hj:j<(a.eval xv).cells.size:=by rw[fC];exact (aiI.1 hy).1
    have hu:=aiS hj
    refine⟨_,hu,(bU j _ y hu hy).2.dropped.iX (aiO.1 ux _ (ai5.2 ⟨y,aiT hy,rfl⟩))⟩
   have gY:i*ia+off+(a.eval xv).cells.size<=C.size:=by
    have h2:(i+1)*ia<=e.length*ia:=aiZ _ Wy
    have h3:e.length*ia<=cap*ia:=aiZ _ hl
    rw[ajj] at h2
    omega
   have j8:∀ o,jP.S k o->(dE C (i*ia+off) (a.eval xv).cells)[o]?=C[o]?:=fun o ho=>(hS1 o ho).elim
   have ud:=j0 nW xz (cE gY) j8 s.H.length
   have vC:=wv nW xz (cE gY) j8 (by rw[hκ];simp) (by rw[hκ];simp) s.H.length
   rw[hκ] at ud
   have cm:=ua (P:=P) (w:=w) (off:=i*ia+off) hs xz (v:=a.eval xv) (by omega) (by omega) (fun u hu=>by
    obtain⟨j,hj⟩:=ai' hu
    have rZ:(a.eval xv).cells[j]?=some u:=by simpa using hj
    have a7:j<vs.length:=by rw[<- fC];exact (aiN.1 rZ).1
    exact (bU j u _ rZ (aiJ a7)).1)
   have z7:aG G base s.H jP (w.setRow k (dE C (i*ia+off) (a.eval xv).cells)):=nW.step ud (by simp) (fun b o ho=>by simpa using nW.l7 b o ho) (fun b hb=>by simpa using nW.mG b hb) (fun _ _ _ h=>.inl h)
   have Zw:off+(vs.map AV.drop).length<=r.length:=by simp;omega
   have Cm:FR L nt jP (w.setRow k (dE C (i*ia+off) (a.eval xv).cells)) a ((s.cq yv).bz b (.lsl g (e.set i (putAt r off (vs.map AV.drop))))):=by
    refine uq.bz (H':=(s.cq yv).H) (lo':=(s.cq yv).lo) (by rw[hS.1];exact ud) (aiK _) (fun i hi=>⟨by simpa using hi,by simp,by simp⟩) (.inl ⟨hb,by rw[QJ];rfl⟩) (fun _=>⟨?_,?_⟩)
    ·have h:=uq.slot b hb
     rw[QJ] at h
     exact h.1
    ·refine⟨some ⟨k,0,none⟩,cap,by simpa using fZ,.inr ⟨k,_,ty,ia,(by intro h0;have:=ak2 List.length h0;simp at this;exact WG this),rfl,hκ,hS1,setRow_heap w k C _ ty _ xz,by rw[cE gY,hC],by simpa using hl,?_,?_⟩⟩
     ·intro i' r' yw
      rw[ajF] at yw
      split at yw
      ·rename_i Je
       injection yw with yw
       subst yw
       rw[ni Zw];exact hrz
      ·exact Ji i' r' yw
     ·intro i' j r' x yw hj
      rw[iF gY]
      rw[ajF] at yw
      split at yw
      ·rename_i Je
       subst Je
       injection yw with yw
       subst yw
       rw[pA Zw] at hj
       have Aa:(vs.map AV.drop).length=(a.eval xv).cells.size:=by simp[fC]
       rw[Aa] at hj
       by_cases hc:off<=j/\j<off+(a.eval xv).cells.size
       ·rw[if_pos hc] at hj
        rw[if_pos (by omega)]
        obtain⟨u,hu,hp⟩:=aa4 _ x hj
        refine⟨u,?_,hp.mono ud.S ud.cell ud.mp⟩
        rw[show i*ia+j-(i*ia+off)=j-off by omega];exact hu
       ·rw[if_neg hc] at hj
        rw[if_neg (by omega)]
        obtain⟨u,hu,hp⟩:=fq i j r x HM hj
        exact⟨u,hu,hp.mono ud.S ud.cell ud.mp⟩
      ·rename_i Je
       have Ct:j<ia:=by rw[<- Ji i' r' yw];exact (aiI.1 hj).1
       have cU:¬ (i*ia+off<=i' * ia+j/\i' * ia+j<i*ia+off+(a.eval xv).cells.size):=by
        rintro ⟨c1,c2⟩
        have:i=i':=by
         rcases akD i i' with h'|h'|h'
         ·have:(i+1)*ia<=i' * ia:=aiZ _ h'
          rw[ajj] at this;omega
         ·exact h'
         ·have:(i' + 1)*ia<=i*ia:=aiZ _ h'
          rw[ajj] at this;omega
        exact Je this
       rw[if_neg cU]
       obtain⟨u,hu,hp⟩:=fq i' j r' x yw hj
       exact⟨u,hu,hp.mono ud.S ud.cell ud.mp⟩
   refine⟨undef,jP,w.setRow k (dE C (i*ia+off) (a.eval xv).cells),.inr ⟨?_,rfl⟩,?_⟩
   ·simp[execOp,ho,nX,cm]
   ·rw[wM _ _ _ _ (by rw[hT];simp) (by simp)]
    exact Out.skip (s1:=(s.cq yv).bz b (.lsl g (e.set i (putAt r off (vs.map AV.drop))))) (by show aG G base (s.cq yv).H jP _;rw[hS.1];exact z7) Cm (DM.trans vC (aiK _)) hd
  ·cases he
end
end
section
section
variable {P:Program}{G:Nat->List AV}{base nt:Nat}{L:List Nat}{gh:Gh}{w w' : World}{a:Act}{s:AS}{H:ag}
theorem F3{sz:Nat}{f:List (List AV)}(h:fR sz f=true){r:List AV}(hr:f[0]?=some r):r.length=sz:=by
 unfold fR at h
 cases f with
 | nil=>simp at hr
 | cons q f=>simp at hr;subst hr;simpa [dU] using h
theorem wX{sz ia:Nat}{f:List (List AV)}(h:fR sz f=true)(br:∀ (i:Nat) (r:List AV),f[i]?=some r->r.length=ia)(cU:f≠[]):ia=sz:=by
 cases f with
 | nil=>exact absurd rfl cU
 | cons q f=>rw[<- br 0 q rfl];exact F3 h rfl
theorem y4{S:Nat->Nat->Prop}{V:Value}{f:List (List AV)}{sz:Nat}{tx:TypeId}(h:PR S w V (.slice f false))(hk:(∃ e',P.underlying tx=some (.slice e'))\/P.underlying tx=some .string)(hh:fR sz f=true) :
  ∃ news:List Value,Src P sz tx V f.length news w/\fW S w sz news.toArray f /\
   ((V=.slice none 0 0/\f=[])\/∃ b o cap,V=.slice (some ⟨b,o,none⟩) f.length cap/\f.length<=cap/\∀ j,j<f.length*sz->S b (o+j)/\w.cell? ⟨b,o+j,none⟩=news[j]?):=by
 cases h with
 | cB=>exact⟨[],⟨hk,fun _=>rfl,run_firstCells_none w sz 0 0 0,run_firstCells_none w.drew sz 0 0 0,by simp,fun _ h=>by cases h⟩,⟨by simp,fun i r h=>by simp at h,fun i j r x h=>by simp at h⟩,.inl ⟨rfl,rfl⟩⟩
 | slice b o n cap ia _ fn hn iu br bH bU =>
  subst hn
  have fC:f≠[]->ia=sz:=fun cU=>wX hh br cU
  let news:List Value:=(List.range (f.length*sz)).map fun k=>(w.cell? ⟨b,o+k,none⟩).getD undef
  have hlen:news.length=f.length*sz:=by simp[news]
  have key:∀ k,k<f.length*sz->∃ u,news[k]?=some u/\w.cell? ⟨b,o+k,none⟩=some u/\u.oneCell'=true/\S b (o+k)/\∀ r x,f[k / sz]?=some r->r[k % sz]?=some x->PR S w u x:=by
   intro k hk
   obtain⟨h1,h2,h3⟩:=o4 hk
   have cU:f≠[]:=by rintro rfl;simp at h1
   have hr:=aiJ h1
   have hlr:f[k / sz].length=sz:=by rw[br _ _ hr,fC cU]
   have hx:=aiJ (show k % sz<f[k / sz].length by omega)
   obtain⟨c1,c2,c3⟩:=bH _ _ _ _ hr hx
   rw[fC cU,akm,h3] at c1 c2
   refine⟨fn (k / sz) (k % sz),?_,c2,c3,c1,fun r x yw mF=>bU _ _ _ _ yw mF⟩
   simp only[news,aiW,aj3 hk,aiV,c2,ajC]
  have U2:∀ j u,news[j]?=some u->w.cell? ((⟨b,o,none⟩:Addr).add j)=some u:=by
   intro j u hj
   have a7:j<f.length*sz:=by rw[<- hlen];exact (aiI.1 hj).1
   obtain⟨u',h1,h2,_⟩:=key j a7
   rw[h1] at hj;injection hj with hj;subst hj
   rw[addr_add];exact h2
  refine⟨news,⟨hk,fun _=>rfl,run_firstCells_some w sz _ ⟨b,o,none⟩ f.length cap news hlen U2,run_firstCells_some w.drew sz _ ⟨b,o,none⟩ f.length cap news hlen (by simpa using U2),hlen,fun u hu=>?_⟩,⟨by simp[hlen],fun i r hr=>?_,fun i j r x hi hj=>?_⟩,.inr ⟨b,o,cap,rfl,iu,fun j hj=>?_⟩⟩
  ·obtain⟨j,hj⟩:=ai' hu
   have a7:j<f.length*sz:=by rw[<- hlen];exact (aiI.1 hj).1
   obtain⟨u',h1,_,h3,_⟩:=key j a7
   rw[h1] at hj;injection hj with hj;subst hj
   exact h3
  ·rw[br i r hr,fC (by rintro rfl;simp at hr)]
  ·have cU:f≠[]:=by rintro rfl;simp at hi
   have Wx:=(aiI.1 hi).1
   have Ct:j<sz:=by rw[<- fC cU,<- br i r hi];exact (aiI.1 hj).1
   obtain⟨u,h1,_,_,_,h5⟩:=key (i*sz+j) (qC Wx Ct)
   refine⟨u,by simpa using h1,h5 r x ?_ ?_⟩
   ·rw[ak1,Nat.mul_add_div (by omega),Nat.div_eq_of_lt Ct];simpa using hi
   ·rw[ak1,Nat.mul_add_mod,Nat.mod_eq_of_lt Ct];exact hj
  ·obtain⟨u,h1,h2,_,h4,_⟩:=key j hj
   exact⟨h4,by rw[h2,h1]⟩
theorem Ue{S:Nat->Nat->Prop}{q:ByteArray}{l:List UInt8}(hq:q.data.toList=l){tx:TypeId}(hk:(∃ e',P.underlying tx=some (.slice e'))\/P.underlying tx=some .string) :
  ∃ news:List Value,Src P 1 tx (.string q) l.length news w/\fW S w 1 news.toArray (l.map fun (b:UInt8)=>[AV.int .u8 b.toNat]):=by
 subst hq
 have hl:q.data.toList.length=q.size:=by simp
 refine⟨byteCells q,?_,by simp[byteCells],fun i r hr=>?_,fun i j r x hi hj=>?_⟩
 ·rw[hl]
  exact⟨hk,fun _=>rfl,firstCells_string q w,firstCells_string q w.drew,by rw[byteCells_length,akf],fun u hu=>by
   obtain⟨_,_,rfl⟩:=ai5.1 hu
   rfl⟩
 ·simp only[aiW,aiE] at hr
  obtain⟨y,_,rfl⟩:=hr
  rfl
 ·simp only[aiW,aiE] at hi
  obtain⟨y,hy,rfl⟩:=hi
  cases j with
  | succ j=>simp at hj
  | zero =>
   simp only[ai4,aiG] at hj
   subst hj
   refine⟨.int .u8 y.toNat,?_,.int _ _⟩
   simp only[byteCells,ai3,aiW,akf,aki,hy,aiV]
theorem fW.append{S:Nat->Nat->Prop}{sz:Nat}{A B:List Value}{E F:List (List AV)}(h1:fW S w sz A.toArray E)(h2:fW S w sz B.toArray F):fW S w sz (A++B).toArray (E++F):=by
 have hA:A.length=E.length*sz:=by simpa using h1.1
 have hB:B.length=F.length*sz:=by simpa using h2.1
 refine⟨by simp[hA,hB,ajj],fun i r hi=>?_,fun i j r x hi hj=>?_⟩
 ·rw[aju] at hi
  split at hi
  ·exact h1.2.1 i r hi
  ·exact h2.2.1 _ r hi
 ·rw[aju] at hi
  split at hi
  ·obtain⟨v,hv,hp⟩:=h1.2.2 i j r x hi hj
   have:i*sz+j<A.length:=by have:=(aiN.1 hv).1;simpa using this
   refine⟨v,?_,hp⟩
   simp only[ai3] at hv ⊢
   rw[ai1 this];exact hv
  ·rename_i hge
   obtain⟨v,hv,hp⟩:=h2.2.2 _ j r x hi hj
   refine⟨v,?_,hp⟩
   simp only[ai3] at hv ⊢
   have e1:i*sz=E.length*sz+(i-E.length)*sz:=by rw[<- ajj];congr 1;omega
   rw[ai7 (by rw[hA,e1];omega),hA,e1]
   rw[show E.length*sz+(i-E.length)*sz+j-E.length*sz=(i-E.length)*sz+j by omega];exact hv
theorem fW.ae'{S S' : Nat->Nat->Prop}{sz:Nat}{A C' : Array Value}{E:List (List AV)}{b:Nat}{ty:TypeId}{fr:Nat × Nat}(h:fW S w sz A E)(hS:∀ b o,S b o->S' b o)(hc:∀ b o,S b o->w'.cell? ⟨b,o,none⟩=w.cell? ⟨b,o,none⟩)(hm:∀ b E ck,S b 0->w.heap[b]?=some (.map E ck)->w'.heap[b]?=some (.map E ck))
  (hb:w'.heap[b]?=some (.cells C' ty fr)) (hA:∀ j,j<A.size->C'[j]?=A[j]?) (hq:∀ j,j<E.length*sz->S' b j) (cap:Nat) (iu:E.length<=cap):PR S' w' (.slice (some ⟨b,0,none⟩) E.length cap) (.slice E false):=by
 have key:∀ (i j:Nat) (r:List AV) (x:AV),E[i]?=some r->r[j]?=some x->∃ v,A[i*sz+j]?=some v/\PR S w v x/\i*sz+j<A.size/\A.getD (i*sz+j) undef=v:=by
  intro i j r x hi hj
  obtain⟨v,hv,A8⟩:=h.2.2 i j r x hi hj
  have a7:=(aiN.1 hv).1
  refine⟨v,hv,A8,a7,?_⟩
  rw[aiS a7] at hv
  injection hv with hv
  simp[a7,hv]
 refine .slice b 0 E.length cap sz E (fun i j=>A.getD (i*sz+j) undef) rfl iu h.2.1 ?_ ?_
 ·intro i j r x hi hj
  obtain⟨v,hv,A8,a7,hg⟩:=key i j r x hi hj
  rw[Nat.zero_add,hg]
  refine⟨hq _ (by rw[<- h.1];exact a7),?_,A8.dB⟩
  rw[cell_of_row w' b _ C' ty fr hb,hA _ a7,hv]
 ·intro i j r x hi hj
  obtain⟨v,hv,A8,a7,hg⟩:=key i j r x hi hj
  rw[hg]
  exact A8.mono hS hc hm
structure tw (P:Program) (t e:TypeId) (sz bytes:Nat):Prop where
 ht:P.underlying t=some (.slice e)
 hi:∃ i z,P.info? e=some i/\i.zero=some z/\i.size=sz/\i.bytes=bytes/\z.cells.size=sz
 pos:0<sz
theorem grow{t tx ty e:TypeId}{sz bytes:Nat}(hT:tw P t e sz bytes){ao:Option Addr}{sLen sCap n:Nat}{olds news:List Value}{x:Value}(hold:(Builtin.firstCells sz sLen (.slice ao sLen sCap)).run P w.drew=.ok olds.toArray w.drew)
  (WK:olds.length=sLen*sz) (hs:Src P sz tx x n news w) (hg:sCap<sLen+n) (h63:sLen+n<=70368744177664) (hby:(sLen+n)*bytes<=70368744177664) :
  ∃ qR C' ,(Builtin.append_ #[t,tx] ty #[.slice ao sLen sCap,x]).run P w=.ok (.slice (some ⟨w.heap.size,0,none⟩) (sLen+n) qR) (w.drew.alloc (.cells C' e))/\sLen+n<=qR/\C'.size=qR*sz/\∀ j,j<(olds++news).toArray.size->C'[j]?=(olds++news).toArray[j]?:=by
 obtain⟨i,z,hi,hz,rfl,rfl,hzs⟩:=hT.hi
 have h:=run_append_grow_src (P:=P) w t tx ty e i z hT.ht hi hz ao sLen sCap olds hold x n news hs hg (by omega) (growslice_fits hg (by omega))
 have iu:=grownCap_ge w (sLen+n) sCap e
 refine⟨_,_,h,iu,?_,fun j hj=>?_⟩
 ·rw[Array.size_append,size_zeroCells,hzs]
  simp only[aj2,List.length_append,WK,hs.newsLen]
  rw[<- ajj,<- ajj]
  congr 1;omega
 ·rw[akV hj]
theorem room{t tx ty e e2:TypeId}{sz bytes:Nat}(hT:tw P t e sz bytes){b sLen sCap n:Nat}{news:List Value}{x:Value}{C:Array Value}{fr:Nat × Nat}(hs:Src P sz tx x n news w)(hb:w.heap[b]?=some (.cells C e2 fr))(Kf:fr.2<=sLen*sz)
  (lN:sLen+n<=sCap) (gY:sLen*sz+news.length<=C.size) :
  (Builtin.append_ #[t,tx] ty #[.slice (some ⟨b,0,none⟩) sLen sCap,x]).run P w=.ok (.slice (some ⟨b,0,none⟩) (sLen+n) sCap) (w.setRow b (dE C (sLen*sz) news.toArray)):=by
 obtain⟨i,z,hi,hz,rfl,rfl,hzs⟩:=hT.hi
 have iR:=run_storeCells_atF P b (sLen*i.size) e2 fr news 0 C w hb (by simpa using Kf) (by simpa using gY) hs.one
 simp only[aki] at iR
 rcases hs.kind with ⟨e',hk⟩|hk<;>simp[Builtin.append_,run_underlying hT.ht,run_underlying hk,sizeOf,typeInfo,hi,hs.len,lN,hs.cells,Addr.add_lit,iR,dE]
theorem CR.given(hW:aG G base s.H gh w)(hF:FR L nt gh w a s){v:Value}{e:List (List AV)}{own:Bool}(h:CR gh s.H.length w .ret v (.slice e own))(p:aX)(hp:p≠.outer) :
  ∃ aF,aG G base s.H aF w/\FR L nt aF w a s/\Ext s.H.length gh w aF w/\CR aF s.H.length w p v (.slice e own):=by
 have dK:=fun b hb=>hW.bw (gh:=gh) b hb
 rcases h with hv|⟨e',heq,DN,b,cap,C,ty,lo,hi,sz,fZ,hk,he,hb,hC,hr,hl,hh,hS⟩
 ·exact⟨gh,hW,hF,Ext.refl _ _ _ dK,.inl hv⟩
 ·injection heq with h1 h2
  subst h1 h2
  have a7:b<w.heap.size:=(aiN.1 hb).1
  have st:=js hW a7 p s.H.length
  rw[hk] at st
  have hn:gh.κ b≠.none:=by rw[hk];simp
  exact⟨gh.mT b p,F1 hW a7 p hn (by rw[hk];simp),hF.grown (H':=s.H) (lo':=s.lo) st (fun i=>⟨by simp,by simp,by simp⟩) (aiK _),rq hW a7 hp hn (by rw[hk];simp) _,.inr ⟨e,rfl,DN,b,cap,C,ty,lo,hi,sz,fZ,by simp[Gh.mT],he,hb,hC,hr,hl,hh,hS⟩⟩
theorem Fe{n:Nat}{tx:TypeId}{sz:Nat}{x:Value}{news:List Value}(h:Src P sz tx x n news w):(Builtin.firstCells sz n x).run P w.drew=.ok news.toArray w.drew:=h.cellsD
theorem D5(hW:aG G base s.H gh w)(hF:FR L nt gh w a s){t tx ty e:TypeId}{sz bytes:Nat}(hT:tw P t e sz bytes){V X:Value}{E F:List (List AV)}{news:List Value}
  (h:CR gh s.H.length w .ret V (.slice E true)) (hs:Src P sz tx X F.length news w) (cy:fW gh.S w sz news.toArray F) (gY:b9 sz bytes E F=true) {isB:Bool} (pn:ji isB (E++F)=true) (LO:isB=true->e=fP) (cU:F≠[]) (p:aX) (hp:p≠.outer) :
  ∃ v' aF w',(Builtin.append_ #[t,tx] ty #[V,X]).run P w=.ok v' w'/\aG G base s.H aF w'/\FR L nt aF w' a s/\Ext s.H.length gh w aF w'/\CR aF s.H.length w' p v' (.slice (E++F) true):=by
 simp only[b9,aiL,ajg] at gY
 obtain⟨⟨⟨HB,jA⟩,hE⟩,_⟩:=gY
 have hFl:0<F.length:=akW.2 cU
 have DN:PR gh.S w V (.slice E false):=by
  rcases h with h|⟨e',heq,DN,_⟩
  ·exact (VR.dropped h).ga
  ·injection heq with h1;subst h1;exact DN
 obtain⟨olds,LZ,U3,Ga⟩:=y4 (P:=P) (tx:=t) (sz:=sz) DN (.inl ⟨_,hT.ht⟩) hE
 have WK:olds.length=E.length*sz:=LZ.newsLen
 have fg:=U3.append cy
 have new:∀ ao cap,V=.slice ao E.length cap->cap<E.length+F.length->∃ v' aF w',(Builtin.append_ #[t,tx] ty #[V,X]).run P w=.ok v' w'/\aG G base s.H aF w'/\FR L nt aF w' a s/\Ext s.H.length gh w aF w'/\CR aF s.H.length w' p v' (.slice (E++F) true):=by
  intro ao cap hV a7
  subst hV
  obtain⟨qR,C',cm,iu,I',uy⟩:=grow (P:=P) (ty:=ty) hT (Fe LZ) WK hs a7 jA HB
  have kW:dv w (w.drew.alloc (.cells C' e)) (.cells C' e):=.drew w _
  have st:=fO hW kW hp (fun o=>o<(E++F).length*sz) s.H.length
  have j6:=hW.alloc kW hp (fun o=>o<(E++F).length*sz) (fun k m hk hc=>by
   rw[cell_of_row _ _ k _ _ _ kW.new,uy k (by rw[fg.1];exact hk)] at hc
   have:=l6 fg pn LO hk hc
   subst this
   exact⟨C',(0,0),kW.new⟩)
  have A8:=fg.slice (gh:=gh) rfl kW (p:=p) hW.l7 uy (q:=fun o=>o<(E++F).length*sz) (fun j hj=>hj) qR (by rw[List.length_append];exact iu)
  refine⟨_,_,_,cm,j6,hF.grown (H':=s.H) (lo':=s.lo) st (fun i=>⟨id,id,fun _=>id⟩) (aiK _),lf hW kW hp _ _,.inr ⟨E++F,rfl,?_,?_⟩⟩
  ·have e1:E.length+F.length=(E++F).length:=by rw[List.length_append]
   rw[e1];exact A8
  ·refine⟨w.heap.size,qR,C',e,0,0,sz,by rw[List.length_append],by simp[Gh.alloc],by simp[cU],kW.new,I',fg.2.1,by rw[List.length_append];exact iu,ajy _,?_⟩
   rintro o ho (hs|⟨_,hs⟩)
   ·have:=hW.l7 _ _ hs;omega
   ·omega
 rcases h with h|⟨e',heq,_,b,cap,C,j9,lo,hi,ia,fZ,hk,he,hb,hC,hr,hl,hh,hS⟩
 ·cases h with
  | plain _ _ h=>cases h
  | full ao k _ h =>
   have hk:k=E.length:=by cases h with
    | cB=>rfl
    | slice _ _ _ _ _ _ _ hn=>exact hn.symm
   subst hk
   exact new ao E.length rfl (by omega)
 ·injection heq with h1
  subst h1
  by_cases a7:cap<E.length+F.length
  ·exact new _ cap fZ a7
  ·subst fZ
   have fC:ia=sz:=wX hE hr he
   subst fC
   have lN:E.length+F.length<=cap:=by omega
   have gY:E.length*ia+news.length<=C.size:=by rw[hs.newsLen,hC,<- ajj];exact aiZ _ lN
   have cm:=room (P:=P) (ty:=ty) hT hs hb hh lN gY
   have jR:E.length*ia+news.toArray.size<=C.size:=by simpa using gY
   have hold:∀ o,gh.S b o->(dE C (E.length*ia) news.toArray)[o]?=C[o]?:=by
    intro o ho
    have:o<E.length*ia:=by
     rcases aj8 o (E.length*ia) with h|h
     ·exact h
     ·exact absurd ho (hS o h)
    rw[iF jR,if_neg (by omega)]
   have st:=nj hW hb (cE jR) (fun o=>o<(E++F).length*ia) hold p s.H.length
   have hn:gh.κ b≠.none:=by rw[hk];simp
   have hE':=uM hW hb (cE jR) (fun o=>o<(E++F).length*ia) hold hp hn (by rw[hk];simp) s.H.length
   have QV:∀ j,j<(olds++news).toArray.size->(dE C (E.length*ia) news.toArray)[j]?=(olds++news).toArray[j]?:=by
    intro j hj
    have ag6:news.length=F.length*ia:=hs.newsLen
    simp only[aj2,List.length_append] at hj
    rw[iF jR]
    simp only[ai3,aj2]
    rw[aju]
    split
    ·rw[if_neg (by omega),WK]
    ·rename_i j8
     have rZ:j<E.length*ia:=by omega
     rw[if_pos (by omega)]
     rcases Ga with ⟨_,Kb⟩|⟨b2,o2,ZO,hV2,_,qn⟩
     ·exact absurd Kb he
     ·injection hV2 with h1 h2 h3
      injection h1 with h1
      injection h1 with h1 h4
      subst h1 h4
      have:=(qn j rZ).2
      rw[Nat.zero_add,cell_of_row w b j C j9 _ hb] at this
      exact this
   have Jl:∀ k m,k<(E++F).length*ia->(dE C (E.length*ia) news.toArray)[k]?=some (.int .u8 m)->j9=fP:=by
    intro k m hk hc
    rw[QV k (by rw[fg.1];exact hk)] at hc
    refine l6 fg pn (fun hB=>?_) hk hc
    subst hB
    cases E with
    | nil=>exact absurd rfl he
    | cons r0 E0 =>
     have F9:∃ m0,r0=[.int .u8 m0]:=by
      have:ko (r0 :: E0++F)=true:=pn
      simp only[ko,aj7,ajV,aiL] at this
      have h1:=this.1
      split at h1
      ·exact⟨_,rfl⟩
      ·cases h1
     obtain⟨m0,rfl⟩:=F9
     rcases Ga with ⟨_,Kb⟩|⟨b2,o2,ZO,hV2,_,qn⟩
     ·cases Kb
     ·injection hV2 with h1 h2 h3
      injection h1 with h1
      injection h1 with h1 h4
      subst h1 h4
      have h5:=hr 0 _ rfl
      simp only[ajQ] at h5
      obtain⟨v,hv,hp⟩:=U3.2.2 0 0 _ _ rfl rfl
      cases hp
      simp only[ai3,alj,Nat.zero_add] at hv
      have h6:=qn 0 (by simp;omega)
      rw[Nat.zero_add,hv] at h6
      obtain⟨C2,fr2,h7⟩:=hW.bytes _ _ _ h6.1 h6.2
      rw[hb] at h7
      injection h7 with h7
      injection h7
   have j6:=H3 hW hb (cE jR) (fun o=>o<(E++F).length*ia) hold Jl p hn (by rw[hk];simp)
   have wN:=st
   rw[hk] at st
   have og:news.length=F.length*ia:=hs.newsLen
   refine⟨_,_,_,cm,j6,hF.grown (H':=s.H) (lo':=s.lo) st (fun i=>⟨by simp,by simp,by simp⟩) (aiK _),hE',.inr ⟨E++F,rfl,?_,?_⟩⟩
   ·rw[<- List.length_append]
    refine fg.ae' st.S st.cell st.mp (setRow_heap w b C _ j9 _ hb) (fun j hj=>?_) (fun j hj=>.inr ⟨rfl,hj⟩) cap (by rw[List.length_append];exact lN)
    simp only[aj2,List.length_append] at hj
    rw[iF jR]
    simp only[ai3,aj2]
    rw[aju]
    split
    ·rw[if_neg (by omega),WK]
    ·rename_i j8
     have rZ:j<E.length*ia:=by omega
     rw[if_pos (by omega)]
     rcases Ga with ⟨_,Kb⟩|⟨b2,o2,ZO,hV2,_,qn⟩
     ·exact absurd Kb he
     ·injection hV2 with h1 h2 h3
      injection h1 with h1
      injection h1 with h1 h4
      subst h1 h4
      have:=(qn j rZ).2
      rw[Nat.zero_add,cell_of_row w b j C j9 _ hb] at this
      exact this
   ·refine⟨b,cap,_,j9,lo,hi,ia,by rw[List.length_append],by simp,by simp[he],setRow_heap w b C _ j9 _ hb,by rw[cE jR,hC],fg.2.1,by rw[List.length_append];exact lN,?_,?_⟩
    ·rw[List.length_append,ajj];exact ajt hh (Nat.le_add_right _ _)
    ·rintro o ho (qt|⟨_,qt⟩)
     ·exact hS o (by rw[List.length_append,ajj] at ho;omega) qt
     ·omega
end
end
section
section
variable {P:Program}{G:Nat->List AV}{base nt:Nat}{L:List Nat}{gh:Gh}{w w' : World}{a:Act}{s:AS}{H:ag}
theorem Iq(hW:aG G base s.H gh w)(hF:FR L nt gh w a s){t tx ty e:TypeId}{sz bytes:Nat}(hT:tw P t e sz bytes){t0:Nat}{X:Value}{E F:List (List AV)}{news:List Value}
  (h:om gh w (.bx t0) (dO a t0) E) (hs:Src P sz tx X F.length news w) (cy:fW gh.S w sz news.toArray F) (gY:b9 sz bytes E F=true) (d:Option Nat) :
  ∃ v' aF w',(Builtin.append_ #[t,tx] ty #[dO a t0,X]).run P w=.ok v' w'/\aG G base s.H aF w'/\FR L nt aF w' a (s.bz t0 .any)/\Ext s.H.length gh w aF w'/\om aF w' (DL d) v' (E++F):=by
 simp only[b9,aiL,ajg] at gY
 obtain⟨⟨⟨HB,jA⟩,hE⟩,hFo⟩:=gY
 have dK:=fun b hb=>hW.bw (gh:=gh) b hb
 have hdo:=qQ d
 obtain⟨i,z,hi,_,rfl,_⟩:=hT.hi
 have fh:(dO a t0).oneCell'=true:=by obtain⟨ad,cap,hv,_⟩:=h;rw[hv];rfl
 have aar:∀ {aF:Gh} {w' : World} {n gen:Nat} {T:aC},SR aF n nt w' T gen (dO a) t0 (dO a t0) .any:=fun {_ _ _ _ _}=>(.inl (.plain _ _ (.any _ fh)):CR _ _ _ _ _ _)
 have stay:FR L nt gh w a (s.bz t0 .any):=hF.bz (touch:=fun _=>False) (H':=s.H) (lo':=s.lo) (Step.refl _ _ _ _ dK) (aiK _) (fun i _=>⟨id,id,fun _=>id⟩) (.inr rfl) (fun _=>aar)
 have new:∀ ao cap olds,dO a t0=.slice ao E.length cap->cap<E.length+F.length->Src P i.size t (.slice ao E.length cap) E.length olds w->fW gh.S w i.size olds.toArray E ->
   ∃ v' aF w',(Builtin.append_ #[t,tx] ty #[dO a t0,X]).run P w=.ok v' w'/\aG G base s.H aF w'/\FR L nt aF w' a (s.bz t0 .any)/\Ext s.H.length gh w aF w'/\om aF w' (DL d) v' (E++F):=by
  intro ao cap olds hV a7 LZ U3
  obtain⟨qR,C',cm,iu,I',uy⟩:=grow (P:=P) (ty:=ty) hT LZ.cellsD LZ.newsLen hs a7 jA HB
  have fg:=U3.append cy
  have kW:dv w (w.drew.alloc (.cells C' e)) (.cells C' e):=.drew w _
  have st:=fO hW kW hdo (fun _=>False) s.H.length
  have j6:=hW.alloc kW hdo (fun _=>False) (fun _ _ h=>h.elim)
  rw[hV]
  have Cl:FR L nt (gh.alloc w.heap.size (DL d) fun _=>False) (w.drew.alloc (.cells C' e)) a (s.bz t0 .any) :=
   stay.grown (H':=s.H) (lo':=s.lo) st (fun i=>⟨id,id,fun _=>id⟩) (aiK _)
  refine⟨_,_,_,cm,j6,Cl,lf hW kW hdo _ _,some ⟨w.heap.size,0,none⟩,qR,by rw[List.length_append],.inr ⟨w.heap.size,C',e,i.size,?_,rfl,by simp[Gh.alloc],?_,kW.new,I',by rw[List.length_append];exact iu,fg.2.1,?_⟩⟩
  ·intro h0
   have:=ak2 List.length h0
   simp at this
   simp[this] at a7
  ·rintro o (ho|⟨_,ho⟩)
   ·have:=hW.l7 _ o ho;omega
   ·exact ho
  ·intro k j r x hk hj
   obtain⟨v,hv,hp⟩:=fg.2.2 k j r x hk hj
   refine⟨v,?_,hp.mono st.S st.cell st.mp⟩
   rw[uy _ (aiN.1 hv).1,hv]
 obtain⟨ao,cap,hV,⟨rfl,aaw,vJ⟩|⟨b,C,j9,ia,cU,ha,hk,hS,hb,hC,hl,hr,fq⟩⟩:=h
 ·subst aaw
  have LZ:Src P i.size t (.slice ao 0 0) 0 [] w:=by
   refine⟨.inl ⟨_,hT.ht⟩,fun _=>rfl,?_,?_,by simp,fun _ h=>by cases h⟩
   ·cases ao with
    | none=>exact run_firstCells_none w _ 0 0 0
    | some ad=>exact run_firstCells_some w _ 0 ad 0 0 [] (by simp) (fun j v h=>by simp at h)
   ·cases ao with
    | none=>exact run_firstCells_none w.drew _ 0 0 0
    | some ad=>exact run_firstCells_some w.drew _ 0 ad 0 0 [] (by simp) (fun j v h=>by simp at h)
  cases F with
  | nil =>
   have hn:news=[]:=by have:=hs.newsLen;simp at this;exact this
   subst hn
   refine⟨_,gh,w,?_,hW,stay,Ext.refl _ _ _ dK,ao,0,rfl,.inl ⟨rfl,rfl,vJ⟩⟩
   rw[hV]
   exact run_append_nothing w t tx ty e i hT.ht hi ao 0 0 (aiK _) X hs
  | cons f F=>exact new ao 0 [] hV (by simp) LZ ⟨by simp,fun i r h=>by simp at h,fun i j r x h=>by simp at h⟩
 ·subst ha
  have fC:ia=i.size:=wX hE hr cU
  subst fC
  have hEC:E.length*i.size<=C.size:=by rw[hC];exact aiZ _ hl
  have rA:(C.toList.take (E.length*i.size)).length=E.length*i.size:=by simp;omega
  have U3:fW gh.S w i.size (C.toList.take (E.length*i.size)).toArray E:=by
   refine⟨by simp;omega,hr,fun k j r x hk hj=>?_⟩
   obtain⟨u,hu,hp⟩:=fq k j r x hk hj
   refine⟨u,?_,hp⟩
   have h1:=(aiI.1 hk).1
   have h2:j<i.size:=by rw[<- hr k r hk];exact (aiI.1 hj).1
   simp only[ai3,ai0,if_pos (qC h1 h2)]
   simpa using hu
  have LV:∀ u∈C.toList.take (E.length*i.size),u.oneCell'=true:=by
   intro u hu
   obtain⟨k,hk⟩:=ai' hu
   have a7:k<E.length*i.size:=by rw[<- rA];exact (aiI.1 hk).1
   obtain⟨h1,h2,h3⟩:=o4 a7
   have F9:=aiJ h1
   have vL:=aiJ (show k % i.size<E[k / i.size].length by rw[hr _ _ F9];exact h2)
   obtain⟨u',L2,hp⟩:=U3.2.2 _ _ _ _ F9 vL
   rw[h3] at L2
   simp only[ai3] at L2
   rw[hk] at L2
   injection L2 with L2
   subst L2
   exact hp.dB
  have bH:∀ j u,(C.toList.take (E.length*i.size))[j]?=some u->w.cell? ((⟨b,0,none⟩:Addr).add j)=some u:=by
   intro j u hj
   rw[addr_add,Nat.zero_add,cell_of_row w b j C j9 _ hb]
   rw[ai0] at hj
   split at hj
   ·simpa using hj
   ·cases hj
  have LZ:Src P i.size t (.slice (some ⟨b,0,none⟩) E.length cap) E.length (C.toList.take (E.length*i.size)) w:=.ofSlice w hT.ht ⟨b,0,none⟩ E.length cap _ rA bH LV
  by_cases a7:cap<E.length+F.length
  ·exact new _ cap _ hV a7 LZ U3
  ·have lN:E.length+F.length<=cap:=by omega
   have gY:E.length*i.size+news.length<=C.size:=by rw[hs.newsLen,hC,<- ajj];exact aiZ _ lN
   have cm:=room (P:=P) (ty:=ty) hT hs hb (ajy _) lN gY
   have jR:E.length*i.size+news.toArray.size<=C.size:=by simpa using gY
   have j8:∀ o,gh.S b o->(dE C (E.length*i.size) news.toArray)[o]?=C[o]?:=fun o ho=>(hS o ho).elim
   have st:=nj hW hb (cE jR) (fun _=>False) j8 (DL d) s.H.length
   have hn:gh.κ b≠.none:=by rw[hk];simp
   have hE':=uM hW hb (cE jR) (fun _=>False) j8 hdo hn (by rw[hk];simp) s.H.length
   have j6:=H3 hW hb (cE jR) (fun _=>False) j8 (fun _ _ h=>h.elim) (DL d) hn (by rw[hk];simp)
   rw[hk] at st
   have Cl:=hF.bz (t:=t0) (X:=.any) (H':=s.H) (lo':=s.lo) st (aiK _) (fun i hi=>⟨by simpa using hi,by simp,by simp⟩) (.inr rfl) (fun _=>aar)
   rw[hV]
   have fg:=U3.append cy
   refine⟨_,_,_,cm,j6,Cl,hE',some ⟨b,0,none⟩,cap,by rw[List.length_append],.inr ⟨b,_,j9,i.size,by simp[cU],rfl,by simp,?_,setRow_heap w b C _ j9 _ hb,by rw[cE jR,hC],by rw[List.length_append];exact lN,fg.2.1,?_⟩⟩
   ·rintro o (ho|⟨_,ho⟩)
    ·exact hS o ho
    ·exact ho
   ·intro k j r x pH hj
    obtain⟨v,hv,hp⟩:=fg.2.2 k j r x pH hj
    refine⟨v,?_,hp.mono st.S st.cell st.mp⟩
    rw[iF jR]
    simp only[ai3,aj2] at hv ⊢
    rw[aju,rA] at hv
    have og:news.length=F.length*i.size:=hs.newsLen
    split at hv
    ·rename_i h1
     rw[if_neg (by omega)]
     rw[ai0,if_pos h1] at hv
     simpa using hv
    ·rename_i h1
     have h2:=(aiI.1 hv).1
     rw[if_pos (by omega)]
     exact hv
theorem pD(hW:aG G base s.H gh w)(hF:FR L nt gh w a s){x:Operand}{y:ak}(hc:ah nt x=some y){sz:Nat}{f:List (List AV)}(he:dG sz (y.eval G s.T)=some f)(hh:fR sz f=true){tx:TypeId}
  (hk:(∃ e',P.underlying tx=some (.slice e'))\/P.underlying tx=some .string):∃ news,Src P sz tx (a.eval x) f.length news w/\fW gh.S w sz news.toArray f:=by
 generalize hY:y.eval G s.T=Y at he
 cases Y<;>simp only[dG] at he<;>try (cases he;done)
 ·rename_i l
  obtain⟨h0,h1⟩:=ab he
  have h0:sz=1:=by simpa [dU] using h0
  subst h0
  injection h1 with h1
  subst h1
  obtain⟨q,hq,hl⟩:=(bS hW hF hc hY rfl).gW
  rw[hq,ai9]
  exact Ue hl hk
 ·rename_i el own
  injection he with he
  subst he
  obtain⟨news,h1,h2,_⟩:=y4 (P:=P) (tx:=tx) (sz:=sz) (bS hW hF hc hY rfl).ga hk hh
  exact⟨news,h1,h2⟩
theorem fj{o:Oper}{c:Call}{x y:Operand}{t u:TypeId}(ho:o.op=.call c)(fY:c.callee=.builtin .append)(dw:c.args.toList=[x,y])(jB:c.argTypes.toList=[t,u]){v:Value}
  (cm:(Builtin.append_ #[t,u] o.type #[a.eval x,a.eval y]).run P w=.ok v w'):(execOp a.eval o).run P w=.ok (.value v) w':=by
 have e1:c.args=#[x,y]:=by apply akM;simpa using dw
 have e2:c.argTypes=#[t,u]:=by apply akM;simpa using jB
 unfold execOp
 simp only[ho,resolve,fY,e1,e2,invoke,builtin,Sem.run_bind,Sem.run_pure,Result.andThen_ok,akR,aiU,aiX,cm]
theorem Dx{S:Nat->Nat->Prop}{V:Value}{e:List (List AV)}(h:PR S w V (.slice e false)):∃ ao cap,V=.slice ao e.length cap/\e.length<=cap:=by
 cases h with
 | cB=>exact⟨none,0,rfl,aiK _⟩
 | slice b o n cap sz _ _ hn iu=>subst hn;exact⟨_,cap,rfl,iu⟩
theorem IT(hW:aG G base s.H gh w)(hF:FR L nt gh w a s){o:Oper}{c:Call}{x y:Operand}{t u e:TypeId}{sz bytes:Nat}{yx yy:ak}{isB wr:Bool}{z:AV}{s' : Option AS}
  (ho:o.op=.call c) (fY:c.callee=.builtin .append) (dw:c.args.toList=[x,y]) (jB:c.argTypes.toList=[t,u]) (hT:tw P t e sz bytes) (LO:isB=true->e=fP) (hu:(∃ e',P.underlying u=some (.slice e'))\/P.underlying u=some .string)
  (mb:ah nt x=some yx) (vF:ah nt y=some yy) (he:dX G s isB wr sz bytes yx yy=some (z,s')) (hd:∀ k,o.dst=some k->k<nt) (hL:wr=true->∀ k,o.dst=some k->k∈L) :
  ∃ v' aF w',qM P a o w v' w'/\Out G base nt L gh w a s o.dst z (s'.getD s) v' aF w':=by
 have dK:=fun b hb=>hW.bw (gh:=gh) b hb
 have core:∀ (s1:AS) (jP:Gh) (el:List (List AV)) (own:Bool),s1.H=s.H->aG G base s1.H jP w->FR L nt jP w a s1->Ext s.H.length gh w jP w->(∀ b o,gh.S b o->jP.S b o) ->
   CR jP s1.H.length w .ret (a.eval x) (.slice el own)->aq isB sz bytes (.slice el own) (yy.eval G s.T)=some z ->
   ∃ v' aF w',qM P a o w v' w'/\Out G base nt L gh w a s o.dst z s1 v' aF w':=by
  intro s1 jP el own hH nW uq DM aaU kB xx
  simp only[aq,aiF] at xx
  obtain⟨f,hf,xx⟩:=xx
  cases f with
  | nil =>
   simp only[aiG] at xx
   subst xx
   obtain⟨news,hs,hr⟩:=pD (P:=P) hW hF vF hf rfl hu
   have hn:news=[]:=by have:=hs.newsLen;simp at this;exact this
   subst hn
   obtain⟨Lv,z7,Cm,vC,Ly⟩:=kB.given nW uq (Kl o.dst) (mo _)
   obtain⟨ao,cap,hV,hle⟩:=Dx (w:=w) (kB.dropped).ga
   obtain⟨i,z,hi,_,rfl,_⟩:=hT.hi
   refine⟨a.eval x,Lv,w,.inl (fj ho fY dw jB ?_),Out.of (s1:=s1) (gen':=s1.gen) z7 Cm (DM.trans vC (by rw[hH];exact aiK _)) (aiK _) hd (.inl rfl) (fun k hk=>?_)⟩
   ·rw[hV]
    exact run_append_nothing w t u o.type e i hT.ht hi ao _ cap hle _ hs
   ·rw[hk] at Ly
    exact Ly
  | cons f0 fr =>
   obtain⟨h0,xx⟩:=ab xx
   injection xx with xx
   subst xx
   simp only[aiL] at h0
   obtain⟨⟨rfl,gY⟩,pn⟩:=h0
   have hh:fR sz (f0 :: fr)=true:=by simp only[b9,aiL] at gY;exact gY.2
   obtain⟨news,hs,hr⟩:=pD (P:=P) hW hF vF hf hh hu
   have hr1:fW jP.S w sz news.toArray (f0 :: fr):=⟨hr.1,hr.2.1,fun i j r x hi hj=>by
    obtain⟨v,hv,hp⟩:=hr.2.2 i j r x hi hj
    exact⟨v,hv,hp.mono aaU (fun _ _ _=>rfl) (fun _ _ _ _ h=>h)⟩⟩
   obtain⟨v',Lv,w2,cm,z7,Cm,vC,Ly⟩:=D5 (P:=P) (ty:=o.type) nW uq hT kB hs hr1 gY pn LO (by simp) (Kl o.dst) (mo _)
   refine⟨v',Lv,w2,.inl (fj ho fY dw jB cm),Out.of (s1:=s1) (gen':=s1.gen) z7 Cm (DM.trans vC (by rw[hH];exact aiK _)) (aiK _) hd (.inl rfl) (fun k hk=>?_)⟩
   rw[hk] at Ly
   exact Ly
 have PD:∀ (t0:Nat) (el f:List (List AV)),x=.tmp t0->t0<nt->om gh w (.bx t0) (dO a t0) el->dG sz (yy.eval G s.T)=some f->b9 sz bytes el f=true->wr=true ->
   ∃ v' aF w',qM P a o w v' w'/\Out G base nt L gh w a s o.dst (.lsl s.gen (el++f)) { s.bz t0 .any with gen:=s.gen+1 } v' aF w':=by
  intro t0 el f hx ht br hf gY A9
  have hh:fR sz f=true:=by simp only[b9,aiL] at gY;exact gY.2
  obtain⟨news,hs,hr⟩:=pD (P:=P) hW hF vF hf hh hu
  obtain⟨v',Lv,w2,cm,z7,Cm,vC,U5⟩:=Iq (P:=P) (ty:=o.type) hW hF hT br hs hr gY o.dst
  have hxe:a.eval x=dO a t0:=by rw[hx];rfl
  refine⟨v',Lv,w2,.inl (fj ho fY dw jB (by rw[hxe];exact cm)),Out.of (s1:=s.bz t0 .any) (gen':=s.gen+1) z7 Cm vC (ajD _) hd (.inr ⟨⟨s.gen,aiK _,rfl⟩,hL A9⟩) (fun k hk=>⟨akT _,?_⟩)⟩
  rw[hk] at U5
  exact U5
 cases yx with
 | tmp t0 =>
  obtain⟨rfl,ht⟩:=ig mb
  simp only[dX] at he
  split at he
  ·rename_i g el Lz
   simp only[aiF] at he
   obtain⟨f,hf,he⟩:=he
   obtain⟨h0,he⟩:=ab he
   simp only[aiG,aiH] at he
   obtain⟨rfl,rfl⟩:=he
   simp only[aiL] at h0
   exact PD t0 el f rfl ht (l8 hF ht Lz) hf h0.2 h0.1
  ·rename_i el own Lz
   cases A9:wr with
   | true =>
    rw[A9] at he
    simp only[cond_true,aiF] at he
    obtain⟨f,hf,he⟩:=he
    obtain⟨h0,he⟩:=ab he
    simp only[aiG,aiH] at he
    obtain⟨rfl,rfl⟩:=he
    simp only[aiL,akQ] at h0
    obtain⟨⟨rfl,rfl⟩,gY⟩:=h0
    have kB:=zj hF ht Lz
    have br:om gh w (.bx t0) (dO a t0) []:=by
     rcases kB with h|⟨e',heq,_,b,cap,C,ty,lo,hi,ia,fZ,hk,cU,_⟩
     ·change VR gh s.H.length w (dO a t0) _ at h
      generalize dO a t0=V at h
      cases h with
      | plain _ _ h=>cases h
      | full ao k _ h hz =>
       cases h with
       | cB=>exact⟨none,0,rfl,.inl ⟨rfl,rfl,fun ad h=>by cases h⟩⟩
       | slice b o _ _ ia _ _ hn =>
        simp at hn
        subst hn
        exact⟨_,0,rfl,.inl ⟨rfl,rfl,fun ad h=>⟨by injection h with h;subst h;rfl,hz ad h rfl⟩⟩⟩
     ·injection heq with h1;subst h1;exact absurd rfl cU
    exact PD t0 [] f rfl ht br hf gY A9
   | false =>
    rw[A9] at he
    simp only[aiQ,aiE,aiH] at he
    obtain⟨z',xx,rfl,rfl⟩:=he
    obtain⟨jP,nW,uq,DM,PW,kB⟩:=rQ hW hF ht Lz .ret (by simp)
    exact core (s.bz t0 (.slice el false)) jP el own rfl nW uq DM PW.S kB xx
  ·rename_i Lz
   cases A9:wr with
   | true =>
    rw[A9] at he
    simp only[cond_true,aiF] at he
    obtain⟨f,hf,he⟩:=he
    obtain⟨h0,he⟩:=ab he
    simp only[aiG,aiH] at he
    obtain⟨rfl,rfl⟩:=he
    have hv:=(bS hW hF mb (show (ak.tmp t0).eval G s.T=.ay from Lz) rfl).jX
    exact PD t0 [] f rfl ht ⟨none,0,hv,.inl ⟨rfl,rfl,fun ad h=>by cases h⟩⟩ hf h0 A9
   | false =>
    rw[A9] at he
    simp only[aiQ,aiE,aiH] at he
    obtain⟨z',xx,rfl,rfl⟩:=he
    have hv:=(bS hW hF mb (show (ak.tmp t0).eval G s.T=.ay from Lz) rfl).jX
    exact core s gh [] true rfl hW hF (Ext.refl _ _ _ dK) (fun _ _ h=>h) (.inl (by rw[hv];exact .full none 0 [] .cB (fun ad h=>by cases h))) xx
  ·cases he
 | a8 v =>
  simp only[dX] at he
  cases A9:wr with
  | true=>rw[A9] at he;cases he
  | false =>
   rw[A9] at he
   simp only[aiQ,aiE,aiH] at he
   obtain⟨z',xx,rfl,rfl⟩:=he
   simp only[ak.eval] at xx
   cases v<;>simp only[aq] at xx<;>try (cases xx;done)
   rename_i el own
   have hv:VR gh s.H.length w (a.eval x) (.slice el own):=by
    cases x with
    | tmp k =>
     simp only[ah] at mb
     rcases ajE (Nat.blt k nt) with hb|hb<;>rw[hb] at mb<;>simp at mb
    | const u =>
     simp only[ah,aiE] at mb
     obtain⟨zz,hz,h⟩:=mb
     injection h with h
     subst h
     exact ik hz
    | global g=>simp[ah] at mb
    | func f=>simp[ah] at mb
   exact core s gh el own rfl hW hF (Ext.refl _ _ _ dK) (fun _ _ h=>h) (.inl hv) xx
 | aP g =>
  simp only[dX] at he
  cases A9:wr with
  | true=>rw[A9] at he;cases he
  | false =>
   rw[A9] at he
   simp[ak.eval,aq] at he
 | fn f =>
  simp only[dX] at he
  cases A9:wr with
  | true=>rw[A9] at he;cases he
  | false =>
   rw[A9] at he
   simp[ak.eval,aq] at he
end
end
section
def clean(gh:Gh):Prop:=∀ b,gh.κ b=.none\/gh.κ b=.outer\/(∃ l,gh.κ b=.hb l)\/(∃ l j,gh.κ b=.hs l j)\/∃ j,gh.κ b=.par j
def fH(p:aX):Prop:=(∃ l,p=.hb l)\/(∃ l j,p=.hs l j)\/∃ j,p=.par j
def lT(H:ag):Option fz->ag
 | none=>H
 | some c=>c.heap
structure kg (G:Nat->List AV) (base:Nat) (H:ag) (gh:Gh) (w:World) (r:AV) (c:Option fz) (v:Value) (aF:Gh) (w' : World):Prop where
 len:H.length<=(lT H c).length
 W:aG G base (lT H c) aF w'
 st:Step fH H.length gh w aF w'
 out:∀ b,aF.κ b=.outer->gh.κ b=.outer
 val:CR aF (lT H c).length w' .ret v r
def ke(H:ag)(c:Option fz):Prop:=H.length<=(lT H c).length/\∀ c',c=some c'->c'.lo<=H.length/\∀ l,l<c'.lo->c'.heap[l]?=H[l]?
def dr(P:Program)(G:Nat->List AV)(cf:cC):Prop :=
 ∀ f args H r c,cf f args H=some (r,c)->(∃ fn,P.funcs[f]?=some fn/\fn.body.isSome=true/\fn.name≠ "runtime.NumGoroutine")/\ke H c /\
  ∀ (base:Nat) (gh:Gh) (w:World) (vs:Array Value),aG G base H gh w->clean gh->vs.size=args.length->(∀ (j:Nat) (v:Value) (x:AV),vs[j]?=some v->args[j]?=some x->CR gh H.length w (.par j) v x) ->
   Calls P f vs w fun e w'=>∃ v aF,e=.returned v/\kg G base H gh w r c v aF w'
section
variable {P:Program}{G:Nat->List AV}{base nt:Nat}{L:List Nat}{gh:Gh}{w w' : World}{a:Act}{s:AS}{H:ag}
def dA:aX->Bool
 | .bx _|.sl _|.sc ..|.ret=>true
 | _=>false
def Gh.qo(gh:Gh):Gh:={ gh with κ:=fun b=>bif dA (gh.κ b) then .outer else gh.κ b }
theorem F7(gh:Gh):clean gh.qo:=by
 intro b
 simp only[Gh.qo]
 cases h:gh.κ b<;>simp[dA]
theorem yo(hW:aG G base H gh w)(n:Nat):Step (fun p=>dA p=true) n gh w gh.qo w:=by
 refine⟨fun _ _ h=>h,fun _ _ _=>rfl,aiK _,rfl,rfl,rfl,fun b hb hn=>⟨.inl rfl,?_,fun _ h=>h⟩,fun b hb=>?_,fun _ _=>rfl,fun _ _ _ h=>h,fun _ _ _ _ h=>h⟩
 ·simp only[Gh.qo]
  cases h:dA (gh.κ b)
  ·rfl
  ·exact absurd h hn
 ·simp only[Gh.qo,hW.fresh b hb]
  simp[dA]
theorem Wv(hW:aG G base H gh w):aG G base H gh.qo w:=by
 refine hW.step (yo hW H.length) (fun l=>⟨by simp[dA],by simp[dA]⟩) hW.l7 (fun b hb=>hW.mG b fun h=>hb ?_) (fun _ _ _ h=>.inl h)
 simp[Gh.qo,h,dA]
def Gh.back(gh aF:Gh):Gh:={ aF with κ:=fun b=>bif dA (gh.κ b) then gh.κ b else aF.κ b }
theorem KL(hW:aG G base H gh w){r:AV}{c:Option fz}{v:Value}{aF:Gh}(h:kg G base H gh.qo w r c v aF w') :
  aG G base (lT H c) (gh.back aF) w'/\Step fH H.length gh w (gh.back aF) w'/\Ext H.length gh w (gh.back aF) w'/\CR (gh.back aF) (lT H c).length w' .ret v r:=by
 have aeg:∀ b,dA (gh.κ b)=true->aF.κ b=.outer:=by
  intro b hb
  have a7:b<w.heap.size:=(hW.mG b (by intro h0;rw[h0] at hb;cases hb)).2
  have:=(h.st.xR b a7 (by simp[Gh.qo,hb,fH])).2.1
  rw[this]
  simp[Gh.qo,hb]
 have acn:Step (fun p=>p=.outer) (lT H c).length aF w' (gh.back aF) w':=by
  refine⟨fun _ _ h=>h,fun _ _ _=>rfl,aiK _,rfl,rfl,rfl,fun b hb hn=>⟨.inl rfl,?_,fun _ h=>h⟩,fun b hb=>?_,fun _ _=>rfl,fun _ _ _ h=>h,fun _ _ _ _ h=>h⟩
  ·simp only[Gh.back]
   cases hs:dA (gh.κ b)
   ·rfl
   ·exact absurd (aeg b hs) hn
  ·simp only[Gh.back]
   have fF:w.heap.size<=b:=ajt h.st.size hb
   rw[hW.fresh b fF]
   simp only[dA,aiQ]
   exact h.st.fresh b fF
 have hlen:=h.len
 have iR:Step fH H.length gh w (gh.back aF) w':=by
  refine⟨h.st.S,h.st.cell,h.st.size,h.st.os,h.st.tape,h.st.output,fun b hb hn=>?_,fun b hb=>?_,h.st.ρ,h.st.len,h.st.mp⟩
  ·cases hs:dA (gh.κ b) with
   | true =>
    have:=h.st.xR b hb (by simp[Gh.qo,hs,fH])
    exact⟨this.1,by simp[Gh.back,hs],this.2.2⟩
   | false =>
    have e1:gh.qo.κ b=gh.κ b:=by simp[Gh.qo,hs]
    have:=h.st.xR b hb (by rw[e1];exact hn)
    exact⟨this.1,by simp only[Gh.back,hs,aiQ];rw[this.2.1,e1],this.2.2⟩
  ·simp only[Gh.back]
   rw[hW.fresh b hb]
   simp only[dA,aiQ]
   exact h.st.fresh b hb
 refine⟨h.W.step acn (fun l=>⟨by simp,by simp⟩) h.W.l7 (fun b hb=>?_) (fun _ _ _ h=>.inl h),iR,⟨iR.mono (fun p hp=>?_),fun b hb=>?_⟩,h.val.mono acn (aiK _) (by simp)⟩
 ·simp only[Gh.back] at hb
  cases hs:dA (gh.κ b) with
  | true =>
   have:=hW.mG b (by intro h0;rw[h0] at hs;cases hs)
   have:=h.st.size
   omega
  | false =>
   rw[hs] at hb
   exact h.W.mG b hb
 ·rcases hp with ⟨l,rfl⟩|⟨l,j,rfl⟩|⟨j,rfl⟩<;>simp[nn]
 ·simp only[Gh.back] at hb
  cases hs:dA (gh.κ b) with
  | true =>
   rw[hs] at hb
   simp only[cond_true] at hb
   rw[hb] at hs
   cases hs
  | false =>
   rw[hs] at hb
   have:=h.out b hb
   simpa [Gh.qo,hs] using this
theorem CR.Wf(hW:aG G base s.H gh w)(hF:FR L nt gh w a s){v:Value}{x:AV}(h:CR gh s.H.length w .ret v x)(p:aX)(hp:p≠.outer) :
  ∃ aF,aG G base s.H aF w/\FR L nt aF w a s/\Ext s.H.length gh w aF w/\CR aF s.H.length w p v x:=by
 rcases h with h|⟨e,rfl,h⟩
 ·exact⟨gh,hW,hF,Ext.refl _ _ _ (fun b hb=>hW.bw b hb),.inl h⟩
 ·exact CR.given hW hF (.inr ⟨e,rfl,h⟩) p hp
theorem jd{n:Nat}{v:Value}{x:AV}(h:VR gh n w v x.drop):VR gh n w v x.bf:=by
 cases x<;>first|exact h|skip
 rename_i cs
 exact VR.vk (h:VR gh n w v (.agg cs))
theorem Iv{cf:cC}(iv:dr P G cf)(hW:aG G base s.H gh w)(hF:FR L nt gh w a s){o:Oper}{f:FuncId}{vs:Array Value}{args:List AV}{r:AV}{ch:Option fz}
  (he:cf f args s.H=some (r,ch)) (sd:vs.size=args.length) (bU:∀ (j:Nat) (v:Value) (x:AV),vs[j]?=some v->args[j]?=some x->CR gh s.H.length w (.par j) v x)
  (cm:(∃ fn,P.funcs[f]?=some fn/\fn.body.isSome=true/\fn.name≠ "runtime.NumGoroutine")->(execOp a.eval o).run P w=.ok (.enter f vs) w) (hd:∀ k,o.dst=some k->k<nt) (K:Act->World->Prop) (Q:Exit->Act->World->Prop)
  (hK:∀ v' aF w',Out G base nt L gh w a s o.dst r ((ch.map s.dZ).getD s) v' aF w'->K (a.put o.dst v') w'):o.wp P a w K Q:=by
 obtain⟨F5,_,HE⟩:=iv f _ _ _ _ he
 have iR:=yo hW s.H.length
 have hC:=HE base gh.qo w vs (Wv hW) (F7 gh) sd (fun j v x hv hx=>(bU j v x hv hx).mono iR (aiK _) (by simp[dA]))
 unfold Oper.wp
 rw[cm F5,Oper.upon_enter]
 refine hC.mono ?_
 rintro e w2 ⟨v,aF,rfl,hR⟩
 obtain⟨z7,aa8,vC,QZ⟩:=KL hW hR
 have UY:=hR.len
 have key:∀ s1:AS,s1.H=lT s.H ch->FR L nt (gh.back aF) w2 a s1->∃ We,Out G base nt L gh w a s o.dst r s1 v We w2:=by
  intro s1 Ac uq
  obtain⟨We,hW3,hF3,hE3,hv3⟩:=CR.Wf (by rw[Ac];exact z7) uq (by rw[Ac];exact QZ) (Kl o.dst) (mo _)
  refine⟨We,Out.of (s1:=s1) (gen':=s1.gen) hW3 hF3 (vC.trans hE3 (by rw[Ac];exact UY)) (aiK _) hd (.inl (iZ hv3.ar)) (fun k hk=>?_)⟩
  rw[hk] at hv3
  exact l9 hv3.ar hv3
 cases ch with
 | none =>
  obtain⟨We,hO⟩:=key s rfl (hF.grown (H':=s.H) (lo':=s.lo) aa8 (fun i=>⟨by simp[fH],by simp[fH],by simp[fH]⟩) (aiK _))
  exact hK v We w2 hO
 | some c' =>
  obtain⟨We,hO⟩:=key (s.dZ c') rfl (hF.grown aa8 (fun i=>⟨by simp[fH],by simp[fH],by simp[fH]⟩) UY)
  exact hK v We w2 hO
theorem Ql{cf:cC}(iv:dr P G cf)(hW:aG G base s.H gh w)(hF:FR L nt gh w a s){o:Oper}{c:Call}{fx:Operand}{yf:ak}{ys:List ak}{f:FuncId}{fs cs:List AV}{r:AV}{ch:Option fz}
  (ho:o.op=.call c) (fY:c.callee=.value fx) (mb:ah nt fx=some yf) (vF:ij nt c.args.toList=some ys) (Wu:yf.eval G s.T=.func (.func f) fs cs) (Kf:(ys.map fun y=>y.addr G s.T).all ar=true)
  (he:cf f (fs++ys.map (fun y=>(y.addr G s.T).bf)++cs) s.H=some (r,ch)) (hd:∀ k,o.dst=some k->k<nt) (K:Act->World->Prop) (Q:Exit->Act->World->Prop)
  (hK:∀ v' aF w',Out G base nt L gh w a s o.dst r ((ch.map s.dZ).getD s) v' aF w'->K (a.put o.dst v') w'):o.wp P a w K Q:=by
 have hfv:=bS hW hF mb Wu rfl
 obtain⟨us,ts,hfe,Jd,iT,h1,h2⟩:=hfv.oM
 have dw:=zk hW hF vF Kf
 have hlen:=(jG vF).1
 let vs:Array Value:=us++c.args.map a.eval++ts
 have sd:vs.size=(fs++ys.map (fun y=>(y.addr G s.T).bf)++cs).length:=by
  simp[vs,Jd,iT] at hlen ⊢
  omega
 have bU:∀ (j:Nat) (v:Value) (x:AV),vs[j]?=some v->(fs++ys.map (fun y=>(y.addr G s.T).bf)++cs)[j]?=some x->VR gh s.H.length w v x:=by
  intro j v x hv hx
  have Wg:(c.args.map a.eval).size=ys.length:=by simpa using hlen
  simp only[vs,Array.getElem?_append,Array.size_append] at hv
  simp only[aju,List.length_append,ai9] at hx
  rw[Jd,Wg] at hv
  split at hv
  ·rename_i c1
   rw[if_pos c1] at hx
   split at hv
   ·rename_i c2
    rw[if_pos c2] at hx
    exact h1 j v x hv hx
   ·rename_i c2
    rw[if_neg c2] at hx
    simp only[aiW,aiE] at hx
    obtain⟨y,hy,rfl⟩:=hx
    refine jd (dw (j-fs.length) v _ ?_ ?_)
    ·rw[<- ak6,ajd];exact hv
    ·simp only[aiW,hy,aiV]
  ·rename_i c1
   rw[if_neg c1] at hx
   exact h2 _ v x hv hx
 refine Iv iv hW hF he sd (fun j v x hv hx=>.inl (bU j v x hv hx)) ?_ hd K Q hK
 rintro ⟨fn,F5,tL,oK⟩
 unfold execOp
 cases hb:fn.body with
 | none=>rw[hb] at tL;cases tL
 | some code =>
  simp[ho,resolve,fY,hfe,Deferred.ofValue,invoke,callFunc,F5,oK,hb,vs]
end
end
section
section
variable {P:Program}{G:Nat->List AV}{base nt:Nat}{L:List Nat}{gh:Gh}{w w' : World}{a:Act}{s:AS}{H:ag}
def A'(P:Program)(w:World)(d:Nat):Prop :=
 ∀ (t:TypeId) (ks:List CK),kP P d t=some ks->∀ (D o:Nat) (cs:Array Value) (em:Bool),d<=D->o+ks.length<=cs.size->∃ v,(part t cs o).run P w=.ok v w/\(Instr.checkKey em D t v).run P w=.ok () w
theorem qU{t:TypeId}{D:Nat}{v:Value}{em:Bool}(h:P.underlying t=some .bool\/(∃ k,P.underlying t=some (.int k))\/P.underlying t=some .string):(Instr.checkKey em (D+1) t v).run P w=.ok () w:=by
 rcases h with h|⟨k,h⟩|h<;>simp[Instr.checkKey,run_underlying h]
theorem qT{d:Nat}(hd:A' P w d){D:Nat}(hD:d<=D){cs:Array Value}{em:Bool} : ∀ (fs:List Go.Field) (q:Nat) (ks:List CK),ml (kP P d) fs q=some ks->q+ks.length<=cs.size ->
  Sem.run P (forIn fs PUnit.unit fun (f:Go.Field) (_:PUnit) =>
   if f.name≠ "_" then do
    let v <- part f.type cs f.offset
    Instr.checkKey em D f.type v
    pure (ForInStep.yield PUnit.unit)
   else pure (ForInStep.yield PUnit.unit)) w=.ok PUnit.unit w:=by
 intro fs
 induction fs with
 | nil=>intro q ks h1 h2;rfl
 | cons f fs ih =>
  intro q ks h1 h2
  unfold ml at h1
  obtain⟨h3,h1⟩:=ab h1
  simp only[aiF,aiE] at h1
  obtain⟨kf,hkf,kr,hkr,rfl⟩:=h1
  simp only[aiL,dU,ai2,bne_iff_ne] at h3
  obtain⟨hof,LU⟩:=h3
  rw[List.length_append] at h2
  obtain⟨v,p1,p2⟩:=hd f.type kf hkf D q cs em hD (by omega)
  have hr:=ih (q+kf.length) kr hkr (by omega)
  rw[List.forIn_cons,if_pos LU,hof]
  simp only[Sem.run_bind,p1,p2,Result.andThen_ok,Sem.run_pure]
  exact hr
theorem xY:∀ d,A' P w d
 | 0=>fun t ks h=>by cases h
 | d+1=>by
  intro t ks h D o cs em hD fq
  have h0:=h
  unfold kP at h
  cases hu:P.underlying t with
  | none=>rw[hu] at h;cases h
  | some dd =>
   rw[hu] at h
   obtain⟨D,rfl⟩:∃ m,D=m+1:=⟨D-1,by omega⟩
   have sc:ks.length=1->ki P t=some false->(dd=.bool\/(∃ k,dd=.int k)\/dd=.string)->∃ v,(part t cs o).run P w=.ok v w/\(Instr.checkKey em (D+1) t v).run P w=.ok () w:=by
    intro h1 h2 h3
    have hg:=h2
    have hv:cs[o]?=some cs[o]:=aiS (by omega)
    refine⟨cs[o],by simp[part,fT hg,hv],qU ?_⟩
    rcases h3 with h3|⟨k,h3⟩|h3<;>subst h3
    ·exact .inl hu
    ·exact .inr (.inl ⟨k,hu⟩)
    ·exact .inr (.inr hu)
   cases dd<;>try (cases h;done)
   case bool=>injection h with h;subst h;exact sc rfl (kj hu rfl) (.inl rfl)
   case int kk=>injection h with h;subst h;exact sc rfl (kj hu rfl) (.inr (.inl ⟨kk,rfl⟩))
   case string=>injection h with h;subst h;exact sc rfl (kj hu rfl) (.inr (.inr rfl))
   case struct fs =>
    obtain⟨_,kC,sz,fC,hlen⟩:=nO h0 hu
    have hg:ki P t=some true:=by unfold ki;rw[hu];rfl
    refine⟨.agg (cs.extract o (o+sz)),by simp[part,fT hg,cZ fC],?_⟩
    have:=qT (xY d) (show d<=D by omega) (cs:=cs.extract o (o+sz)) (em:=em) fs.toList 0 ks kC (by simp;omega)
    unfold Instr.checkKey
    simp only[Sem.run_bind,run_underlying hu,Result.andThen_ok]
    rw[<- Array.forIn_toList,this]
    rfl
theorem pE{n:Nat}{v:Value}{k:AV}{kc:List AV}(h:VR gh n w v k)(hc:k.cells=some kc):(∃ C,v=.agg C/\k=.agg kc/\Row gh n w C kc)\/(kc=[k]/\v.oneCell'=true):=by
 have hr:=pb h hc
 cases k
 case agg xs =>
  obtain⟨C,rfl,hs,fh,h⟩:=h.ja
  injection hc with hc
  subst hc
  exact .inl ⟨C,rfl,rfl,hs,h⟩
 case any=>cases hc
 case tuple=>cases hc
 case lbox=>cases hc
 case lref=>cases hc
 case lsl=>cases hc
 case lsr=>cases hc
 case eref=>cases hc
 case iter=>cases hc
 all_goals
  injection hc with hc
  subst hc
  exact .inr ⟨rfl,h.dB (by intro cs h;cases h) (by intro cs h;cases h)⟩
theorem sn{n:Nat}{v:Value}{k:AV}(h:VR gh n w v k)(ha:true=k.isAgg):∃ C,v=.agg C:=by
 cases k<;>first|(cases ha;done)|skip
 obtain⟨C,rfl,_⟩:=h.ja
 exact⟨C,rfl⟩
structure zc (P:Program) (kt:TypeId) (ks:List CK) (ka:Bool):Prop where
 flat:kP P 8 kt=some ks
 agg:ki P kt=some ka
theorem zc.cases{kt:TypeId}{ks:List CK}{ka:Bool}(h:zc P kt ks ka):(ka=false/\((P.underlying kt=some .bool/\ks=[.b])\/(∃ k,P.underlying kt=some (.int k)/\ks=[.i])\/(P.underlying kt=some .string/\ks=[.s]))) \/
  (ka=true/\∃ fs,P.underlying kt=some (.struct fs)):=by
 have hf:=h.flat
 have ha:=h.agg
 unfold kP at hf
 unfold ki at ha
 cases hu:P.underlying kt with
 | none=>rw[hu] at hf;cases hf
 | some dd =>
  rw[hu] at hf ha
  cases dd<;>try (cases hf;done)
  case bool=>injection hf with hf;subst hf;simp at ha;exact .inl ⟨ha,.inl ⟨rfl,rfl⟩⟩
  case int k=>injection hf with hf;subst hf;simp at ha;exact .inl ⟨ha,.inr (.inl ⟨k,rfl,rfl⟩)⟩
  case string=>injection hf with hf;subst hf;simp at ha;exact .inl ⟨ha,.inr (.inr ⟨rfl,rfl⟩)⟩
  case struct fs=>simp at ha;exact .inr ⟨ha,fs,rfl⟩
theorem tf{kt:TypeId}{ks:List CK}{ka:Bool}(hK:zc P kt ks ka){n:Nat}{kv:Value}{k:AV}{kc:List AV}(hk:VR gh n w kv k)(oe:k.cells=some kc)(hl:kc.length=ks.length)(r6:ka=k.isAgg)(em:Bool) :
  (Instr.checkKey em 10000 kt kv).run P w=.ok () w:=by
 rcases hK.cases with ⟨rfl,h⟩|⟨rfl,fs,hu⟩
 ·refine qU ?_
  rcases h with ⟨h,_⟩|⟨k,h,_⟩|⟨h,_⟩
  ·exact .inl h
  ·exact .inr (.inl ⟨k,h⟩)
  ·exact .inr (.inr h)
 ·obtain⟨C,rfl⟩:=sn hk r6
  obtain⟨po,kC,sz,fC,hlen⟩:=nO hK.flat hu
  have hC:C.size=kc.length:=by
   rcases pE hk oe with ⟨C',e,_,hr⟩|⟨_,h1⟩
   ·injection e with e;subst e;exact hr.1
   ·simp[Value.oneCell'] at h1
  have:=qT (xY (w:=w) (P:=P) 7) (show 7<=9999 by omega) (cs:=C) (em:=em) fs.toList 0 ks kC (by omega)
  unfold Instr.checkKey
  simp only[Sem.run_bind,run_underlying hu,Result.andThen_ok]
  rw[<- Array.forIn_toList,this]
  rfl
def Hf(S:Nat->Nat->Prop)(w:World)(kz:Nat)(ka:Bool)(v:Value)(r:List AV):Prop:=∃ f:Nat->Value,v=oc ka kz f/\∀ (j:Nat) (x:AV),r[j]?=some x->j<kz->PR S w (f j) x
theorem nA:∀ {k:List CK} {X Y:List AV} {b:Bool},bG k X Y=some b->k.length<=X.length/\k.length<=Y.length
 | [],X,Y,b,h=>⟨ajy _,ajy _⟩
 | c :: k,X,Y,b,h=>by
  cases c<;>cases X<;>try (cases h;done)
  all_goals (rename_i x X';cases x<;>try (cases h;done))
  all_goals (cases Y<;>try (cases h;done))
  all_goals (rename_i y Y';cases y<;>try (cases h;done))
  ·simp only[bG,aiE] at h
   obtain⟨b',hb,_⟩:=h
   have:=nA hb
   simp;omega
  ·simp only[bG] at h
   obtain⟨_,h⟩:=ab h
   simp only[aiE] at h
   obtain⟨b',hb,_⟩:=h
   have:=nA hb
   simp;omega
  ·simp only[bG,aiE] at h
   obtain⟨b',hb,_⟩:=h
   have:=nA hb
   simp;omega
theorem Js{kt:TypeId}{ks:List CK}{ka:Bool}(hK:zc P kt ks ka){n:Nat}{kv:Value}{k:AV}{kc:List AV}(hk:VR gh n w kv k)(oe:k.cells=some kc)(hl:kc.length=ks.length)(r6:ka=k.isAgg)
  {v:Value} {r:List AV} (hv:Hf gh.S w ks.length ka v r) {b:Bool} (he:bG ks kc r=some b) :
  (ka=true->(Op.equal kt kv v).run P w=.ok b w)/\(ka=false->∀ d,P.underlying kt=some d->Instr.sameNow d kv v=some b):=by
 obtain⟨f,rfl,hf⟩:=hv
 have Ji:=(nA he).2
 rcases hK.cases with ⟨rfl,h⟩|⟨rfl,fs,hu⟩
 ·refine⟨(fun h=>by cases h),fun _ d hd=>?_⟩
  have WA:kc=[k]:=by
   cases k<;>first|(cases r6;done)|(injection oe with oe;exact oe.symm)|(cases oe;done)
  subst WA
  have hv0:∀ x,r[0]?=some x->PR gh.S w (f 0) x:=fun x hx=>hf 0 x hx (by rcases h with ⟨_,h⟩|⟨_,_,h⟩|⟨_,h⟩<;>rw[h]<;>exact Nat.one_pos)
  show Instr.sameNow d kv (f 0)=some b
  cases r with
  | nil=>rcases h with ⟨_,h⟩|⟨_,_,h⟩|⟨_,h⟩<;>subst h<;>simp at Ji
  | cons x r =>
   have hx:=hv0 x rfl
   rcases h with ⟨h,rfl⟩|⟨q,h,rfl⟩|⟨h,rfl⟩
   ·rw[h] at hd;injection hd with hd;subst hd
    cases k<;>try (cases he;done)
    cases x<;>try (cases he;done)
    obtain rfl:=hk.iw
    generalize f 0=u at hx
    cases hx
    simp[bG] at he
    simp[Instr.sameNow,he]
   ·rw[h] at hd;injection hd with hd;subst hd
    cases k<;>try (cases he;done)
    cases x<;>try (cases he;done)
    obtain rfl:=hk.gU
    generalize f 0=u at hx
    cases hx
    simp only[bG] at he
    obtain⟨h0,he⟩:=ab he
    simp at he h0
    simp[Instr.sameNow,he,h0]
   ·rw[h] at hd;injection hd with hd;subst hd
    cases k<;>try (cases he;done)
    cases x<;>try (cases he;done)
    obtain⟨p,rfl,rfl⟩:=hk.gW
    generalize f 0=u at hx
    cases hx with
    | str q _ hq =>
     subst hq
     simp[bG] at he
     simp only[Instr.sameNow,aiG]
     rw[<- he]
     first|rfl|(show (p.data==q.data)=_;simp)
 ·obtain⟨C,rfl⟩:=sn hk r6
  refine⟨fun _=>?_,fun h=>by cases h⟩
  have hC:Row gh n w C kc:=by
   rcases pE hk oe with ⟨C',e,_,hr⟩|⟨_,h1⟩
   ·injection e with e;subst e;exact hr
   ·simp[Value.oneCell'] at h1
  have hD:Row gh n w (((List.range ks.length).map f).toArray) (r.take ks.length):=by
   refine⟨by simp;omega,fun j u x hu hx=>?_⟩
   simp only[ai3,aiW,aiE] at hu
   obtain⟨i,hi,rfl⟩:=hu
   obtain⟨a7,uI⟩:=aiI.1 hi
   simp at a7 uI
   subst uI
   rw[ai0,if_pos a7] at hx
   exact .plain _ _ (hf _ x hx a7)
  have A5:bG ks kc (r.take ks.length)=some b:=by
   rw[<- he,<- mi ks kc r ks.length (aiK _),<- mi ks kc (r.take ks.length) ks.length (aiK _),List.take_take,Nat.min_self]
  exact qG (sJ 7) hK.flat hu (D:=9999) (by omega) (n:=n) hC hD A5
theorem ri{d:TypeDesc}{kv:Value}{ks:List CK}{kc:List AV} : ∀ (l:List MapEntry) (es:List (List AV)) (i0:Nat) (o:Option Nat),l.length=es.length ->
  (∀ (i:Nat) (e:MapEntry) (r:List AV) (b:Bool),l[i]?=some e->es[i]?=some r->bG ks kc r=some b->Instr.sameNow d kv e.key=some b)->fB ks kc es=some o ->
  Instr.findNow d kv l i0=some (o.map fun i=>(i0+i,(l.getD i default).val))
 | [],[],i0,o,_,_,h=>by simp only[fB,aiG] at h;subst h;rfl
 | [],_ :: _,_,_,hl,_,_=>by simp at hl
 | _ :: _,[],_,_,hl,_,_=>by simp at hl
 | e :: l,r :: es,i0,o,hl,hq,h=>by
  simp only[fB,aiF] at h
  obtain⟨b,hb,h⟩:=h
  have h0:=hq 0 e r b rfl rfl hb
  cases b with
  | true =>
   simp only[cond_true,aiG] at h
   subst h
   simp[Instr.findNow,h0]
  | false =>
   simp only[aiQ,aiE] at h
   obtain⟨o',pk,rfl⟩:=h
   have ih:=ri l es (i0+1) o' (by simpa using hl) (fun i e r b h1 h2 h3=>hq (i+1) e r b (by simpa using h1) (by simpa using h2) h3) pk
   simp only[Instr.findNow,h0,ih,akK]
   cases o' with
   | none=>rfl
   | some i=>simp[akm,alh 1 i]
theorem nV{kt:TypeId}{kv:Value}{ks:List CK}{kc:List AV} : ∀ (l:List MapEntry) (es:List (List AV)) (i0:Nat) (o:Option Nat),l.length=es.length ->
  (∀ (i:Nat) (e:MapEntry) (r:List AV) (b:Bool),l[i]?=some e->es[i]?=some r->bG ks kc r=some b->(Op.equal kt kv e.key).run P w=.ok b w)->fB ks kc es=some o ->
  (Instr.findAsking kt kv l i0).run P w=.ok (o.map fun i=>(i0+i,(l.getD i default).val)) w
 | [],[],i0,o,_,_,h=>by simp only[fB,aiG] at h;subst h;rfl
 | [],_ :: _,_,_,hl,_,_=>by simp at hl
 | _ :: _,[],_,_,hl,_,_=>by simp at hl
 | e :: l,r :: es,i0,o,hl,hq,h=>by
  simp only[fB,aiF] at h
  obtain⟨b,hb,h⟩:=h
  have h0:=hq 0 e r b rfl rfl hb
  cases b with
  | true =>
   simp only[cond_true,aiG] at h
   subst h
   simp[Instr.findAsking,h0]
  | false =>
   simp only[aiQ,aiE] at h
   obtain⟨o',pk,rfl⟩:=h
   have ih:=nV l es (i0+1) o' (by simpa using hl) (fun i e r b h1 h2 h3=>hq (i+1) e r b (by simpa using h1) (by simpa using h2) h3) pk
   simp only[Instr.findAsking,Sem.run_bind,h0,Result.andThen_ok,ajM,akU,ih]
   cases o' with
   | none=>rfl
   | some i=>simp[akm,alh 1 i]
theorem wC{kt:TypeId}{ks:List CK}{ka:Bool}(hK:zc P kt ks ka){n:Nat}{kv:Value}{k:AV}{kc:List AV}(hk:VR gh n w kv k)(oe:k.cells=some kc)(hl:kc.length=ks.length)(r6:ka=k.isAgg)
  {l:List MapEntry} {es:List (List AV)} (hlen:l.length=es.length) (br:∀ (i:Nat) (e:MapEntry) (r:List AV),l[i]?=some e->es[i]?=some r->Hf gh.S w ks.length ka e.key r) {o:Option Nat} (hf:fB ks kc es=some o) :
  (Instr.findKey kt kv l).run P w=.ok (o.map fun i=>(i,(l.getD i default).val)) w:=by
 have hq:=fun (i:Nat) (e:MapEntry) (r:List AV) (b:Bool) (h1:l[i]?=some e) (h2:es[i]?=some r) (h3:bG ks kc r=some b)=>Js hK hk oe hl r6 (br i e r h1 h2) h3
 rcases hK.cases with ⟨rfl,h⟩|⟨rfl,fs,hu⟩
 ·obtain⟨d,hd⟩:∃ d,P.underlying kt=some d:=by rcases h with ⟨h,_⟩|⟨_,h,_⟩|⟨h,_⟩<;>exact⟨_,h⟩
  have hn:=ri l es 0 o hlen (fun i e r b h1 h2 h3=>(hq i e r b h1 h2 h3).2 rfl d hd) hf
  simp only[Nat.zero_add] at hn
  simp[Instr.findKey,run_underlying hd,hn]
 ·cases l with
  | nil =>
   cases es with
   | cons _ _=>simp at hlen
   | nil =>
    simp only[fB,aiG] at hf
    subst hf
    simp[Instr.findKey,run_underlying hu,Instr.findNow]
  | cons e l =>
   have hn:=nV (P:=P) (w:=w) (e :: l) es 0 o hlen (fun i e r b h1 h2 h3=>(hq i e r b h1 h2 h3).1 rfl) hf
   simp only[Nat.zero_add] at hn
   simp[Instr.findKey,run_underlying hu,Instr.findNow,Instr.sameNow,hn]
end
end
section
section
variable {P:Program}{G:Nat->List AV}{base nt:Nat}{L:List Nat}{gh:Gh}{w w' : World}{a:Act}{s:AS}{H:ag}
def qA(w:World)(b:Nat)(E:Array MapEntry)(ck:Nat):World:={ w with heap:=w.heap.setIfInBounds b (Obj.map E ck) }
theorem Dv{b:Nat}{E E' : Array MapEntry}{ck ck' : Nat}(hb:w.heap[b]?=some (.map E ck)):(qA w b E' ck').heap[b]?=some (.map E' ck'):=by
 have a7:b<w.heap.size:=(aiN.1 hb).1
 simp[qA,a7]
theorem k7{b b' : Nat}{E' : Array MapEntry}{ck' : Nat}(h:b'≠b):(qA w b E' ck').heap[b']?=w.heap[b']?:=by
 simp[qA,aj6 h]
theorem wE{b:Nat}{E E' : Array MapEntry}{ck ck' : Nat}(hb:w.heap[b]?=some (.map E ck)):(setObj b (.map E' ck')).run P w=.ok () (qA w b E' ck'):=by
 simp[setObj,Sem.run,hb,qA]
theorem CX(hW:aG G base H gh w){b:Nat}{E E' : Array MapEntry}{ck ck' : Nat}(hb:w.heap[b]?=some (.map E ck))(hS:∀ o,¬ gh.S b o)(n:Nat):Step (fun r=>r=gh.κ b) n gh w gh (qA w b E' ck'):=by
 have cU:∀ b' o,gh.S b' o->b'≠b:=fun b' o h=>by rintro rfl;exact hS o h
 refine⟨fun _ _ h=>h,fun b' o h=>cell_of_heap (k7 (cU b' o h)),by simp[qA],rfl,rfl,rfl,fun b' fF hn=>?_,fun b' fF=>?_,fun _ _=>rfl,fun b' ty m hm=>?_,fun b' E1 c1 hs hm=>?_⟩
 ·have uw:b'≠b:=by rintro rfl;exact hn rfl
  exact⟨.inl (k7 uw),rfl,fun _ h=>h⟩
 ·have:w.heap.size<=b':=by simpa [qA] using fF
  exact hW.bw b' this
 ·obtain⟨C,fr,h1,h2⟩:=hm
  have uw:b'≠b:=by rintro rfl;rw[hb] at h1;cases h1
  exact⟨C,fr,by rw[k7 uw];exact h1,h2⟩
 ·rw[k7 (cU b' 0 hs)];exact hm
structure DS (P:Program) (t kt et:TypeId) (ks:List CK) (ka va:Bool) (vz:Nat) (z:Value) (zero:List AV):Prop where
 ht:P.underlying t=some (.map kt et)
 key:zc P kt ks ka
 vz1:va=false->vz=1
 hz:∃ i,P.info? et=some i/\i.zero=some z
 cells:cY z.cells.toList=some zero
 agg:Kw z=va
 len:zero.length=vz
theorem zc.kz{kt:TypeId}{ks:List CK}{ka:Bool}(h:zc P kt ks ka)(hf:ka=false):ks.length=1:=by
 rcases h.cases with ⟨_,⟨_,h⟩|⟨_,_,h⟩|⟨_,h⟩⟩|⟨rfl,_⟩
 ·rw[h];rfl
 ·rw[h];rfl
 ·rw[h];rfl
 ·cases hf
theorem rM{t:TypeId}{m:List CK × Bool × Bool × List AV}(h:Jz P t=some m):∃ kt et z,DS P t kt et m.1 m.2.1 m.2.2.1 m.2.2.2.length z m.2.2.2:=by
 unfold Jz at h
 split at h
 ·rename_i kt et hu
  simp only[aiF] at h
  obtain⟨ks,kC,ka,r6,i,hi,z,hz,zero,ZH,h⟩:=h
  obtain⟨h0,h⟩:=ab h
  injection h with h
  subst h
  refine⟨kt,et,z,hu,⟨kC,r6⟩,fun hv=>?_,⟨i,hi,hz⟩,ZH,rfl,rfl⟩
  simp only at hv ⊢
  rw[hv] at h0
  simpa [dU] using h0
 ·cases h
theorem Lf(hW:aG G base s.H gh w)(hF:FR L nt gh w a s){o:Oper}{t:TypeId}(ho:o.op=.makeMap t none)(hd:∀ k,o.dst=some k->k<nt)(kz:Nat)(ka va:Bool) :
  ∃ v' aF w',qM P a o w v' w'/\Out G base nt L gh w a s o.dst (.mref s.H.length) (s.dZ ⟨s.H++[.map kz ka va []],s.H.length⟩) v' aF w':=by
 have hp:=dv.alloc w (.map #[] 0)
 have hρ:(gh.bj w.heap.size s.H.length).ρ s.H.length=w.heap.size:=by simp[Gh.bj]
 have hv:VR (gh.bj w.heap.size s.H.length) (s.H++[de.map kz ka va []]).length (w.alloc (.map #[] 0)) (.map (some w.heap.size)) (.mref s.H.length):=by
  have:=VR.mref (gh:=gh.bj w.heap.size s.H.length) (w:=w.alloc (.map #[] 0)) (n:=(s.H++[de.map kz ka va []]).length) s.H.length (by simp)
  rw[hρ] at this;exact this
 have hM:p7 (gh.bj w.heap.size s.H.length) (s.H.length+1) (w.alloc (.map #[] 0)) w.heap.size s.H.length (.map kz ka va []):=by
  refine⟨⟨by simp[Gh.bj,Gh.alloc],?_,#[],0,fun _ _=>undef,hp.new,⟨rfl,rfl,fun i e h=>by simp at h,fun i e h=>by simp at h,fun i j e e' h=>by simp at h,fun i e r h=>by simp at h⟩,fun i j r x h=>by simp at h,fun i j r x h=>by simp at h⟩,rfl⟩
  rintro o (ho|⟨_,ho⟩)
  ·have:=hW.l7 _ o ho;omega
  ·exact ho
 refine⟨_,_,_,.inl ?_,hW.Dj hp (fun _ _ h=>by cases h) hM,hF.put (fp hW hp) (fun i=>⟨id,id,fun _=>id⟩) (by simp) o.dst hd (.cD hv),jv hW hp⟩
 simp[execOp,ho,Instr.makeMap,newObj,Sem.run]
theorem On{n:Nat}{va:Bool}{m:Nat}{g:Nat->Value}{cs:List AV}(hm:cs.length=m)(h1:va=false->m=1)(h:∀ (j:Nat) (x:AV),cs[j]?=some x->VR gh n w (g j) x.drop/\(g j).oneCell'=true) :
  VR gh n w (oc va m g) (cond va (.agg (cs.map AV.drop)) ((cs.headD .undef).drop)):=by
 cases va with
 | true =>
  refine .agg _ _ (by simp[hm]) (fun j v hv=>?_) (fun j v x hv hx=>?_)
  ·simp only[ai3,aiW,aiE] at hv
   obtain⟨i,hi,rfl⟩:=hv
   obtain⟨a7,uI⟩:=aiI.1 hi
   simp at a7 uI
   subst uI
   exact (h _ _ (aiJ (by omega))).2
  ·simp only[ai3,aiW,aiE] at hv hx
   obtain⟨i,hi,rfl⟩:=hv
   obtain⟨a7,uI⟩:=aiI.1 hi
   simp at a7 uI
   subst uI
   obtain⟨y,hy,rfl⟩:=hx
   exact (h _ y hy).1
 | false =>
  have:=h1 rfl
  cases cs with
  | nil=>simp at hm;omega
  | cons x cs=>exact (h 0 x rfl).1
theorem Ia{n:Nat}{t kt et:TypeId}{ks:List CK}{ka va:Bool}{vz:Nat}{z:Value}{zero:List AV}(hT:DS P t kt et ks ka va vz z zero):VR gh n w z (cond va (.agg (zero.map AV.drop)) ((zero.headD .undef).drop)):=by
 obtain⟨hl,hv⟩:=iS (gh:=gh) (n:=n) (w:=w) hT.cells
 have F2:=hT.agg
 cases z
 case agg C =>
  simp[Kw] at F2
  subst F2
  refine .agg C _ (by simpa [Value.cells] using hl) (fun j v n6=>?_) (fun j v x n6 hx=>?_)
  ·have a7:=(aiN.1 n6).1
   have hz:zero[j]?=some zero[j]:=aiJ (by
    have:C.toList.length=zero.length:=by simpa [Value.cells] using hl
    simp at this;omega)
   exact (hv j v _ (by simpa [Value.cells] using n6) hz).2
  ·simp only[aiW,aiE] at hx
   obtain⟨y,hy,rfl⟩:=hx
   exact (hv j v y (by simpa [Value.cells] using n6) hy).1.dropped
 all_goals
  simp[Kw] at F2
  subst F2
  have h1:zero.length=1:=by rw[hT.len];exact hT.vz1 rfl
  obtain⟨x,rfl⟩:=aj1.1 h1
  exact (hv 0 _ x rfl rfl).1.dropped
theorem vY{n:Nat}{ok va:Bool}{cs:List AV}{v:Value}(h:VR gh n w v (cond va (.agg (cs.map AV.drop)) ((cs.headD .undef).drop)))(found:Bool) :
  VR gh n w (if ok then .tuple #[v,.bool found] else v) (vX ok va cs found):=by
 unfold vX
 simp only
 cases ok with
 | false=>exact h
 | true =>
  refine .tuple _ _ rfl (fun j u x hu hx=>?_)
  match j with
  | 0=>injection hu with hu;injection hx with hx;subst hu hx;exact h
  | 1=>injection hu with hu;injection hx with hx;subst hu hx;exact .plain _ _ (.bool _)
  | j+2=>simp at hx
structure Rows (gh:Gh) (n:Nat) (w:World) (E:Array MapEntry) (kz:Nat) (ka va:Bool) (es:List (List AV)):Prop where
 size:E.size=es.length
 key:∀ (i:Nat) (e:MapEntry) (r:List AV),E[i]?=some e->es[i]?=some r->Hf gh.S w kz ka e.key r
 val:∀ (i:Nat) (e:MapEntry) (r:List AV),E[i]?=some e->es[i]?=some r->kz<=r.length/\(va=false->r.length=kz+1)/\∃ g,e.val=oc va (r.length-kz) g/\∀ (j:Nat) (x:AV),(r.drop kz)[j]?=some x->VR gh n w (g j) x.drop/\(g j).oneCell'=true
theorem wy{n b kz:Nat}{ka va:Bool}{es:List (List AV)}{v:Value}(h:PR gh.S w v (.dp kz ka va es)):∃ b E ck,v=.map (some b)/\w.heap[b]?=some (.map E ck)/\Rows gh n w E kz ka va es:=by
 cases h with
 | dp b _ _ _ _ E ck f hS hb hE bU =>
  refine⟨b,E,ck,rfl,hb,hE.size,fun i e r h1 h2=>⟨f i,(hE.row i e r h1 h2).2.2.2.1,fun j x hj _=>bU i j r x h2 hj⟩,fun i e r h1 h2=>?_⟩
  obtain⟨k1,_,k2,_,k3⟩:=hE.row i e r h1 h2
  refine⟨k1,k2,fun j=>f i (kz+j),k3,fun j x hj=>?_⟩
  rw[aje] at hj
  have:=bU i (kz+j) r x h2 hj
  exact⟨VR.dropped (.plain _ _ this),this.dB⟩
theorem wx{n b kz:Nat}{p:aX}{q:Nat->aX}{ka va:Bool}{es:List (List AV)}(h:xN gh n w b p q kz ka va es):∃ E ck,w.heap[b]?=some (.map E ck)/\Rows gh n w E kz ka va es:=by
 obtain⟨_,_,E,ck,f,hb,hE,h1,h2⟩:=h
 refine⟨E,ck,hb,hE.size,fun i e r k1 k2=>⟨f i,(hE.row i e r k1 k2).2.2.2.1,fun j x hj hl=>h1 i j r x k2 hj hl⟩,fun i e r k1 k2=>?_⟩
 obtain⟨l1,_,l2,_,l3⟩:=hE.row i e r k1 k2
 refine⟨l1,l2,fun j=>f i (kz+j),l3,fun j x hj=>?_⟩
 rw[aje] at hj
 obtain⟨m1,_,m2⟩:=h2 i (kz+j) r x k2 hj (by omega)
 exact⟨m2.dropped,m1⟩
theorem uD:∀ {ks:List CK} {kc:List AV} {es:List (List AV)} {i:Nat},fB ks kc es=some (some i)->i<es.length
 | ks,kc,[],i,h=>by simp[fB] at h
 | ks,kc,r :: es,i,h=>by
  simp only[fB,aiF] at h
  obtain⟨b,_,h⟩:=h
  cases b with
  | true=>simp at h;subst h;simp
  | false =>
   simp only[aiQ,aiE] at h
   obtain⟨o,ho,h⟩:=h
   cases o with
   | none=>simp at h
   | some j=>simp at h;subst h;have:=uD ho;simp;omega
theorem Dr{n:Nat}{t kt et:TypeId}{ks:List CK}{ka va:Bool}{vz:Nat}{z:Value}{zero:List AV}(hT:DS P t kt et ks ka va vz z zero){kv:Value}{k:AV}{kc:List AV}(hk:VR gh n w kv k)(oe:k.cells=some kc)(hl:kc.length=ks.length)(r6:ka=k.isAgg)
  {b:Nat} {E:Array MapEntry} {ck:Nat} {es:List (List AV)} (hb:w.heap[b]?=some (.map E ck)) (hR:Rows gh n w E ks.length ka va es) {o:Option Nat} (hf:fB ks kc es=some o) (ok:Bool) :
  ∃ v,(Instr.lookup t (.map (some b)) kv ok).run P w=.ok v w/\VR gh n w v (oR ok va zero ks.length es o):=by
 have pj:=tf hT.key hk oe hl r6 E.isEmpty
 have Ke:=wC hT.key hk oe hl r6 (l:=E.toList) (by simpa using hR.size) (fun i e r h1 h2=>hR.key i e r (by simpa using h1) h2) hf
 obtain⟨i0,hi0,hz0⟩:=hT.hz
 have hzr:(zeroValue et).run P w=.ok z w:=by simp[zeroValue,typeInfo,hi0,hz0]
 cases o with
 | none =>
  refine⟨if ok then .tuple #[z,.bool false] else z,?_,vY (Ia hT) false⟩
  simp[Instr.lookup,run_underlying hT.ht,getObj,Sem.run,hb]
  simp[pj,Ke,hzr]
 | some i =>
  have hi:=uD hf
  have hiE:i<E.size:=by rw[hR.size];exact hi
  have hE:E[i]?=some E[i]:=aiS hiE
  have he:es[i]?=some es[i]:=aiJ hi
  obtain⟨k1,k2,g,k3,k4⟩:=hR.val i _ _ hE he
  have A6:es.getD i []=es[i]:=by simp[List.getD,he]
  have hed:E.toList.getD i default=E[i]:=by
   have:E.toList[i]?=some E[i]:=by rw[ajd];exact hE
   simp[List.getD,this]
  have hv:=On (gh:=gh) (n:=n) (w:=w) (va:=va) (m:=es[i].length-ks.length) (g:=g) (cs:=es[i].drop ks.length) (by simp) (fun hva=>by have:=k2 hva;omega) k4
  rw[<- k3] at hv
  refine⟨if ok then .tuple #[E[i].val,.bool true] else E[i].val,?_,by simp only[oR];rw[A6];exact vY hv true⟩
  simp only[aiV,hed] at Ke
  simp[Instr.lookup,run_underlying hT.ht,getObj,Sem.run,hb]
  simp[pj,Ke]
theorem AL{n:Nat}{t kt et:TypeId}{ks:List CK}{ka va:Bool}{vz:Nat}{z:Value}{zero:List AV}(hT:DS P t kt et ks ka va vz z zero){kv:Value}{k:AV}{kc:List AV}(hk:VR gh n w kv k)(oe:k.cells=some kc)(hl:kc.length=ks.length)(r6:ka=k.isAgg)(ok:Bool) :
  ∃ v,(Instr.lookup t (.map none) kv ok).run P w=.ok v w/\VR gh n w v (vX ok va zero false):=by
 have pj:=tf hT.key hk oe hl r6 true
 have Ke:=wC hT.key hk oe hl r6 (l:=[]) (es:=[]) rfl (fun i e r h1 h2=>by simp at h1) (o:=none) rfl
 obtain⟨i0,hi0,hz0⟩:=hT.hz
 have hzr:(zeroValue et).run P w=.ok z w:=by simp[zeroValue,typeInfo,hi0,hz0]
 refine⟨if ok then .tuple #[z,.bool false] else z,?_,vY (Ia hT) false⟩
 simp[Instr.lookup,run_underlying hT.ht]
 simp[pj,Ke,hzr]
end
end
end Go.Abs
