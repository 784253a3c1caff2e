/-
  A part of the proof of SyntaxTokens: AbsOps9, AbsOps10, AbsOps11, AbsOps12, AbsCall, AbsMap1, AbsMap2.
-/
import Derived.Deep.Upon
import Derived.Lib.FrozenHead
import Derived.Test.YtbdhkgiakaegdaaGreatDoorP02
set_option linter.unusedSimpArgs false
set_option linter.unusedVariables false
set_option linter.defProp false
namespace Go.Abs
section
section
variable {P:Program}{G:Nat->List AV}{base nt:Nat}{L:List Nat}{gh:Gh}{w w' : World}{a:Act}{s:AS}{H:ai}
theorem vd(hW:bc G base s.H gh w)(hF:FR L nt gh w a s){t:Nat}(ht:t<nt){e:List (List AV)}{own:Bool}(hT:s.T t=.slice e own)(p:bM)(hp:p≠.outer) :
  ∃ aX,bc G base s.H aX w/\FR L nt aX w a (s.cy t (.slice e false))/\Ext s.H.length gh w aX w/\Step (fun r=>r=.sl t) s.H.length gh w aX w/\CR aX s.H.length w p (gv a t) (.slice e own):=by
 have gm:=fun b hb=>hW.cB (gh:=gh) b hb
 have h:CR gh s.H.length w (.sl t) (gv a t) (.slice e own):=by
  have h:=hF.slot t ht
  rw[hT] at h
  exact h
 rcases h with hv|⟨e',heq,Ib,b,cap,C,ty,lo,hi,sz,ib,hk,he,hb,hC,hr,hl,hh,hS⟩
 ·refine⟨gh,hW,?_,Ext.refl _ _ _ gm,Step.refl _ _ _ _ gm,.inl hv⟩
  exact hF.cy (touch:=fun _=>False) (H':=s.H) (lo':=s.lo) (Step.refl _ _ _ _ gm) (an4 _) (fun i _=>⟨id,id,fun _=>id⟩) (.inr rfl) (fun _=>.inl hv.dropped)
 ·injection heq with h1 h2
  subst h1 h2
  have bA:b<w.heap.size:=(aob.1 hb).1
  have st:=kP hW bA p s.H.length
  rw[hk] at st
  have hn:gh.κ b≠.none:=by rw[hk];simp
  refine⟨gh.oY b p,Jz hW bA p hn (by rw[hk];simp),?_,uI hW bA hp hn (by rw[hk];simp) _,st,.inr ⟨e,rfl,Ib,b,cap,C,ty,lo,hi,sz,ib,by simp[Gh.oY],he,hb,hC,hr,hl,hh,hS⟩⟩
  refine hF.cy (H':=s.H) (lo':=s.lo) st (an4 _) (fun i hi=>⟨by simp,by simpa using hi,by simp⟩) (.inr rfl) (fun _=>?_)
  show CR (gh.oY b p) s.H.length w (.sl t) (gv a t) (.slice e false)
  exact .inl (.plain _ _ Ib)
theorem Out.of{aX:Gh}{s1:AS}{d:Option Nat}{gen' : Nat}{v:Value}{x:AV}(hW:bc G base s1.H aX w')(hF:FR L nt aX w' a s1)(hE:Ext s.H.length gh w aX w')(hg:s1.gen<=gen')(hd:∀ k,d=some k->k<nt)
  (hx:bB x=none\/((∃ g,s1.gen<=g/\bB x=some g)/\∀ k,d=some k->k∈L)) (hv:∀ k,d=some k->SR aX s1.H.length nt w' s1.T gen' (gv a) k v x) :
  Out G base nt L gh w a s d x { s1 with gen:=gen' } v aX w' :=
 ⟨hW,hF.R0 hg (fun b hb=>hW.cB b hb) d hd hx hv,hE⟩
theorem jD{x:Operand}{t:Nat}(h:au nt x=some (.tmp t)):x=.tmp t/\t<nt:=by
 cases x with
 | tmp k =>
  simp only[au] at h
  rcases ao4 (Nat.blt k nt) with hb|hb<;>rw[hb] at h<;>simp at h
  subst h
  exact⟨rfl,by simpa [aoE] using hb⟩
 | const v =>
  simp only[au,anT] at h
  obtain⟨z,hz,h⟩:=h
  cases h
 | global g=>simp[au] at h
 | func f=>simp[au] at h
theorem Gv(hW:bc G base s.H gh w)(hF:FR L nt gh w a s){b g:Nat}{e:List (List AV)}(hb:b<nt)(hT:s.T b=.lsl g e)(lH:js e=true)(p:bM)(hp:p≠.outer) :
  ∃ aX,bc G base s.H aX w/\FR L nt aX w a (s.cy b (.slice e false))/\Ext s.H.length gh w aX w/\CR aX s.H.length w p (gv a b) (.slice e true):=by
 have gm:=fun b hb=>hW.cB (gh:=gh) b hb
 have gT:(gv a b).oneCell'=true:=by obtain⟨ad,cap,hv,_⟩:=nH hF hb hT;rw[hv];rfl
 obtain⟨ad,cap,hV,⟨rfl,rfl,GK⟩|⟨k,C,ty,sz,ff,rfl,hκ,hS,hk,hC,hl,hr,ia⟩⟩:=nH hF hb hT
 ·have hp:PR gh.S w (.slice ad 0 0) (.slice [] false):=by
   cases ad with
   | none=>exact .dM
   | some ad =>
    obtain⟨b',o',sp⟩:=ad
    have:=(GK _ rfl).1
    simp only at this
    subst this
    exact .slice b' o' 0 0 0 [] (fun _ _=>undef) rfl (an4 _) (fun i r h=>by simp at h) (fun i j r x h=>by simp at h) (fun i j r x h=>by simp at h)
  refine⟨gh,hW,?_,Ext.refl _ _ _ gm,.inl ?_⟩
  ·exact hF.cy (touch:=fun _=>False) (H':=s.H) (lo':=s.lo) (Step.refl _ _ _ _ gm) (an4 _) (fun i _=>⟨id,id,fun _=>id⟩) (.inr rfl) (fun _=>.inl (.plain _ _ (by rw[hV];exact hp)))
  ·rw[hV]
   exact .full ad 0 [] hp trivial
 ·have nN:∀ o,gh.S k o->C[o]?=C[o]?:=fun _ _=>rfl
  have hn:gh.κ k≠.none:=by rw[hκ];simp
  have D6:∀ j m,j<e.length*sz->C[j]?=some (.int .u8 m)->ty=jc:=by
   intro j m hj hc
   have dH:iS gh.S w sz (C.toList.take (e.length*sz)).toArray e:=by
    have hle:e.length*sz<=C.size:=by rw[hC];exact aoo _ hl
    refine⟨by simp;omega,hr,fun i j r x hi hj=>?_⟩
    obtain⟨u,hu,hp⟩:=ia i j r x hi hj
    refine⟨u,?_,hp⟩
    have h1:=(an2.1 hi).1
    have h2:j<sz:=by rw[<- hr i r hi];exact (an2.1 hj).1
    simp only[aow,aov,if_pos (tN h1 h2)]
    simpa using hu
   refine nG (isB:=false) (m:=m) dH lH (fun h=>by cases h) hj ?_
   simp only[aow,aov,if_pos hj]
   simpa using hc
  have st:=pq hW hk rfl (fun o=>o<e.length*sz) nN p s.H.length
  have hE:=xU hW hk rfl (fun o=>o<e.length*sz) nN (p:=p) hp hn (by rw[hκ];simp) s.H.length
  have mg:=LK hW hk rfl (fun o=>o<e.length*sz) nN D6 p hn (by rw[hκ];simp)
  have PY:=setRow_self w k C ty (0,0) hk
  rw[PY] at hE mg st
  rw[hκ] at st
  have slc:∀ S' : Nat->Nat->Prop,(∀ o,o<e.length*sz->S' k o)->(∀ b o,gh.S b o->S' b o)->PR S' w (gv a b) (.slice e false):=by
   intro S' MY hn2
   rw[hV]
   have key:∀ (i j:Nat) (r:List AV) (x:AV),e[i]?=some r->r[j]?=some x->C[i*sz+j]?=some (C.getD (i*sz+j) undef)/\PR gh.S w (C.getD (i*sz+j) undef) x/\i*sz+j<e.length*sz:=by
    intro i j r x hi hj
    obtain⟨u,hu,hp⟩:=ia i j r x hi hj
    have bA:=(aob.1 hu).1
    have:C.getD (i*sz+j) undef=u:=by
     rw[aok bA] at hu
     injection hu with hu
     simp[bA,hu]
    rw[this]
    exact⟨hu,hp,tN (an2.1 hi).1 (by rw[<- hr i r hi];exact (an2.1 hj).1)⟩
   refine .slice k 0 e.length cap sz e (fun i j=>C.getD (i*sz+j) undef) rfl hl hr (fun i j r x hi hj=>?_) (fun i j r x hi hj=>?_)
   ·obtain⟨h1,h2,h3⟩:=key i j r x hi hj
    refine⟨by have:=MY _ h3;simpa using this,?_,h2.fR⟩
    rw[Nat.zero_add,cell_of_row w k _ C ty _ hk];exact h1
   ·exact (key i j r x hi hj).2.1.mono hn2 (fun _ _ _=>rfl) (fun _ _ _ _ h=>h)
  refine⟨_,mg,?_,hE,.inr ⟨e,rfl,?_,k,cap,C,ty,0,0,sz,hV,by simp,ff,hk,hC,hr,hl,aoW _,?_⟩⟩
  ·exact hF.cy (H':=s.H) (lo':=s.lo) st (an4 _) (fun i hi=>⟨by simpa using hi,by simp,by simp⟩) (.inr rfl) (fun _=>.inl (.plain _ _ (slc _ (fun o h=>.inr ⟨rfl,h⟩) (fun b o h=>.inl h))))
  ·exact slc _ (fun o h=>.inr ⟨rfl,h⟩) (fun b o h=>.inl h)
  ·rintro o ho (h|⟨_,h⟩)
   ·exact hS o h
   ·omega
theorem CY(hW:bc G base s.H gh w)(hF:FR L nt gh w a s){o:Oper}{x:Operand}{y:aC}{take obj:Bool}{z:AV}{s' : AS}(ho:o.op=.move x\/o.op=.assign x)(hc:au nt x=some y)
  (he:mB G s take obj y=some (z,some s')) (hd:∀ k,o.dst=some k->k<nt) (hL:obj=true->∀ k,o.dst=some k->k∈L) :
  ∃ v' aX w',sQ P a o w v' w'/\Out G base nt L gh w a s o.dst z s' v' aX w':=by
 have dm:(execOp a.eval o).run P w=.ok (.value (a.eval x)) w:=by rcases ho with ho|ho<;>simp[execOp,ho]
 cases y<;>simp only[mB] at he<;>try (cases he;done)
 rename_i t
 obtain⟨rfl,ht⟩:=jD hc
 change (execOp a.eval o).run P w=.ok (.value (gv a t)) w at dm
 split at he
 ·cases he
 ·rename_i g e hT
  cases take
  ·cases he
  simp only[cond_true] at he
  cases YX:obj with
  | false =>
   rw[YX] at he
   simp only[anZ] at he
   obtain⟨lH,he⟩:=ag he
   simp only[anV,anY] at he
   obtain⟨rfl,rfl⟩:=he
   obtain⟨aX,h1,h2,h3,h4⟩:=Gv hW hF ht hT lH (Oa o.dst) (ot _)
   refine⟨_,aX,w,.inl dm,Out.of (s1:=s.cy t (.slice e false)) (gen':=s.gen) h1 h2 h3 (an4 _) hd (.inl rfl) (fun k hk=>?_)⟩
   rw[hk] at h4
   exact h4
  | true =>
  rw[YX] at he
  simp only[cond_true] at he
  simp only[anV,anY] at he
  obtain⟨rfl,rfl⟩:=he
  have cb:=nH hF ht hT
  have gm:=fun b hb=>hW.cB (gh:=gh) b hb
  have gT:(gv a t).oneCell'=true:=by obtain⟨ad,cap,hv,_⟩:=cb;rw[hv];rfl
  have key:∃ aX,bc G base s.H aX w/\FR L nt aX w a (s.cy t .any)/\Ext s.H.length gh w aX w/\qt aX w (H9 o.dst) (gv a t) e:=by
   obtain⟨ad,cap,hv,cb⟩:=cb
   rcases cb with hz|⟨b,C,ty,sz,aa1,ha,hk,hS,hb,hC,hl,hr,ia⟩
   ·refine⟨gh,hW,?_,Ext.refl _ _ _ gm,ad,cap,hv,.inl hz⟩
    exact hF.cy (touch:=fun _=>False) (H':=s.H) (lo':=s.lo) (Step.refl _ _ _ _ gm) (an4 _) (fun i _=>⟨id,id,fun _=>id⟩) (.inr rfl) (fun _=>.inl (.plain _ _ (.any _ gT)))
   ·have bA:b<w.heap.size:=(aob.1 hb).1
    have st:=kP hW bA (H9 o.dst) s.H.length
    rw[hk] at st
    have hn:gh.κ b≠.none:=by rw[hk];simp
    refine⟨gh.oY b (H9 o.dst),Jz hW bA _ hn (by rw[hk];simp),?_,uI hW bA (ua _) hn (by rw[hk];simp) _,ad,cap,hv,.inr ⟨b,C,ty,sz,aa1,ha,by simp[Gh.oY],hS,hb,hC,hl,hr,ia⟩⟩
    exact hF.cy (H':=s.H) (lo':=s.lo) st (an4 _) (fun i hi=>⟨by simpa using hi,by simp,by simp⟩) (.inr rfl) (fun _=>.inl (.plain _ _ (.any _ gT)))
  obtain⟨aX,h1,h2,h3,h4⟩:=key
  refine⟨_,aX,w,.inl dm,Out.of (s1:=s.cy t .any) (gen':=s.gen+1) h1 h2 h3 (ao6 _) hd (.inr ⟨⟨s.gen,an4 _,rfl⟩,hL YX⟩) (fun k hk=>⟨aqc _,?_⟩)⟩
  rw[hk] at h4
  exact h4
 ·rename_i e own hT
  simp only[anV,anY] at he
  obtain⟨rfl,he⟩:=he
  cases hto:(take&&own) with
  | false=>rw[hto] at he;cases he
  | true =>
   rw[hto] at he
   simp only[cond_true,anV] at he
   subst he
   obtain⟨aX,h1,h2,h3,_,h4⟩:=vd hW hF ht hT (Oa o.dst) (ot _)
   refine⟨_,aX,w,.inl dm,Out.of (s1:=s.cy t (.slice e false)) (gen':=s.gen) h1 h2 h3 (an4 _) hd (.inl rfl) (fun k hk=>?_)⟩
   rw[hk] at h4
   have aa6:own=true:=by cases take<;>simp_all
   subst aa6
   exact h4
 ·cases he
 ·cases he
theorem tM{cs:List AV}{off j:Nat} : (an off cs)[j]?=if j=off then (cs[j]?).map AV.drop else cs[j]?:=by
 unfold an
 rw[List.getElem?_modify]
 by_cases h:off=j
 ·subst h;simp
 ·rw[if_neg (fun e=>h e.symm)]
  cases cs[j]?<;>simp[h]
theorem Be{b:Nat}{p:bM}{q:Nat->bM}{n:Nat}{cs:List AV}(hW:bc G base H gh w)(hB:iw gh n w b p q cs){off:Nat}{v:AV}(hv:cs[off]?=some v)(r:bM)(hr:r≠.outer)(hq:∀ j,q j≠.none/\q j≠.outer/\q j≠p)(ah2:∀ i j,q i=q j->i=j)(m:Nat) :
  ∃ aX u,(∀ b o,aX.S b o->gh.S b o)/\Step (fun o=>o=q off) m gh w aX w/\Ext m gh w aX w/\(∀ b o,aX.S b o->b<w.heap.size)/\(∀ b,aX.κ b≠.none->base<=b/\b<w.heap.size)/\iw aX n w b p q (an off cs) /\
   w.cell? ⟨b,off,none⟩=some u/\u.oneCell'=true/\CR aX n w r u v:=by
 have gm:=fun b hb=>hW.cB (gh:=gh) b hb
 obtain⟨hκ,hS,C,ty,hb,hC,ia⟩:=hB
 have ae0:off<cs.length:=(an2.1 hv).1
 have ae1:off<C.size:=by omega
 have hu:C[off]?=some C[off]:=aok ae1
 have dw:w.cell? ⟨b,off,none⟩=some C[off]:=by rw[cell_of_row w b off C ty _ hb,hu]
 obtain⟨h1,h2⟩:=ia off _ v hu hv
 rcases h2 with PZ|⟨e,rfl,Ib,b',cap,C',me,lo,hi,sz,ib,hk,he,gO,MQ,BC,hl,hh,hS'⟩
 ·refine⟨gh,C[off],fun _ _ h=>h,Step.refl _ _ _ _ gm,Ext.refl _ _ _ gm,hW.nT,hW.pR,⟨hκ,hS,C,ty,hb,by simp[an];exact hC,fun j u x Bw xz=>?_⟩,dw,h1,.inl PZ⟩
  rw[tM] at xz
  split at xz
  ·simp only[anT] at xz
   obtain⟨y,hy,rfl⟩:=xz
   obtain⟨k1,k2⟩:=ia j u y Bw hy
   exact⟨k1,.inl k2.dropped⟩
  ·exact ia j u x Bw xz
 ·have bA:b' < w.heap.size:=(aob.1 gO).1
  have st:=kP hW bA r m
  rw[hk] at st
  have ff:b≠b':=by rintro rfl;rw[hκ] at hk;exact (hq off).2.2 hk.symm
  have hn:gh.κ b'≠.none:=by rw[hk];exact (hq off).1
  refine⟨gh.oY b' r,C[off],fun _ _ h=>h,st,uI hW bA hr hn (by rw[hk];exact (hq off).2.1) m,hW.nT,?_,⟨by simp[Gh.oY,ff,hκ],hS,C,ty,hb,by simp[an];exact hC,fun j u x Bw xz=>?_⟩,dw,h1,
   .inr ⟨e,rfl,Ib,b',cap,C',me,lo,hi,sz,ib,by simp[Gh.oY],he,gO,MQ,BC,hl,hh,hS'⟩⟩
  ·intro b1 AL
   have lT:(if b1=b' then r else gh.κ b1)≠.none:=AL
   split at lT
   ·rename_i e;rw[e];exact hW.pR b' hn
   ·exact hW.pR b1 lT
  ·have st':=kP hW bA r n
   rw[hk] at st'
   rw[tM] at xz
   split at xz
   ·rename_i hj
    subst hj
    rw[hv] at xz
    simp only[aoi,anV] at xz
    subst xz
    rw[hu] at Bw;injection Bw with Bw;subst Bw
    exact⟨h1,.inl (.plain _ _ Ib)⟩
   ·rename_i hj
    obtain⟨k1,k2⟩:=ia j u x Bw xz
    exact⟨k1,k2.mono st' (an4 _) (fun e=>hj (ah2 _ _ e))⟩
theorem bc.SB{aX:Gh}{touch:bM->Prop}(hW:bc G base H gh w)(st:Step touch H.length gh w aX w'){loc:Nat}{ty:TypeId}{cs0:List AV}(hH:H[loc]?=some (.box ty cs0))(ht:∀ l,l≠loc->¬ touch (.hb l)/\∀ j,¬ touch (.hs l j))
  (hs:∀ b o,aX.S b o->b<w'.heap.size) (hk:∀ b,aX.κ b≠.none->base<=b/\b<w'.heap.size) {cs:List AV} (hB:iw aX H.length w' (aX.ρ loc) (.hb loc) (fun j=>.hs loc j) cs) (hr:cs.all (bD loc)=true) (lG:∀ b o,aX.S b o->gh.S b o) (hlen:cs.length=cs0.length) :
  bc G base (H.set loc (.box ty cs)) aX w':=by
 have bA:loc<H.length:=(an2.1 hH).1
 refine⟨apk hW.size st.size,hs,hk,fun g j x hx=>?_,fun l me ds hl=>?_,fun l me ds hl=>?_,fun g hg=>(hW.xE g hg).imp fun ty h=>st.len g ty _ h,hW.kB st (fun b o m h=>.inl (lG b o h)),fun l o hl=>?_,fun l me ds hl=>?_⟩
 ·obtain⟨v,h1,h2,h3⟩:=hW.aZ g j x hx
  exact⟨v,(st.cell g j h3).trans h1,h2.mono st.S st.cell st.mp,st.S g j h3⟩
 ·rw[List.length_set]
  rw[ao8] at hl
  split at hl
  ·rename_i e
   subst e
   simp only[anV,cJ.box.injEq] at hl
   obtain⟨rfl,rfl⟩:=hl
   exact hB
  ·rename_i e
   have h:=(hW.boxes l me ds hl).mono st (an4 _) (ht l (apO e)).1 (ht l (apO e)).2
   rw[st.ρ l (an2.1 hl).1];exact h
 ·rw[ao8] at hl
  split at hl
  ·rename_i e
   subst e
   simp only[anV,cJ.box.injEq] at hl
   obtain⟨rfl,rfl⟩:=hl
   exact hr
  ·exact hW.refs l me ds hl
 ·rw[List.length_set]
  rw[ao8] at hl
  split at hl
  ·rename_i e
   subst e
   injection hl with hl
   subst hl
   trivial
  ·rename_i e
   rw[st.ρ l (an2.1 hl).1]
   exact (hW.more l o hl).mono st (an4 _) (ht l (apO e)).1 (ht l (apO e)).2
 ·rw[ao8] at hl
  split at hl
  ·rename_i e
   subst e
   simp only[anV,cJ.box.injEq] at hl
   obtain⟨rfl,rfl⟩:=hl
   intro hf
   have hm:=hW.types loc _ cs0 hH hf
   rw[st.ρ loc bA,hlen]
   exact st.len _ _ _ hm
  ·rename_i e
   rw[st.ρ l (an2.1 hl).1]
   exact fun hf=>st.len _ _ _ (hW.types l me ds hl hf)
theorem bc.xV{aX:Gh}{touch:bM->Prop}(hW:bc G base H gh w)(st:Step touch H.length gh w aX w'){loc:Nat}(bA:loc<H.length)(ht:∀ l,l≠loc->¬ touch (.hb l)/\∀ j,¬ touch (.hs l j))
  (hs:∀ b o,aX.S b o->b<w'.heap.size) (hk:∀ b,aX.κ b≠.none->base<=b/\b<w'.heap.size) {o:cJ} (D6:∀ ty cs,o≠.box ty cs) (hM:sP aX H.length w' (aX.ρ loc) loc o)
  (lG:∀ b o m,aX.S b o->gh.S b o\/(w'.cell? ⟨b,o,none⟩=some (.int .u8 m)->∃ C fr,w'.heap[b]?=some (.cells C jc fr))):bc G base (H.set loc o) aX w':=by
 have box:∀ {l:Nat} {ty:TypeId} {ds:List AV},(H.set loc o)[l]?=some (.box ty ds)->l≠loc/\H[l]?=some (.box ty ds):=by
  intro l ty ds hl
  rw[ao8] at hl
  split at hl
  ·injection hl with hl;exact absurd hl (D6 ty ds)
  ·rename_i e;exact⟨apO e,hl⟩
 refine⟨apk hW.size st.size,hs,hk,fun g j x hx=>?_,fun l me ds hl=>?_,fun l me ds hl=>?_,fun g hg=>(hW.xE g hg).imp fun ty h=>st.len g ty _ h,hW.kB st lG,fun l o' hl=>?_,fun l me ds hl hf=>?_⟩
 ·obtain⟨v,h1,h2,h3⟩:=hW.aZ g j x hx
  exact⟨v,(st.cell g j h3).trans h1,h2.mono st.S st.cell st.mp,st.S g j h3⟩
 ·obtain⟨ff,hl⟩:=box hl
  rw[List.length_set,st.ρ l (an2.1 hl).1]
  exact (hW.boxes l me ds hl).mono st (an4 _) (ht l ff).1 (ht l ff).2
 ·exact hW.refs l me ds (box hl).2
 ·rw[List.length_set]
  rw[ao8] at hl
  split at hl
  ·rename_i e
   subst e
   injection hl with hl
   subst hl
   exact hM
  ·rename_i e
   rw[st.ρ l (an2.1 hl).1]
   exact (hW.more l o' hl).mono st (an4 _) (ht l (apO e)).1 (ht l (apO e)).2
 ·obtain⟨ff,hl⟩:=box hl
  rw[st.ρ l (an2.1 hl).1]
  exact st.len _ _ _ (hW.types l me ds hl hf)
theorem bc.zO(hW:bc G base H gh w){ob:Obj}(hp:fI w w' ob){o:cJ}(D6:∀ ty cs,o≠.box ty cs)(hM:sP (gh.bL w.heap.size H.length) (H.length+1) w' w.heap.size H.length o) :
  bc G base (H++[o]) (gh.bL w.heap.size H.length) w':=by
 have st:=gG hW hp
 have old:∀ {l:Nat} {o' : cJ},(H++[o])[l]?=some o'->(l<H.length/\H[l]?=some o')\/(l=H.length/\o'=o):=by
  intro l o' hl
  by_cases bA:l<H.length
  ·rw[aot bA] at hl;exact .inl ⟨bA,hl⟩
  ·rw[aou (by omega)] at hl
   have hz:l=H.length:=by
    have:=(an2.1 hl).1
    simp at this;omega
   subst hz
   simp at hl
   exact .inr ⟨rfl,hl.symm⟩
 refine⟨apk hW.size st.size,?_,?_,fun g j x hx=>?_,fun l me ds hl=>?_,fun l me ds hl=>?_,fun g hg=>(hW.xE g hg).imp fun ty h=>st.len g ty _ h,hW.kB st (fun b o m h=>h.elim .inl (fun h=>h.2.elim)),fun l o' hl=>?_,fun l me ds hl hf=>?_⟩
 ·intro b o ho
  rw[hp.size]
  rcases ho with ho|⟨_,ho⟩
  ·have:=hW.nT b o ho;omega
  ·exact ho.elim
 ·intro b hb
  rw[hp.size]
  have gO:(if b=w.heap.size then bM.hb H.length else gh.κ b)≠.none:=hb
  split at gO
  ·rename_i e
   have:=hW.size
   omega
  ·have:=hW.pR b gO;omega
 ·obtain⟨v,h1,h2,h3⟩:=hW.aZ g j x hx
  exact⟨v,(st.cell g j h3).trans h1,h2.mono st.S st.cell st.mp,st.S g j h3⟩
 ·rcases old hl with ⟨bA,hl⟩|⟨_,h⟩
  ·rw[aod,apr,st.ρ l bA]
   exact (hW.boxes l me ds hl).mono st (ao6 _) id (fun _=>id)
  ·exact absurd h.symm (D6 me ds)
 ·rcases old hl with ⟨bA,hl⟩|⟨_,h⟩
  ·exact hW.refs l me ds hl
  ·exact absurd h.symm (D6 me ds)
 ·rw[aod,apr]
  rcases old hl with ⟨bA,hl⟩|⟨rfl,rfl⟩
  ·rw[st.ρ l bA]
   exact (hW.more l o' hl).mono st (ao6 _) id (fun _=>id)
  ·have hρ:(gh.bL w.heap.size H.length).ρ H.length=w.heap.size:=by simp[Gh.bL]
   rw[hρ];exact hM
 ·rcases old hl with ⟨bA,hl⟩|⟨_,h⟩
  ·rw[st.ρ l bA]
   exact st.len _ _ _ (hW.types l me ds hl hf)
  ·exact absurd h.symm (D6 me ds)
theorem Hj{cs:List AV}{off:Nat}{y:AV}(h:y∈an off cs):y∈cs\/∃ x,x∈cs/\y=x.drop:=by
 obtain⟨j,hj⟩:=aoC h
 rw[tM] at hj
 split at hj
 ·simp only[anT] at hj
  obtain⟨x,hx,rfl⟩:=hj
  exact .inr ⟨x,aoh hx,rfl⟩
 ·exact .inl (aoh hj)
theorem DW{cs:List AV}{off loc:Nat}(h:cs.all (bD loc)=true):(an off cs).all (bD loc)=true:=by
 refine an'.2 fun y hy=>?_
 rcases Hj hy with hy|⟨x,hx,rfl⟩
 ·exact an'.1 h y hy
 ·exact oD (an'.1 h x hx)
theorem nI{n:Nat}{T:aU}{gen:Nat}{tm:Nat->Value}{i:Nat}{v:Value}{x:AV}(hx:aH x=true)(h:CR gh n w (.sl i) v x):SR gh n nt w T gen tm i v x:=by
 cases x<;>first|exact h|(simp[aH] at hx)
theorem CR.aH{n:Nat}{p:bM}{v:Value}{x:AV}(h:CR gh n w p v x):aH x=true:=by
 rcases h with h|⟨e,rfl,_⟩
 ·cases h with
  | plain _ _ h=>cases h<;>rfl
  | full=>rfl
  | ref=>rfl
  | sref=>rfl
  | mref=>rfl
  | func=>rfl
  | iface=>rfl
  | agg=>rfl
  | tuple=>rfl
 ·rfl
theorem kq{x:AV}(h:Abs.aH x=true):bB x=none:=by cases x<;>first|rfl|(simp[Abs.aH] at h)
theorem B1{t:TypeId}(hg:lW P t=some false){b off:Nat}{u:Value}(hc:w.cell? ⟨b,off,none⟩=some u):(Instr.loadAt t (.pointer (some ⟨b,off,none⟩))).run P w=.ok u w:=by
 simp[Instr.loadAt,Instr.sureAddr,loadVar,iN hg,hc]
theorem CX(hW:bc G base s.H gh w)(hF:FR L nt gh w a s){o:Oper}{t:TypeId}{x:Operand}{y:aC}{take agg:Bool}{sz:Nat}{z:AV}{s' : AS}(ho:o.op=.load t x)(hc:au nt x=some y)(hg:lW P t=some agg)(hs:fz P t=some sz)
  (he:ay s take agg sz (y.addr G s.T)=some (z,some s')) (hd:∀ k,o.dst=some k->k<nt) :
  ∃ v' aX w',sQ P a o w v' w'/\Out G base nt L gh w a s o.dst z s' v' aX w':=by
 have hv:=arg_val hW hF hc
 generalize hY:y.addr G s.T=Y at hv he
 cases Y<;>simp only[ay] at he<;>try (cases he;done)
 case eptr cs=>simp at he
 case ref loc off =>
  obtain⟨bA,qh⟩:=VR.lV (hv:VR gh s.H.length w (a.eval x) (.ref loc off))
  split at he
  ·rename_i Oc cs hH
   simp only[anT,anY] at he
   obtain⟨u,hu,rfl,hn⟩:=he
   cases hq:(take&&!agg) with
   | false=>rw[hq] at hn;cases hn
   | true =>
    rw[hq] at hn
    simp only[cond_true,anV] at hn
    subst hn
    simp only[an7,aoT] at hq
    obtain⟨rfl,rfl⟩:=hq
    simp only[ab,anZ,cond_true,anT] at hu
    obtain⟨u',hu,rfl⟩:=hu
    obtain⟨aX,uv,hSS,st,hE,rO,qj,hB,dw,gT,l8⟩:=Be hW (hW.boxes loc _ cs hH) hu (Oa o.dst) (ot _) (by simp) (by simp) s.H.length
    have hρ:aX.ρ loc=gh.ρ loc:=st.ρ loc bA
    have mg:bc G base (s.H.set loc (.box Oc (an off cs))) aX w:=hW.SB st hH (by intro l hl;simp[hl]) rO qj (by rw[hρ];exact hB) (DW (hW.refs loc _ cs hH)) hSS (by simp[an])
    have GC:FR L nt aX w a (s.gL ⟨s.H.set loc (.box Oc (an off cs)),loc⟩):=hF.grown st (fun i=>⟨by simp,by simp,by simp⟩) (by simp)
    refine⟨uv,aX,w,.inl ?_,Out.of (s1:=s.gL ⟨s.H.set loc (.box Oc (an off cs)),loc⟩) (gen':=s.gen) mg GC hE (an4 _) hd (.inl (kq l8.aH)) (fun k hk=>?_)⟩
    ·simp[execOp,ho,qh,B1 hg dw]
    ·rw[hk] at l8
     have:(s.gL ⟨s.H.set loc (.box Oc (an off cs)),loc⟩).H.length=s.H.length:=by simp[AS.gL]
     rw[this]
     exact nI l8.aH l8
  ·simp at he
  ·simp at he
  ·cases he
 case lref b g off =>
  obtain⟨hb,JF,hr⟩:=(hv:_/\_/\_)
  split at he
  ·rename_i g' cs hT
   obtain⟨h0,qi⟩:=ag he
   clear he
   have D4:g=g':=by simpa [gI] using h0
   subst D4
   rename _=some (z,some s')=>he
   simp only[anT,anY] at he
   obtain⟨u,hu,rfl,hn⟩:=he
   cases hq:(take&&!agg) with
   | false=>rw[hq] at hn;cases hn
   | true =>
    rw[hq] at hn
    simp only[cond_true,anV] at hn
    subst hn
    simp only[an7,aoT] at hq
    obtain⟨rfl,rfl⟩:=hq
    simp only[ab,anZ,cond_true,anT] at hu
    obtain⟨u',hu,rfl⟩:=hu
    obtain⟨k,hk,aaB⟩:=vj hF hb hT
    have qh:=hr (by rw[hT];rfl) k hk
    obtain⟨aX,uv,hSS,st,hE,rO,qj,hB,dw,gT,l8⟩:=Be hW aaB hu (Oa o.dst) (ot _) (by simp) (by simp) s.H.length
    have mg:bc G base s.H aX w:=hW.step st (by simp) rO qj (fun b o _ h=>.inl (hSS b o h))
    have GC:FR L nt aX w a (s.cy b (.lbox g (an off cs))) :=
     hF.cy (H':=s.H) (lo':=s.lo) st (an4 _) (fun i hi=>⟨by simp,by simp,by intro j e;injection e with e _;exact hi e⟩) (.inl ⟨hb,by rw[hT];rfl⟩) (fun _=>⟨by
      have h:=hF.slot b hb
      rw[hT] at h
      exact h.1,k,hk,hB⟩)
    refine⟨uv,aX,w,.inl ?_,Out.of (s1:=s.cy b (.lbox g (an off cs))) (gen':=s.gen) mg GC hE (an4 _) hd (.inl (kq l8.aH)) (fun k hk=>?_)⟩
    ·simp[execOp,ho,qh,B1 hg dw]
    ·rw[hk] at l8
     exact nI l8.aH l8
  ·cases he
 case eref b g i zz off =>
  split at he
  ·obtain⟨_,he⟩:=ag he
   simp only[anU] at he
   obtain⟨r,_,he⟩:=he
   obtain⟨_,he⟩:=ag he
   simp at he
  ·cases he
end
end
section
section
variable {P:Program}{G:Nat->List AV}{base nt:Nat}{L:List Nat}{gh:Gh}{w w' : World}{a:Act}{s:AS}{H:ai}
theorem oK(hW:bc G base s.H gh w)(hF:FR L nt gh w a s){x:Operand}{y:aC}(hc:au nt x=some y)(hf:aH (y.eval G s.T)=true)(p:bM)(hp:p≠.outer) :
  ∃ aX,bc G base s.H aX w/\FR L nt aX w a (s.bI y)/\Ext s.H.length gh w aX w/\Step (fun r=>∃ t,r=.sl t) s.H.length gh w aX w/\CR aX s.H.length w p (a.eval x) (y.eval G s.T):=by
 have gm:=fun b hb=>hW.cB (gh:=gh) b hb
 have stay:s.bI y=s->VR gh s.H.length w (a.eval x) (y.eval G s.T)->∃ aX,bc G base s.H aX w/\FR L nt aX w a (s.bI y)/\Ext s.H.length gh w aX w/\Step (fun r=>∃ t,r=.sl t) s.H.length gh w aX w/\CR aX s.H.length w p (a.eval x) (y.eval G s.T):=by
  intro h1 h2
  rw[h1]
  exact⟨gh,hW,hF,Ext.refl _ _ _ gm,Step.refl _ _ _ _ gm,.inl h2⟩
 cases y with
 | tmp t =>
  obtain⟨rfl,ht⟩:=jD hc
  have hd:=cY hW hF hc rfl hf
  simp only[aC.eval] at hf hd stay ⊢
  cases hT:s.T t with
  | slice e own =>
   cases own with
   | false =>
    rw[hT] at hd stay
    exact stay (by simp[AS.bI,hT]) hd
   | true =>
    obtain⟨aX,h1,h2,h3,h4,h5⟩:=vd hW hF ht hT p hp
    refine⟨aX,h1,?_,h3,h4.mono (fun r h=>⟨t,h⟩),h5⟩
    simpa [AS.bI,hT] using h2
  | _ =>
   rw[hT] at hd stay
   exact stay (by simp[AS.bI,hT]) hd
 | bC v =>
  refine stay rfl ?_
  cases x with
  | tmp k =>
   simp only[au] at hc
   rcases ao4 (Nat.blt k nt) with hb|hb<;>rw[hb] at hc<;>simp at hc
  | const u =>
   simp only[au,anT] at hc
   obtain⟨z,hz,h⟩:=hc
   injection h with h
   subst h
   exact jG hz
  | global g=>simp[au] at hc
  | func f=>simp[au] at hc
 | aZ g =>
  refine stay rfl ?_
  have:=cY hW hF hc rfl hf
  exact this
 | fn f =>
  refine stay rfl ?_
  have:=cY hW hF hc rfl hf
  exact this
theorem Sl{b:Nat} : ({ S:=fun b' o=>gh.S b' o\/(b'=b/\(fun _=>False) o),κ:=fun b'=>if b'=b then gh.κ b else gh.κ b',ρ:=gh.ρ } : Gh)=gh:=by
 obtain⟨S,κ,ρ⟩:=gh
 congr 1
 ·funext b' o
  simp
 ·funext b'
  by_cases h:b'=b
  ·subst h;simp
  ·simp[h]
theorem mX(hW:bc G base H gh w){b:Nat}{C C' : Array Value}{ty:TypeId}{fr:Nat × Nat}(hb:w.heap[b]?=some (.cells C ty fr))(iF:C'.size=C.size)(dw:∀ o,gh.S b o->C'[o]?=C[o]?)(n:Nat) :
  Step (fun r=>r=gh.κ b) n gh w gh (w.setRow b C'):=by
 have h:=pq hW hb iF (fun _=>False) dw (gh.κ b) n
 rw[Sl] at h
 exact h
theorem zS(hW:bc G base H gh w){b:Nat}{C C' : Array Value}{ty:TypeId}{fr:Nat × Nat}(hb:w.heap[b]?=some (.cells C ty fr))(iF:C'.size=C.size)(dw:∀ o,gh.S b o->C'[o]?=C[o]?)(h0:gh.κ b≠.none)(h1:gh.κ b≠.outer)(n:Nat) :
  Ext n gh w gh (w.setRow b C') :=
 ⟨(mX hW hb iF dw n).mono (fun r h=>by rw[h];exact⟨h0,h1⟩),fun _ h=>h⟩
def fT(C:Array Value)(off:Nat)(D:Array Value):Array Value:=(C.toList.take off++D.toList++C.toList.drop (off+D.toList.length)).toArray
theorem jR{C D:Array Value}{off:Nat}(h:off+D.size<=C.size)(j:Nat):(fT C off D)[j]?=if off<=j/\j<off+D.size then D[j-off]? else C[j]?:=by
 have aaY:min off C.size=off:=by omega
 unfold fT
 simp only[aow,apa,aod,ao2,aov,aoS,aqC,aoL,aaY]
 by_cases h1:j<off
 ·have e1:j<off+D.size:=by omega
  rw[if_pos e1,if_pos h1,if_pos h1,if_neg (by omega)]
 ·by_cases h2:j<off+D.size
  ·rw[if_pos h2,if_neg h1,if_pos ⟨by omega,h2⟩]
  ·rw[if_neg h2,if_neg (by omega)]
   congr 1;omega
theorem dS{C D:Array Value}{off:Nat}(h:off+D.size<=C.size):(fT C off D).size=C.size:=by
 unfold fT;simp;omega
theorem xd{t:TypeId}{sz:Nat}(hs:fz P t=some sz){b off:Nat}{C:Array Value}{ty:TypeId}(hb:w.heap[b]?=some (.cells C ty (0,0))){v:Value}(hv:v.cells.size=sz)(jA:off+sz<=C.size)(gT:∀ u∈v.cells.toList,u.oneCell'=true) :
  (Instr.storeAt t (.pointer (some ⟨b,off,none⟩)) v).run P w=.ok () (w.setRow b (fT C off v.cells)):=by
 have h:=run_storeCells_at P b off ty v.cells.toList 0 C w hb (by simp;omega) gT
 simp only[aos] at h
 simp[Instr.storeAt,Instr.sureAddr,storeVar,fy hs,hv,h,fT]
theorem vB(hW:bc G base H gh w){b:Nat}{p:bM}{q:Nat->bM}{n:Nat}{cs vs:List AV}(hB:iw gh n w b p q cs){off sz:Nat}{t:TypeId}(hs:fz P t=some sz){v:Value}(tX:vs.length=sz)(ae0:off+sz<=cs.length)
  (hv:v.cells.size=sz) (de:∀ (j:Nat) (u:Value) (x:AV),v.cells[j]?=some u->vs[j]?=some x->u.oneCell'=true/\CR gh n w (q (off+j)) u x) (hq:∀ j,q j≠p) (hp:p≠.none/\p≠.outer) (m:Nat) :
  ∃ w',(Instr.storeAt t (.pointer (some ⟨b,off,none⟩)) v).run P w=.ok () w'/\Step (fun r=>r=p) m gh w gh w'/\Ext m gh w gh w'/\w'.heap.size=w.heap.size/\iw gh n w' b p q (putAt cs off vs):=by
 obtain⟨hκ,hS,C,ty,hb,hC,ia⟩:=hB
 have nN:∀ o,gh.S b o->(fT C off v.cells)[o]?=C[o]?:=fun o ho=>(hS o ho).elim
 have BD:(fT C off v.cells).size=C.size:=dS (by omega)
 have st:=mX hW hb BD nN m
 have stn:=mX hW hb BD nN n
 have hE:=zS hW hb BD nN (by rw[hκ];exact hp.1) (by rw[hκ];exact hp.2) m
 rw[hκ] at st stn
 have jA:off+v.cells.size<=C.size:=by omega
 refine⟨_,xd hs hb hv (by omega) ?_,st,hE,by simp,hκ,hS,_,ty,setRow_heap w b C _ ty _ hb,by rw[dS jA,pk (by omega)];exact hC,fun j u x Bw xz=>?_⟩
 ·intro u hu
  obtain⟨j,hj⟩:=aoC hu
  have xy:v.cells[j]?=some u:=by simpa using hj
  have bA:j<vs.length:=by rw[tX,<- hv];exact (aob.1 xy).1
  exact (de j u _ xy (an3 bA)).1
 ·rw[jR jA] at Bw
  rw[rV (by omega)] at xz
  have e1:v.cells.size=vs.length:=by omega
  rw[e1] at Bw
  split at Bw
  ·rename_i hc
   rw[if_pos hc] at xz
   obtain⟨k1,k2⟩:=de _ u x Bw xz
   rw[show off+(j-off)=j by omega] at k2
   exact⟨k1,k2.mono stn (an4 _) (hq j)⟩
  ·rename_i hc
   rw[if_neg hc] at xz
   obtain⟨k1,k2⟩:=ia j u x Bw xz
   exact⟨k1,k2.mono stn (an4 _) (hq j)⟩
theorem uc{n:Nat}{v:Value}{x:AV}{vs:List AV}{q:Nat->bM}{off:Nat}(h:CR gh n w (q off) v x)(hc:x.cells=some vs) :
  v.cells.size=vs.length/\∀ (j:Nat) (u:Value) (y:AV),v.cells[j]?=some u->vs[j]?=some y->u.oneCell'=true/\CR gh n w (q (off+j)) u y:=by
 rcases h with h|⟨e,rfl,Ib,hO⟩
 ·have hr:=rE h hc
  exact⟨hr.1,fun j u y hu hy=>⟨(hr.2 j u y hu hy).2,.inl (hr.2 j u y hu hy).1⟩⟩
 ·have e1:vs=[.slice e true]:=by simpa [AV.cells] using hc.symm
  subst e1
  have gT:=Ib.fR
  have:v.cells=#[v]:=by obtain⟨b,cap,_,_,_,_,_,rfl,_⟩:=hO;rfl
  rw[this]
  refine⟨rfl,fun j u y hu hy=>?_⟩
  cases j with
  | zero=>simp at hu hy;subst hu hy;exact⟨gT,.inr ⟨e,rfl,Ib,hO⟩⟩
  | succ j=>simp at hu
theorem jd{x:AV}{vs:List AV}(h:x.cells=some vs):aH x=true:=by cases x<;>first|rfl|cases h
theorem iJ(s:AS)(y:aC):(s.bI y).H=s.H/\(s.bI y).gen=s.gen/\(s.bI y).lo=s.lo:=by
 cases y with
 | tmp t=>simp only[AS.bI];split<;>exact⟨rfl,rfl,rfl⟩
 | _=>exact⟨rfl,rfl,rfl⟩
theorem LO(s:AS)(y:aC)(b:Nat)(h:∀ e,s.T b≠.slice e true):(s.bI y).T b=s.T b:=by
 cases y<;>simp only[AS.bI]
 rename_i t
 split
 ·rename_i e hT
  by_cases hb:b=t
  ·subst hb;exact absurd hT (h e)
  ·simp[AS.cy,iZ,hb]
 ·rfl
theorem mY(s:AS)(t:Nat)(h:∀ e,s.T t≠.slice e true):s.bI (.tmp t)=s:=by
 simp only[AS.bI]
theorem rX(s:AS)(t:Nat){e:List (List AV)}(h:s.T t=.slice e true):s.bI (.tmp t)=s.cy t (.slice e false):=by
 simp only[AS.bI,h]
theorem zX(s:AS)(y:aC)(b:Nat)(X:AV)(h:∀ e,s.T b≠.slice e true)(hX:∀ e,X≠.slice e true):(s.cy b X).bI y=(s.bI y).cy b X:=by
 cases y<;>try rfl
 rename_i t
 by_cases hb:t=b
 ·subst hb
  rw[mY s t h,mY _ t (by simpa [AS.cy,iZ] using hX)]
 ·have e1:(s.cy b X).T t=s.T t:=by simp[AS.cy,iZ,hb]
  by_cases ho:∃ e,s.T t=.slice e true
  ·obtain⟨e,ho⟩:=ho
   rw[rX s t ho,rX (s.cy b X) t (by rw[e1,ho])]
   simp only[AS.cy]
   congr 1
   funext k
   simp only[iZ]
   by_cases h1:k=t
   ·subst h1;simp[hb]
   ·by_cases h2:k=b
    ·subst h2;simp[h1]
    ·simp[h1,h2]
  ·have rN:∀ e,s.T t≠.slice e true:=fun e he=>ho ⟨e,he⟩
   rw[mY s t rN,mY (s.cy b X) t (by rw[e1];exact rN)]
theorem wu(s:AS)(y:aC)(c:gS):(s.gL c).bI y=(s.bI y).gL c:=by
 cases y<;>simp only[AS.bI]
 rename_i t
 show (match s.T t with|.slice e true=>(s.gL c).cy t (.slice e false)|_=>s.gL c)=_
 cases hT:s.T t<;>try rfl
 rename_i e own
 cases own<;>rfl
theorem Out.skip{aX:Gh}{s1:AS}{d:Option Nat}(hW:bc G base s1.H aX w')(hF:FR L nt aX w' a s1)(hE:Ext s.H.length gh w aX w')(hd:∀ k,d=some k->k<nt):Out G base nt L gh w a s d .undef s1 undef aX w' :=
 Out.of (gen':=s1.gen) hW hF hE (an4 _) hd (.inl rfl) (fun k hk=>.inl VR.undef)
theorem Nx{cs vs:List AV}{off:Nat}{f:AV->Bool}(h1:cs.all f=true)(h2:vs.all f=true):(putAt cs off vs).all f=true:=by
 refine an'.2 fun x hx=>?_
 unfold putAt at hx
 rcases an9.1 hx with hx|hx
 ·rcases an9.1 hx with hx|hx
  ·exact an'.1 h1 x (apD hx)
  ·exact an'.1 h2 x hx
 ·exact an'.1 h1 x (aqy hx)
theorem Pg(hW:bc G base s.H gh w)(hF:FR L nt gh w a s){o:Oper}{t:TypeId}{xa xv:Operand}{ya yv:aC}{sz:Nat}{s' : AS}(ho:o.op=.store t xa xv)(Lk:au nt xa=some ya)(xN:au nt xv=some yv)(hs:fz P t=some sz)
  (he:aN s sz (ya.addr G s.T) (yv.eval G s.T)=some s') (hd:∀ k,o.dst=some k->k<nt) :
  ∃ v' aX w',sQ P a o w v' w'/\Out G base nt L gh w a s o.dst .undef (s'.bI yv) v' aX w':=by
 have ha:=arg_val hW hF Lk
 unfold aN at he
 split at he
 ·cases he
 rename_i vs tX
 obtain⟨hlen,he⟩:=ag he
 have hlen:vs.length=sz:=by simpa [gI] using hlen
 have N4:=jd tX
 generalize hY:ya.addr G s.T=Y at ha he
 cases Y<;>simp only at he<;>try (cases he;done)
 case ref loc off =>
  obtain⟨bA,qh⟩:=VR.lV (ha:VR gh s.H.length w (a.eval xa) (.ref loc off))
  split at he
  ·rename_i Oc cs hH
   obtain⟨h0,he⟩:=ag he
   injection he with he
   subst he
   simp only[an7,aoU] at h0
   obtain⟨lB,qg,xw,Ia,Tn,l8⟩:=oK hW hF xN N4 (.hs loc off) (by simp)
   have hρ:lB.ρ loc=gh.ρ loc:=Tn.ρ loc bA
   obtain⟨iF,de⟩:=uc (q:=fun j=>.hs loc j) l8 tX
   obtain⟨w',dm,xe,y6,qY,hB⟩:=vB (P:=P) qg (qg.boxes loc _ cs hH) hs hlen h0.1 (by omega) de (by simp) (by simp) s.H.length
   have C7:bc G base (s.H.set loc (.box Oc (putAt cs off vs))) lB w':=qg.SB xe hH (by intro l hl;simp[hl]) (fun b o ho=>by rw[qY];exact qg.nT b o ho) (fun b hb=>by rw[qY];exact qg.pR b hb) hB (Nx (qg.refs loc _ cs hH) h0.2) (fun _ _ h=>h) (pk (by omega))
   have hS:=iJ s yv
   have GD:FR L nt lB w' a ((s.bI yv).gL ⟨s.H.set loc (.box Oc (putAt cs off vs)),loc⟩):=xw.grown (by rw[hS.1];exact xe) (fun i=>⟨by simp,by simp,by simp⟩) (by rw[hS.1];simp)
   refine⟨undef,lB,w',.inr ⟨?_,rfl⟩,?_⟩
   ·simp[execOp,ho,qh,<- hρ,dm]
   ·rw[wu]
    exact Out.skip (s1:=(s.bI yv).gL ⟨s.H.set loc (.box Oc (putAt cs off vs)),loc⟩) C7 GD (Ia.trans y6 (an4 _)) hd
  ·rename_i cs hH
   obtain⟨h0,he⟩:=ag he
   injection he with he
   subst he
   simp only[an7,aoU] at h0
   obtain⟨lB,qg,xw,Ia,Tn,l8⟩:=oK hW hF xN N4 (.hs loc off) (by simp)
   have hρ:lB.ρ loc=gh.ρ loc:=Tn.ρ loc bA
   obtain⟨iF,de⟩:=uc (q:=fun j=>.hs loc j) l8 tX
   obtain⟨w',dm,xe,y6,qY,hB⟩:=vB (P:=P) qg (qg.more loc _ hH:iw lB s.H.length w (lB.ρ loc) (.hb loc) (fun j=>.hs loc j) cs) hs hlen h0.1 (by omega) de (by simp) (by simp) s.H.length
   have C7:bc G base (s.H.set loc (.ba (putAt cs off vs))) lB w':=qg.xV xe bA (by intro l hl;simp[hl]) (fun b o ho=>by rw[qY];exact qg.nT b o ho) (fun b hb=>by rw[qY];exact qg.pR b hb) (fun _ _ h=>by cases h) hB (fun _ _ _ h=>.inl h)
   have hS:=iJ s yv
   have GD:FR L nt lB w' a ((s.bI yv).gL ⟨s.H.set loc (.ba (putAt cs off vs)),loc⟩):=xw.grown (by rw[hS.1];exact xe) (fun i=>⟨by simp,by simp,by simp⟩) (by rw[hS.1];simp)
   refine⟨undef,lB,w',.inr ⟨?_,rfl⟩,?_⟩
   ·simp[execOp,ho,qh,<- hρ,dm]
   ·rw[wu]
    exact Out.skip (s1:=(s.bI yv).gL ⟨s.H.set loc (.ba (putAt cs off vs)),loc⟩) C7 GD (Ia.trans y6 (an4 _)) hd
  ·cases he
 case lref b g off =>
  obtain⟨hb,JF,hr⟩:=(ha:_/\_/\_)
  split at he
  ·rename_i g' cs hT
   obtain⟨h0,he⟩:=ag he
   injection he with he
   subst he
   simp only[an7,aoU,gI,aoq] at h0
   obtain⟨⟨rfl,h0⟩,_⟩:=h0
   obtain⟨k,hk,_⟩:=vj hF hb hT
   have qh:=hr (by rw[hT];rfl) k hk
   obtain⟨lB,qg,xw,Ia,Tn,l8⟩:=oK hW hF xN N4 (.sc b off) (by simp)
   have hS:=iJ s yv
   have Uf:(s.bI yv).T b=.lbox g cs:=by rw[LO _ _ _ (by rw[hT];simp),hT]
   obtain⟨k',qj,hB1⟩:=vj xw hb Uf
   have N7:k'=k:=by rw[hk] at qj;injection qj with h;injection h with h;injection h with h;exact h.symm
   subst N7
   rw[hS.1] at hB1
   obtain⟨iF,de⟩:=uc (q:=fun j=>.sc b j) l8 tX
   obtain⟨w',dm,xe,y6,qY,hB⟩:=vB (P:=P) qg hB1 hs hlen h0 (by omega) de (by simp) (by simp) s.H.length
   have C7:bc G base s.H lB w':=qg.step xe (by simp) (fun b o ho=>by rw[qY];exact qg.nT b o ho) (fun b hb=>by rw[qY];exact qg.pR b hb) (fun _ _ _ h=>.inl h)
   have GD:FR L nt lB w' a ((s.bI yv).cy b (.lbox g (putAt cs off vs))):=by
    refine xw.cy (H':=(s.bI yv).H) (lo':=(s.bI yv).lo) (by rw[hS.1];exact xe) (an4 _) (fun i hi=>⟨by simpa using hi,by simp,by simp⟩) (.inl ⟨hb,by rw[Uf];rfl⟩) (fun _=>⟨?_,k',hk,?_⟩)
    ·have h:=xw.slot b hb
     rw[Uf] at h
     exact h.1
    ·rw[hS.1];exact hB
   refine⟨undef,lB,w',.inr ⟨?_,rfl⟩,?_⟩
   ·simp[execOp,ho,qh,dm]
   ·rw[zX _ _ _ _ (by rw[hT];simp) (by simp)]
    exact Out.skip (s1:=(s.bI yv).cy b (.lbox g (putAt cs off vs))) (by show bc G base (s.bI yv).H lB w';rw[hS.1];exact C7) GD (Ia.trans y6 (an4 _)) hd
  ·cases he
 case eref b g i z off =>
  obtain⟨hb,JF,hr⟩:=(ha:_/\_/\_)
  split at he
  ·rename_i g' e hT
   obtain⟨h0,he1⟩:=ag he
   have D4:g=g':=by simpa [gI] using h0
   clear he
   subst D4
   simp only[anU] at he1
   obtain⟨r,Ls,qi⟩:=he1
   obtain⟨h1,he3⟩:=ag qi
   injection he3 with he3
   subst he3
   simp only[an7,aoU,gI,aoq] at h1
   obtain⟨⟨hrz,ae0⟩,vo⟩:=h1
   obtain⟨lB,qg,xw,Ia,Tn,l8⟩:=oK hW hF xN N4 .none (by simp)
   have hS:=iJ s yv
   have Uf:(s.bI yv).T b=.lsl g e:=by rw[LO _ _ _ (by rw[hT];simp),hT]
   obtain⟨ad,cap,ib,cb⟩:=nH xw hb Uf
   rcases cb with ⟨rfl,_⟩|⟨k,C,ty,jC,aa1,rfl,hκ,hS1,N5,hC,hl,Ih,ia⟩
   ·simp at Ls
   have qh:=hr (by rw[hT];rfl) k _ _ ib
   have Tl:jC=z:=by rw[<- hrz,Ih i r Ls]
   subst Tl
   have aaP:i<e.length:=(an2.1 Ls).1
   obtain⟨iF,de⟩:=uc (q:=fun _=>.none) (off:=0) l8 tX
   have ae' : ∀ (j:Nat) (x:AV),(vs.map AV.drop)[j]?=some x->∃ u,(a.eval xv).cells[j]?=some u/\PR lB.S w u x:=by
    intro j x hx
    simp only[aol,anT] at hx
    obtain⟨y,hy,rfl⟩:=hx
    have hj:j<(a.eval xv).cells.size:=by rw[iF];exact (an2.1 hy).1
    have hu:=aok hj
    refine⟨_,hu,(de j _ y hu hy).2.dropped.ko (an'.1 vo _ (aoD.2 ⟨y,aoh hy,rfl⟩))⟩
   have jA:i*jC+off+(a.eval xv).cells.size<=C.size:=by
    have h2:(i+1)*jC<=e.length*jC:=aoo _ aaP
    have h3:e.length*jC<=cap*jC:=aoo _ hl
    rw[aoM] at h2
    omega
   have nN:∀ o,lB.S k o->(fT C (i*jC+off) (a.eval xv).cells)[o]?=C[o]?:=fun o ho=>(hS1 o ho).elim
   have xe:=mX qg N5 (dS jA) nN s.H.length
   have y6:=zS qg N5 (dS jA) nN (by rw[hκ];simp) (by rw[hκ];simp) s.H.length
   rw[hκ] at xe
   have dm:=xd (P:=P) (w:=w) (off:=i*jC+off) hs N5 (v:=a.eval xv) (by omega) (by omega) (fun u hu=>by
    obtain⟨j,hj⟩:=aoC hu
    have xy:(a.eval xv).cells[j]?=some u:=by simpa using hj
    have bA:j<vs.length:=by rw[<- iF];exact (aob.1 xy).1
    exact (de j u _ xy (an3 bA)).1)
   have C7:bc G base s.H lB (w.setRow k (fT C (i*jC+off) (a.eval xv).cells)):=qg.step xe (by simp) (fun b o ho=>by simpa using qg.nT b o ho) (fun b hb=>by simpa using qg.pR b hb) (fun _ _ _ h=>.inl h)
   have hds:off+(vs.map AV.drop).length<=r.length:=by simp;omega
   have GD:FR L nt lB (w.setRow k (fT C (i*jC+off) (a.eval xv).cells)) a ((s.bI yv).cy b (.lsl g (e.set i (putAt r off (vs.map AV.drop))))):=by
    refine xw.cy (H':=(s.bI yv).H) (lo':=(s.bI yv).lo) (by rw[hS.1];exact xe) (an4 _) (fun i hi=>⟨by simpa using hi,by simp,by simp⟩) (.inl ⟨hb,by rw[Uf];rfl⟩) (fun _=>⟨?_,?_⟩)
    ·have h:=xw.slot b hb
     rw[Uf] at h
     exact h.1
    ·refine⟨some ⟨k,0,none⟩,cap,by simpa using ib,.inr ⟨k,_,ty,jC,(by intro h0;have:=apK List.length h0;simp at this;exact aa1 this),rfl,hκ,hS1,setRow_heap w k C _ ty _ N5,by rw[dS jA,hC],by simpa using hl,?_,?_⟩⟩
     ·intro i' r' BC
      rw[ao8] at BC
      split at BC
      ·rename_i MU
       injection BC with BC
       subst BC
       rw[pk hds];exact hrz
      ·exact Ih i' r' BC
     ·intro i' j r' x BC hj
      rw[jR jA]
      rw[ao8] at BC
      split at BC
      ·rename_i MU
       subst MU
       injection BC with BC
       subst BC
       rw[rV hds] at hj
       have Ak:(vs.map AV.drop).length=(a.eval xv).cells.size:=by simp[iF]
       rw[Ak] at hj
       by_cases hc:off<=j/\j<off+(a.eval xv).cells.size
       ·rw[if_pos hc] at hj
        rw[if_pos (by omega)]
        obtain⟨u,hu,hp⟩:=ae' _ x hj
        refine⟨u,?_,hp.mono xe.S xe.cell xe.mp⟩
        rw[show i*jC+j-(i*jC+off)=j-off by omega];exact hu
       ·rw[if_neg hc] at hj
        rw[if_neg (by omega)]
        obtain⟨u,hu,hp⟩:=ia i j r x Ls hj
        exact⟨u,hu,hp.mono xe.S xe.cell xe.mp⟩
      ·rename_i MU
       have vS:j<jC:=by rw[<- Ih i' r' BC];exact (an2.1 hj).1
       have ff:¬ (i*jC+off<=i' * jC+j/\i' * jC+j<i*jC+off+(a.eval xv).cells.size):=by
        rintro ⟨c1,c2⟩
        have:i=i':=by
         rcases aqm i i' with h'|h'|h'
         ·have:(i+1)*jC<=i' * jC:=aoo _ h'
          rw[aoM] at this;omega
         ·exact h'
         ·have:(i' + 1)*jC<=i*jC:=aoo _ h'
          rw[aoM] at this;omega
        exact MU this
       rw[if_neg ff]
       obtain⟨u,hu,hp⟩:=ia i' j r' x BC hj
       exact⟨u,hu,hp.mono xe.S xe.cell xe.mp⟩
   refine⟨undef,lB,w.setRow k (fT C (i*jC+off) (a.eval xv).cells),.inr ⟨?_,rfl⟩,?_⟩
   ·simp[execOp,ho,qh,dm]
   ·rw[zX _ _ _ _ (by rw[hT];simp) (by simp)]
    exact Out.skip (s1:=(s.bI yv).cy b (.lsl g (e.set i (putAt r off (vs.map AV.drop))))) (by show bc G base (s.bI yv).H lB _;rw[hS.1];exact C7) GD (Ia.trans y6 (an4 _)) hd
  ·cases he
end
end
section
section
variable {P:Program}{G:Nat->List AV}{base nt:Nat}{L:List Nat}{gh:Gh}{w w' : World}{a:Act}{s:AS}{H:ai}
theorem JD{sz:Nat}{f:List (List AV)}(h:iB sz f=true){r:List AV}(hr:f[0]?=some r):r.length=sz:=by
 unfold iB at h
 cases f with
 | nil=>simp at hr
 | cons q f=>simp at hr;subst hr;simpa [gI] using h
theorem Ac{sz jC:Nat}{f:List (List AV)}(h:iB sz f=true)(cb:∀ (i:Nat) (r:List AV),f[i]?=some r->r.length=jC)(ff:f≠[]):jC=sz:=by
 cases f with
 | nil=>exact absurd rfl ff
 | cons q f=>rw[<- cb 0 q rfl];exact JD h rfl
theorem B4{S:Nat->Nat->Prop}{V:Value}{f:List (List AV)}{sz:Nat}{tx:TypeId}(h:PR S w V (.slice f false))(hk:(∃ e',P.underlying tx=some (.slice e'))\/P.underlying tx=some .string)(hh:iB sz f=true) :
  ∃ news:List Value,Src P sz tx V f.length news w/\iS S w sz news.toArray f /\
   ((V=.slice none 0 0/\f=[])\/∃ b o cap,V=.slice (some ⟨b,o,none⟩) f.length cap/\f.length<=cap/\∀ j,j<f.length*sz->S b (o+j)/\w.cell? ⟨b,o+j,none⟩=news[j]?):=by
 cases h with
 | dM=>exact⟨[],⟨hk,fun _=>rfl,run_firstCells_none w sz 0 0 0,run_firstCells_none w.drew sz 0 0 0,by simp,fun _ h=>by cases h⟩,⟨by simp,fun i r h=>by simp at h,fun i j r x h=>by simp at h⟩,.inl ⟨rfl,rfl⟩⟩
 | slice b o n cap jC _ fn hn j4 cb dw de =>
  subst hn
  have iF:f≠[]->jC=sz:=fun ff=>Ac hh cb ff
  let news:List Value:=(List.range (f.length*sz)).map fun k=>(w.cell? ⟨b,o+k,none⟩).getD undef
  have hlen:news.length=f.length*sz:=by simp[news]
  have key:∀ k,k<f.length*sz->∃ u,news[k]?=some u/\w.cell? ⟨b,o+k,none⟩=some u/\u.oneCell'=true/\S b (o+k)/\∀ r x,f[k / sz]?=some r->r[k % sz]?=some x->PR S w u x:=by
   intro k hk
   obtain⟨h1,h2,h3⟩:=rA hk
   have ff:f≠[]:=by rintro rfl;simp at h1
   have hr:=an3 h1
   have hlr:f[k / sz].length=sz:=by rw[cb _ _ hr,iF ff]
   have hx:=an3 (show k % sz<f[k / sz].length by omega)
   obtain⟨c1,c2,c3⟩:=dw _ _ _ _ hr hx
   rw[iF ff,apR,h3] at c1 c2
   refine⟨fn (k / sz) (k % sz),?_,c2,c3,c1,fun r x BC oI=>de _ _ _ _ BC oI⟩
   simp only[news,aol,List.getElem?_range hk,aoi,c2,ao3]
  have YV:∀ j u,news[j]?=some u->w.cell? ((⟨b,o,none⟩:Addr).add j)=some u:=by
   intro j u hj
   have bA:j<f.length*sz:=by rw[<- hlen];exact (an2.1 hj).1
   obtain⟨u',h1,h2,_⟩:=key j bA
   rw[h1] at hj;injection hj with hj;subst hj
   rw[addr_add];exact h2
  refine⟨news,⟨hk,fun _=>rfl,run_firstCells_some w sz _ ⟨b,o,none⟩ f.length cap news hlen YV,run_firstCells_some w.drew sz _ ⟨b,o,none⟩ f.length cap news hlen (by simpa using YV),hlen,fun u hu=>?_⟩,⟨by simp[hlen],fun i r hr=>?_,fun i j r x hi hj=>?_⟩,.inr ⟨b,o,cap,rfl,j4,fun j hj=>?_⟩⟩
  ·obtain⟨j,hj⟩:=aoC hu
   have bA:j<f.length*sz:=by rw[<- hlen];exact (an2.1 hj).1
   obtain⟨u',h1,_,h3,_⟩:=key j bA
   rw[h1] at hj;injection hj with hj;subst hj
   exact h3
  ·rw[cb i r hr,iF (by rintro rfl;simp at hr)]
  ·have ff:f≠[]:=by rintro rfl;simp at hi
   have Ul:=(an2.1 hi).1
   have vS:j<sz:=by rw[<- iF ff,<- cb i r hi];exact (an2.1 hj).1
   obtain⟨u,h1,_,_,_,h5⟩:=key (i*sz+j) (tN Ul vS)
   refine⟨u,by simpa using h1,h5 r x ?_ ?_⟩
   ·rw[aqi,Nat.mul_add_div (by omega),Nat.div_eq_of_lt vS];simpa using hi
   ·rw[aqi,Nat.mul_add_mod,Nat.mod_eq_of_lt vS];exact hj
  ·obtain⟨u,h1,h2,_,h4,_⟩:=key j hj
   exact⟨h4,by rw[h2,h1]⟩
theorem XQ{S:Nat->Nat->Prop}{q:ByteArray}{l:List UInt8}(hq:q.data.toList=l){tx:TypeId}(hk:(∃ e',P.underlying tx=some (.slice e'))\/P.underlying tx=some .string) :
  ∃ news:List Value,Src P 1 tx (.string q) l.length news w/\iS S w 1 news.toArray (l.map fun (b:UInt8)=>[AV.int .u8 b.toNat]):=by
 subst hq
 have hl:q.data.toList.length=q.size:=by simp
 refine⟨byteCells q,?_,by simp[byteCells],fun i r hr=>?_,fun i j r x hi hj=>?_⟩
 ·rw[hl]
  exact⟨hk,fun _=>rfl,firstCells_string q w,firstCells_string q w.drew,by rw[byteCells_length,aqp],fun u hu=>by
   obtain⟨_,_,rfl⟩:=aoD.1 hu
   rfl⟩
 ·simp only[aol,anT] at hr
  obtain⟨y,_,rfl⟩:=hr
  rfl
 ·simp only[aol,anT] at hi
  obtain⟨y,hy,rfl⟩:=hi
  cases j with
  | succ j=>simp at hj
  | zero =>
   simp only[aor,anV] at hj
   subst hj
   refine⟨.int .u8 y.toNat,?_,.int _ _⟩
   simp only[byteCells,aow,aol,aqp,aos,hy,aoi]
theorem iS.append{S:Nat->Nat->Prop}{sz:Nat}{A B:List Value}{E F:List (List AV)}(h1:iS S w sz A.toArray E)(h2:iS S w sz B.toArray F):iS S w sz (A++B).toArray (E++F):=by
 have hA:A.length=E.length*sz:=by simpa using h1.1
 have hB:B.length=F.length*sz:=by simpa using h2.1
 refine⟨by simp[hA,hB,aoM],fun i r hi=>?_,fun i j r x hi hj=>?_⟩
 ·rw[apa] at hi
  split at hi
  ·exact h1.2.1 i r hi
  ·exact h2.2.1 _ r hi
 ·rw[apa] at hi
  split at hi
  ·obtain⟨v,hv,hp⟩:=h1.2.2 i j r x hi hj
   have:i*sz+j<A.length:=by have:=(aob.1 hv).1;simpa using this
   refine⟨v,?_,hp⟩
   simp only[aow] at hv ⊢
   rw[aot this];exact hv
  ·rename_i hge
   obtain⟨v,hv,hp⟩:=h2.2.2 _ j r x hi hj
   refine⟨v,?_,hp⟩
   simp only[aow] at hv ⊢
   have e1:i*sz=E.length*sz+(i-E.length)*sz:=by rw[<- aoM];congr 1;omega
   rw[aou (by rw[hA,e1];omega),hA,e1]
   rw[show E.length*sz+(i-E.length)*sz+j-E.length*sz=(i-E.length)*sz+j by omega];exact hv
theorem iS.ajg{S S' : Nat->Nat->Prop}{sz:Nat}{A C' : Array Value}{E:List (List AV)}{b:Nat}{ty:TypeId}{fr:Nat × Nat}(h:iS S w sz A E)(hS:∀ b o,S b o->S' b o)(hc:∀ b o,S b o->w'.cell? ⟨b,o,none⟩=w.cell? ⟨b,o,none⟩)(hm:∀ b E ck,S b 0->w.heap[b]?=some (.map E ck)->w'.heap[b]?=some (.map E ck))
  (hb:w'.heap[b]?=some (.cells C' ty fr)) (hA:∀ j,j<A.size->C'[j]?=A[j]?) (hq:∀ j,j<E.length*sz->S' b j) (cap:Nat) (j4:E.length<=cap):PR S' w' (.slice (some ⟨b,0,none⟩) E.length cap) (.slice E false):=by
 have key:∀ (i j:Nat) (r:List AV) (x:AV),E[i]?=some r->r[j]?=some x->∃ v,A[i*sz+j]?=some v/\PR S w v x/\i*sz+j<A.size/\A.getD (i*sz+j) undef=v:=by
  intro i j r x hi hj
  obtain⟨v,hv,l9⟩:=h.2.2 i j r x hi hj
  have bA:=(aob.1 hv).1
  refine⟨v,hv,l9,bA,?_⟩
  rw[aok bA] at hv
  injection hv with hv
  simp[bA,hv]
 refine .slice b 0 E.length cap sz E (fun i j=>A.getD (i*sz+j) undef) rfl j4 h.2.1 ?_ ?_
 ·intro i j r x hi hj
  obtain⟨v,hv,l9,bA,hg⟩:=key i j r x hi hj
  rw[Nat.zero_add,hg]
  refine⟨hq _ (by rw[<- h.1];exact bA),?_,l9.fR⟩
  rw[cell_of_row w' b _ C' ty fr hb,hA _ bA,hv]
 ·intro i j r x hi hj
  obtain⟨v,hv,l9,bA,hg⟩:=key i j r x hi hj
  rw[hg]
  exact l9.mono hS hc hm
structure wz (P:Program) (t e:TypeId) (sz bytes:Nat):Prop where
 ht:P.underlying t=some (.slice e)
 hi:∃ i z,P.info? e=some i/\i.zero=some z/\i.size=sz/\i.bytes=bytes/\z.cells.size=sz
 pos:0<sz
theorem grow{t tx ty e:TypeId}{sz bytes:Nat}(hT:wz P t e sz bytes){ao:Option Addr}{sLen sCap n:Nat}{olds news:List Value}{x:Value}(hold:(Builtin.firstCells sz sLen (.slice ao sLen sCap)).run P w.drew=.ok olds.toArray w.drew)
  (hol:olds.length=sLen*sz) (hs:Src P sz tx x n news w) (hg:sCap<sLen+n) (h63:sLen+n<=70368744177664) (hby:(sLen+n)*bytes<=70368744177664) :
  ∃ r6 C' ,(Builtin.append_ #[t,tx] ty #[.slice ao sLen sCap,x]).run P w=.ok (.slice (some ⟨w.heap.size,0,none⟩) (sLen+n) r6) (w.drew.alloc (.cells C' e))/\sLen+n<=r6/\C'.size=r6*sz/\∀ j,j<(olds++news).toArray.size->C'[j]?=(olds++news).toArray[j]?:=by
 obtain⟨i,z,hi,hz,rfl,rfl,hzs⟩:=hT.hi
 have h:=run_append_grow_src (P:=P) w t tx ty e i z hT.ht hi hz ao sLen sCap olds hold x n news hs hg (by omega) (growslice_fits hg (by omega))
 have j4:=grownCap_ge w (sLen+n) sCap e
 refine⟨_,_,h,j4,?_,fun j hj=>?_⟩
 ·rw[Array.size_append,size_zeroCells,hzs]
  simp only[apx,aod,hol,hs.newsLen]
  rw[<- aoM,<- aoM]
  congr 1;omega
 ·rw[aqe hj]
theorem room{t tx ty e e2:TypeId}{sz bytes:Nat}(hT:wz P t e sz bytes){b sLen sCap n:Nat}{news:List Value}{x:Value}{C:Array Value}{fr:Nat × Nat}(hs:Src P sz tx x n news w)(hb:w.heap[b]?=some (.cells C e2 fr))(N4:fr.2<=sLen*sz)
  (nA:sLen+n<=sCap) (jA:sLen*sz+news.length<=C.size) :
  (Builtin.append_ #[t,tx] ty #[.slice (some ⟨b,0,none⟩) sLen sCap,x]).run P w=.ok (.slice (some ⟨b,0,none⟩) (sLen+n) sCap) (w.setRow b (fT C (sLen*sz) news.toArray)):=by
 obtain⟨i,z,hi,hz,rfl,rfl,hzs⟩:=hT.hi
 have lA:=run_storeCells_atF P b (sLen*i.size) e2 fr news 0 C w hb (by simpa using N4) (by simpa using jA) hs.one
 simp only[aos] at lA
 rcases hs.kind with ⟨e',hk⟩|hk<;>simp[Builtin.append_,run_underlying hT.ht,run_underlying hk,sizeOf,typeInfo,hi,hs.len,nA,hs.cells,Addr.add_lit,lA,fT]
theorem CR.given(hW:bc G base s.H gh w)(hF:FR L nt gh w a s){v:Value}{e:List (List AV)}{own:Bool}(h:CR gh s.H.length w .ret v (.slice e own))(p:bM)(hp:p≠.outer) :
  ∃ aX,bc G base s.H aX w/\FR L nt aX w a s/\Ext s.H.length gh w aX w/\CR aX s.H.length w p v (.slice e own):=by
 have gm:=fun b hb=>hW.cB (gh:=gh) b hb
 rcases h with hv|⟨e',heq,Ib,b,cap,C,ty,lo,hi,sz,ib,hk,he,hb,hC,hr,hl,hh,hS⟩
 ·exact⟨gh,hW,hF,Ext.refl _ _ _ gm,.inl hv⟩
 ·injection heq with h1 h2
  subst h1 h2
  have bA:b<w.heap.size:=(aob.1 hb).1
  have st:=kP hW bA p s.H.length
  rw[hk] at st
  have hn:gh.κ b≠.none:=by rw[hk];simp
  exact⟨gh.oY b p,Jz hW bA p hn (by rw[hk];simp),hF.grown (H':=s.H) (lo':=s.lo) st (fun i=>⟨by simp,by simp,by simp⟩) (an4 _),uI hW bA hp hn (by rw[hk];simp) _,.inr ⟨e,rfl,Ib,b,cap,C,ty,lo,hi,sz,ib,by simp[Gh.oY],he,hb,hC,hr,hl,hh,hS⟩⟩
theorem IJ{n:Nat}{tx:TypeId}{sz:Nat}{x:Value}{news:List Value}(h:Src P sz tx x n news w):(Builtin.firstCells sz n x).run P w.drew=.ok news.toArray w.drew:=h.cellsD
theorem Iy(hW:bc G base s.H gh w)(hF:FR L nt gh w a s){t tx ty e:TypeId}{sz bytes:Nat}(hT:wz P t e sz bytes){V X:Value}{E F:List (List AV)}{news:List Value}
  (h:CR gh s.H.length w .ret V (.slice E true)) (hs:Src P sz tx X F.length news w) (dH:iS gh.S w sz news.toArray F) (jA:dE sz bytes E F=true) {isB:Bool} (lH:lO isB (E++F)=true) (PL:isB=true->e=jc) (ff:F≠[]) (p:bM) (hp:p≠.outer) :
  ∃ v' aX w',(Builtin.append_ #[t,tx] ty #[V,X]).run P w=.ok v' w'/\bc G base s.H aX w'/\FR L nt aX w' a s/\Ext s.H.length gh w aX w'/\CR aX s.H.length w' p v' (.slice (E++F) true):=by
 simp only[dE,an7,aoU] at jA
 obtain⟨⟨⟨AL,lT⟩,hE⟩,_⟩:=jA
 have hFl:0<F.length:=aqO.2 ff
 have Ib:PR gh.S w V (.slice E false):=by
  rcases h with h|⟨e',heq,Ib,_⟩
  ·exact (VR.dropped h).iU
  ·injection heq with h1;subst h1;exact Ib
 obtain⟨olds,PX,YY,JL⟩:=B4 (P:=P) (tx:=t) (sz:=sz) Ib (.inl ⟨_,hT.ht⟩) hE
 have hol:olds.length=E.length*sz:=PX.newsLen
 have fH:=YY.append dH
 have new:∀ ao cap,V=.slice ao E.length cap->cap<E.length+F.length->∃ v' aX w',(Builtin.append_ #[t,tx] ty #[V,X]).run P w=.ok v' w'/\bc G base s.H aX w'/\FR L nt aX w' a s/\Ext s.H.length gh w aX w'/\CR aX s.H.length w' p v' (.slice (E++F) true):=by
  intro ao cap hV bA
  subst hV
  obtain⟨r6,C',dm,j4,MQ,sj⟩:=grow (P:=P) (ty:=ty) hT (IJ PX) hol hs bA lT AL
  have mI:fI w (w.drew.alloc (.cells C' e)) (.cells C' e):=.drew w _
  have st:=iK hW mI hp (fun o=>o<(E++F).length*sz) s.H.length
  have mg:=hW.alloc mI hp (fun o=>o<(E++F).length*sz) (fun k m hk hc=>by
   rw[cell_of_row _ _ k _ _ _ mI.new,sj k (by rw[fH.1];exact hk)] at hc
   have:=nG fH lH PL hk hc
   subst this
   exact⟨C',(0,0),mI.new⟩)
  have l9:=fH.slice (gh:=gh) rfl mI (p:=p) hW.nT sj (q:=fun o=>o<(E++F).length*sz) (fun j hj=>hj) r6 (by rw[aod];exact j4)
  refine⟨_,_,_,dm,mg,hF.grown (H':=s.H) (lo':=s.lo) st (fun i=>⟨id,id,fun _=>id⟩) (an4 _),mQ hW mI hp _ _,.inr ⟨E++F,rfl,?_,?_⟩⟩
  ·have e1:E.length+F.length=(E++F).length:=by rw[aod]
   rw[e1];exact l9
  ·refine⟨w.heap.size,r6,C',e,0,0,sz,by rw[aod],by simp[Gh.alloc],by simp[ff],mI.new,MQ,fH.2.1,by rw[aod];exact j4,aoW _,?_⟩
   rintro o ho (hs|⟨_,hs⟩)
   ·have:=hW.nT _ _ hs;omega
   ·omega
 rcases h with h|⟨e',heq,_,b,cap,C,me,lo,hi,jC,ib,hk,he,hb,hC,hr,hl,hh,hS⟩
 ·cases h with
  | plain _ _ h=>cases h
  | full ao k _ h =>
   have hk:k=E.length:=by cases h with
    | dM=>rfl
    | slice _ _ _ _ _ _ _ hn=>exact hn.symm
   subst hk
   exact new ao E.length rfl (by omega)
 ·injection heq with h1
  subst h1
  by_cases bA:cap<E.length+F.length
  ·exact new _ cap ib bA
  ·subst ib
   have iF:jC=sz:=Ac hE hr he
   subst iF
   have nA:E.length+F.length<=cap:=by omega
   have jA:E.length*jC+news.length<=C.size:=by rw[hs.newsLen,hC,<- aoM];exact aoo _ nA
   have dm:=room (P:=P) (ty:=ty) hT hs hb hh nA jA
   have lC:E.length*jC+news.toArray.size<=C.size:=by simpa using jA
   have hold:∀ o,gh.S b o->(fT C (E.length*jC) news.toArray)[o]?=C[o]?:=by
    intro o ho
    have:o<E.length*jC:=by
     rcases apL o (E.length*jC) with h|h
     ·exact h
     ·exact absurd ho (hS o h)
    rw[jR lC,if_neg (by omega)]
   have st:=pq hW hb (dS lC) (fun o=>o<(E++F).length*jC) hold p s.H.length
   have hn:gh.κ b≠.none:=by rw[hk];simp
   have hE':=xU hW hb (dS lC) (fun o=>o<(E++F).length*jC) hold hp hn (by rw[hk];simp) s.H.length
   have Uq:∀ j,j<(olds++news).toArray.size->(fT C (E.length*jC) news.toArray)[j]?=(olds++news).toArray[j]?:=by
    intro j hj
    have alS:news.length=F.length*jC:=hs.newsLen
    simp only[apx,aod] at hj
    rw[jR lC]
    simp only[aow,apx]
    rw[apa]
    split
    ·rw[if_neg (by omega),hol]
    ·rename_i nN
     have xy:j<E.length*jC:=by omega
     rw[if_pos (by omega)]
     rcases JL with ⟨_,N1⟩|⟨b2,o2,adT,hV2,_,tz⟩
     ·exact absurd N1 he
     ·injection hV2 with h1 h2 h3
      injection h1 with h1
      injection h1 with h1 h4
      subst h1 h4
      have:=(tz j xy).2
      rw[Nat.zero_add,cell_of_row w b j C me _ hb] at this
      exact this
   have M0:∀ k m,k<(E++F).length*jC->(fT C (E.length*jC) news.toArray)[k]?=some (.int .u8 m)->me=jc:=by
    intro k m hk hc
    rw[Uq k (by rw[fH.1];exact hk)] at hc
    refine nG fH lH (fun hB=>?_) hk hc
    subst hB
    cases E with
    | nil=>exact absurd rfl he
    | cons r0 E0 =>
     have Lr:∃ m0,r0=[.int .u8 m0]:=by
      have:qy (r0 :: E0++F)=true:=lH
      simp only[qy,apm,aoV,an7] at this
      have h1:=this.1
      split at h1
      ·exact⟨_,rfl⟩
      ·cases h1
     obtain⟨m0,rfl⟩:=Lr
     rcases JL with ⟨_,N1⟩|⟨b2,o2,adT,hV2,_,tz⟩
     ·cases N1
     ·injection hV2 with h1 h2 h3
      injection h1 with h1
      injection h1 with h1 h4
      subst h1 h4
      have h5:=hr 0 _ rfl
      simp only[apr] at h5
      obtain⟨v,hv,hp⟩:=YY.2.2 0 0 _ _ rfl rfl
      cases hp
      simp only[aow,aqj,Nat.zero_add] at hv
      have h6:=tz 0 (by simp;omega)
      rw[Nat.zero_add,hv] at h6
      obtain⟨C2,fr2,h7⟩:=hW.bytes _ _ _ h6.1 h6.2
      rw[hb] at h7
      injection h7 with h7
      injection h7
   have mg:=LK hW hb (dS lC) (fun o=>o<(E++F).length*jC) hold M0 p hn (by rw[hk];simp)
   have zY:=st
   rw[hk] at st
   have qk:news.length=F.length*jC:=hs.newsLen
   refine⟨_,_,_,dm,mg,hF.grown (H':=s.H) (lo':=s.lo) st (fun i=>⟨by simp,by simp,by simp⟩) (an4 _),hE',.inr ⟨E++F,rfl,?_,?_⟩⟩
   ·rw[<- aod]
    refine fH.ajg st.S st.cell st.mp (setRow_heap w b C _ me _ hb) (fun j hj=>?_) (fun j hj=>.inr ⟨rfl,hj⟩) cap (by rw[aod];exact nA)
    simp only[apx,aod] at hj
    rw[jR lC]
    simp only[aow,apx]
    rw[apa]
    split
    ·rw[if_neg (by omega),hol]
    ·rename_i nN
     have xy:j<E.length*jC:=by omega
     rw[if_pos (by omega)]
     rcases JL with ⟨_,N1⟩|⟨b2,o2,adT,hV2,_,tz⟩
     ·exact absurd N1 he
     ·injection hV2 with h1 h2 h3
      injection h1 with h1
      injection h1 with h1 h4
      subst h1 h4
      have:=(tz j xy).2
      rw[Nat.zero_add,cell_of_row w b j C me _ hb] at this
      exact this
   ·refine⟨b,cap,_,me,lo,hi,jC,by rw[aod],by simp,by simp[he],setRow_heap w b C _ me _ hb,by rw[dS lC,hC],fH.2.1,by rw[aod];exact nA,?_,?_⟩
    ·rw[aod,aoM];exact apk hh (Nat.le_add_right _ _)
    ·rintro o ho (rO|⟨_,rO⟩)
     ·exact hS o (by rw[aod,aoM] at ho;omega) rO
     ·omega
end
end
section
section
variable {P:Program}{G:Nat->List AV}{base nt:Nat}{L:List Nat}{gh:Gh}{w w' : World}{a:Act}{s:AS}{H:ai}
theorem L7(hW:bc G base s.H gh w)(hF:FR L nt gh w a s){t tx ty e:TypeId}{sz bytes:Nat}(hT:wz P t e sz bytes){t0:Nat}{X:Value}{E F:List (List AV)}{news:List Value}
  (h:qt gh w (.bx t0) (gv a t0) E) (hs:Src P sz tx X F.length news w) (dH:iS gh.S w sz news.toArray F) (jA:dE sz bytes E F=true) (d:Option Nat) :
  ∃ v' aX w',(Builtin.append_ #[t,tx] ty #[gv a t0,X]).run P w=.ok v' w'/\bc G base s.H aX w'/\FR L nt aX w' a (s.cy t0 .any)/\Ext s.H.length gh w aX w'/\qt aX w' (H9 d) v' (E++F):=by
 simp only[dE,an7,aoU] at jA
 obtain⟨⟨⟨AL,lT⟩,hE⟩,hFo⟩:=jA
 have gm:=fun b hb=>hW.cB (gh:=gh) b hb
 have hdo:=ua d
 obtain⟨i,z,hi,_,rfl,_⟩:=hT.hi
 have gT:(gv a t0).oneCell'=true:=by obtain⟨ad,cap,hv,_⟩:=h;rw[hv];rfl
 have aew:∀ {aX:Gh} {w' : World} {n gen:Nat} {T:aU},SR aX n nt w' T gen (gv a) t0 (gv a t0) .any:=fun {_ _ _ _ _}=>(.inl (.plain _ _ (.any _ gT)):CR _ _ _ _ _ _)
 have stay:FR L nt gh w a (s.cy t0 .any):=hF.cy (touch:=fun _=>False) (H':=s.H) (lo':=s.lo) (Step.refl _ _ _ _ gm) (an4 _) (fun i _=>⟨id,id,fun _=>id⟩) (.inr rfl) (fun _=>aew)
 have new:∀ ao cap olds,gv a t0=.slice ao E.length cap->cap<E.length+F.length->Src P i.size t (.slice ao E.length cap) E.length olds w->iS gh.S w i.size olds.toArray E ->
   ∃ v' aX w',(Builtin.append_ #[t,tx] ty #[gv a t0,X]).run P w=.ok v' w'/\bc G base s.H aX w'/\FR L nt aX w' a (s.cy t0 .any)/\Ext s.H.length gh w aX w'/\qt aX w' (H9 d) v' (E++F):=by
  intro ao cap olds hV bA PX YY
  obtain⟨r6,C',dm,j4,MQ,sj⟩:=grow (P:=P) (ty:=ty) hT PX.cellsD PX.newsLen hs bA lT AL
  have fH:=YY.append dH
  have mI:fI w (w.drew.alloc (.cells C' e)) (.cells C' e):=.drew w _
  have st:=iK hW mI hdo (fun _=>False) s.H.length
  have mg:=hW.alloc mI hdo (fun _=>False) (fun _ _ h=>h.elim)
  rw[hV]
  have GC:FR L nt (gh.alloc w.heap.size (H9 d) fun _=>False) (w.drew.alloc (.cells C' e)) a (s.cy t0 .any) :=
   stay.grown (H':=s.H) (lo':=s.lo) st (fun i=>⟨id,id,fun _=>id⟩) (an4 _)
  refine⟨_,_,_,dm,mg,GC,mQ hW mI hdo _ _,some ⟨w.heap.size,0,none⟩,r6,by rw[aod],.inr ⟨w.heap.size,C',e,i.size,?_,rfl,by simp[Gh.alloc],?_,mI.new,MQ,by rw[aod];exact j4,fH.2.1,?_⟩⟩
  ·intro h0
   have:=apK List.length h0
   simp at this
   simp[this] at bA
  ·rintro o (ho|⟨_,ho⟩)
   ·have:=hW.nT _ o ho;omega
   ·exact ho
  ·intro k j r x hk hj
   obtain⟨v,hv,hp⟩:=fH.2.2 k j r x hk hj
   refine⟨v,?_,hp.mono st.S st.cell st.mp⟩
   rw[sj _ (aob.1 hv).1,hv]
 obtain⟨ao,cap,hV,⟨rfl,aeA,GK⟩|⟨b,C,me,jC,ff,ha,hk,hS,hb,hC,hl,hr,ia⟩⟩:=h
 ·subst aeA
  have PX:Src P i.size t (.slice ao 0 0) 0 [] w:=by
   refine⟨.inl ⟨_,hT.ht⟩,fun _=>rfl,?_,?_,by simp,fun _ h=>by cases h⟩
   ·cases ao with
    | none=>exact run_firstCells_none w _ 0 0 0
    | some ad=>exact run_firstCells_some w _ 0 ad 0 0 [] (by simp) (fun j v h=>by simp at h)
   ·cases ao with
    | none=>exact run_firstCells_none w.drew _ 0 0 0
    | some ad=>exact run_firstCells_some w.drew _ 0 ad 0 0 [] (by simp) (fun j v h=>by simp at h)
  cases F with
  | nil =>
   have hn:news=[]:=by have:=hs.newsLen;simp at this;exact this
   subst hn
   refine⟨_,gh,w,?_,hW,stay,Ext.refl _ _ _ gm,ao,0,rfl,.inl ⟨rfl,rfl,GK⟩⟩
   rw[hV]
   exact run_append_nothing w t tx ty e i hT.ht hi ao 0 0 (an4 _) X hs
  | cons f F=>exact new ao 0 [] hV (by simp) PX ⟨by simp,fun i r h=>by simp at h,fun i j r x h=>by simp at h⟩
 ·subst ha
  have iF:jC=i.size:=Ac hE hr ff
  subst iF
  have hEC:E.length*i.size<=C.size:=by rw[hC];exact aoo _ hl
  have uP:(C.toList.take (E.length*i.size)).length=E.length*i.size:=by simp;omega
  have YY:iS gh.S w i.size (C.toList.take (E.length*i.size)).toArray E:=by
   refine⟨by simp;omega,hr,fun k j r x hk hj=>?_⟩
   obtain⟨u,hu,hp⟩:=ia k j r x hk hj
   refine⟨u,?_,hp⟩
   have h1:=(an2.1 hk).1
   have h2:j<i.size:=by rw[<- hr k r hk];exact (an2.1 hj).1
   simp only[aow,aov,if_pos (tN h1 h2)]
   simpa using hu
  have PQ:∀ u∈C.toList.take (E.length*i.size),u.oneCell'=true:=by
   intro u hu
   obtain⟨k,hk⟩:=aoC hu
   have bA:k<E.length*i.size:=by rw[<- uP];exact (an2.1 hk).1
   obtain⟨h1,h2,h3⟩:=rA bA
   have Lr:=an3 h1
   have ze:=an3 (show k % i.size<E[k / i.size].length by rw[hr _ _ Lr];exact h2)
   obtain⟨u',Al,hp⟩:=YY.2.2 _ _ _ _ Lr ze
   rw[h3] at Al
   simp only[aow] at Al
   rw[hk] at Al
   injection Al with Al
   subst Al
   exact hp.fR
  have dw:∀ j u,(C.toList.take (E.length*i.size))[j]?=some u->w.cell? ((⟨b,0,none⟩:Addr).add j)=some u:=by
   intro j u hj
   rw[addr_add,Nat.zero_add,cell_of_row w b j C me _ hb]
   rw[aov] at hj
   split at hj
   ·simpa using hj
   ·cases hj
  have PX:Src P i.size t (.slice (some ⟨b,0,none⟩) E.length cap) E.length (C.toList.take (E.length*i.size)) w:=.ofSlice w hT.ht ⟨b,0,none⟩ E.length cap _ uP dw PQ
  by_cases bA:cap<E.length+F.length
  ·exact new _ cap _ hV bA PX YY
  ·have nA:E.length+F.length<=cap:=by omega
   have jA:E.length*i.size+news.length<=C.size:=by rw[hs.newsLen,hC,<- aoM];exact aoo _ nA
   have dm:=room (P:=P) (ty:=ty) hT hs hb (aoW _) nA jA
   have lC:E.length*i.size+news.toArray.size<=C.size:=by simpa using jA
   have nN:∀ o,gh.S b o->(fT C (E.length*i.size) news.toArray)[o]?=C[o]?:=fun o ho=>(hS o ho).elim
   have st:=pq hW hb (dS lC) (fun _=>False) nN (H9 d) s.H.length
   have hn:gh.κ b≠.none:=by rw[hk];simp
   have hE':=xU hW hb (dS lC) (fun _=>False) nN hdo hn (by rw[hk];simp) s.H.length
   have mg:=LK hW hb (dS lC) (fun _=>False) nN (fun _ _ h=>h.elim) (H9 d) hn (by rw[hk];simp)
   rw[hk] at st
   have GC:=hF.cy (t:=t0) (X:=.any) (H':=s.H) (lo':=s.lo) st (an4 _) (fun i hi=>⟨by simpa using hi,by simp,by simp⟩) (.inr rfl) (fun _=>aew)
   rw[hV]
   have fH:=YY.append dH
   refine⟨_,_,_,dm,mg,GC,hE',some ⟨b,0,none⟩,cap,by rw[aod],.inr ⟨b,_,me,i.size,by simp[ff],rfl,by simp,?_,setRow_heap w b C _ me _ hb,by rw[dS lC,hC],by rw[aod];exact nA,fH.2.1,?_⟩⟩
   ·rintro o (ho|⟨_,ho⟩)
    ·exact hS o ho
    ·exact ho
   ·intro k j r x qj hj
    obtain⟨v,hv,hp⟩:=fH.2.2 k j r x qj hj
    refine⟨v,?_,hp.mono st.S st.cell st.mp⟩
    rw[jR lC]
    simp only[aow,apx] at hv ⊢
    rw[apa,uP] at hv
    have qk:news.length=F.length*i.size:=hs.newsLen
    split at hv
    ·rename_i h1
     rw[if_neg (by omega)]
     rw[aov,if_pos h1] at hv
     simpa using hv
    ·rename_i h1
     have h2:=(an2.1 hv).1
     rw[if_pos (by omega)]
     exact hv
theorem rY(hW:bc G base s.H gh w)(hF:FR L nt gh w a s){x:Operand}{y:aC}(hc:au nt x=some y){sz:Nat}{f:List (List AV)}(he:bu sz (y.eval G s.T)=some f)(hh:iB sz f=true){tx:TypeId}
  (hk:(∃ e',P.underlying tx=some (.slice e'))\/P.underlying tx=some .string):∃ news,Src P sz tx (a.eval x) f.length news w/\iS gh.S w sz news.toArray f:=by
 generalize hY:y.eval G s.T=Y at he
 cases Y<;>simp only[bu] at he<;>try (cases he;done)
 ·rename_i l
  obtain⟨h0,h1⟩:=ag he
  have h0:sz=1:=by simpa [gI] using h0
  subst h0
  injection h1 with h1
  subst h1
  obtain⟨q,hq,hl⟩:=(cY hW hF hc hY rfl).jv
  rw[hq,aoI]
  exact XQ hl hk
 ·rename_i el own
  injection he with he
  subst he
  obtain⟨news,h1,h2,_⟩:=B4 (P:=P) (tx:=tx) (sz:=sz) (cY hW hF hc hY rfl).iU hk hh
  exact⟨news,h1,h2⟩
theorem gW{o:Oper}{c:Call}{x y:Operand}{t u:TypeId}(ho:o.op=.call c)(iT:c.callee=.builtin .append)(fP:c.args.toList=[x,y])(kV:c.argTypes.toList=[t,u]){v:Value}
  (dm:(Builtin.append_ #[t,u] o.type #[a.eval x,a.eval y]).run P w=.ok v w'):(execOp a.eval o).run P w=.ok (.value v) w':=by
 have e1:c.args=#[x,y]:=by apply ap9;simpa using fP
 have e2:c.argTypes=#[t,u]:=by apply ap9;simpa using kV
 unfold execOp
 simp only[ho,resolve,iT,e1,e2,invoke,builtin,Sem.run_bind,Sem.run_pure,Result.andThen_ok,aqb,aoc,aof,dm]
theorem HR{S:Nat->Nat->Prop}{V:Value}{e:List (List AV)}(h:PR S w V (.slice e false)):∃ ao cap,V=.slice ao e.length cap/\e.length<=cap:=by
 cases h with
 | dM=>exact⟨none,0,rfl,an4 _⟩
 | slice b o n cap sz _ _ hn j4=>subst hn;exact⟨_,cap,rfl,j4⟩
theorem MB(hW:bc G base s.H gh w)(hF:FR L nt gh w a s){o:Oper}{c:Call}{x y:Operand}{t u e:TypeId}{sz bytes:Nat}{yx yy:aC}{isB wr:Bool}{z:AV}{s' : Option AS}
  (ho:o.op=.call c) (iT:c.callee=.builtin .append) (fP:c.args.toList=[x,y]) (kV:c.argTypes.toList=[t,u]) (hT:wz P t e sz bytes) (PL:isB=true->e=jc) (hu:(∃ e',P.underlying u=some (.slice e'))\/P.underlying u=some .string)
  (fq:au nt x=some yx) (za:au nt y=some yy) (he:bf G s isB wr sz bytes yx yy=some (z,s')) (hd:∀ k,o.dst=some k->k<nt) (hL:wr=true->∀ k,o.dst=some k->k∈L) :
  ∃ v' aX w',sQ P a o w v' w'/\Out G base nt L gh w a s o.dst z (s'.getD s) v' aX w':=by
 have gm:=fun b hb=>hW.cB (gh:=gh) b hb
 have core:∀ (s1:AS) (lB:Gh) (el:List (List AV)) (own:Bool),s1.H=s.H->bc G base s1.H lB w->FR L nt lB w a s1->Ext s.H.length gh w lB w->(∀ b o,gh.S b o->lB.S b o) ->
   CR lB s1.H.length w .ret (a.eval x) (.slice el own)->aF isB sz bytes (.slice el own) (yy.eval G s.T)=some z ->
   ∃ v' aX w',sQ P a o w v' w'/\Out G base nt L gh w a s o.dst z s1 v' aX w':=by
  intro s1 lB el own hH qg xw Ia aeY l8 xx
  simp only[aF,anU] at xx
  obtain⟨f,hf,xx⟩:=xx
  cases f with
  | nil =>
   simp only[anV] at xx
   subst xx
   obtain⟨news,hs,hr⟩:=rY (P:=P) hW hF za hf rfl hu
   have hn:news=[]:=by have:=hs.newsLen;simp at this;exact this
   subst hn
   obtain⟨Jy,C7,GD,y6,Pv⟩:=l8.given qg xw (Oa o.dst) (ot _)
   obtain⟨ao,cap,hV,hle⟩:=HR (w:=w) (l8.dropped).iU
   obtain⟨i,z,hi,_,rfl,_⟩:=hT.hi
   refine⟨a.eval x,Jy,w,.inl (gW ho iT fP kV ?_),Out.of (s1:=s1) (gen':=s1.gen) C7 GD (Ia.trans y6 (by rw[hH];exact an4 _)) (an4 _) hd (.inl rfl) (fun k hk=>?_)⟩
   ·rw[hV]
    exact run_append_nothing w t u o.type e i hT.ht hi ao _ cap hle _ hs
   ·rw[hk] at Pv
    exact Pv
  | cons f0 fr =>
   obtain⟨h0,xx⟩:=ag xx
   injection xx with xx
   subst xx
   simp only[an7] at h0
   obtain⟨⟨rfl,jA⟩,lH⟩:=h0
   have hh:iB sz (f0 :: fr)=true:=by simp only[dE,an7] at jA;exact jA.2
   obtain⟨news,hs,hr⟩:=rY (P:=P) hW hF za hf hh hu
   have hr1:iS lB.S w sz news.toArray (f0 :: fr):=⟨hr.1,hr.2.1,fun i j r x hi hj=>by
    obtain⟨v,hv,hp⟩:=hr.2.2 i j r x hi hj
    exact⟨v,hv,hp.mono aeY (fun _ _ _=>rfl) (fun _ _ _ _ h=>h)⟩⟩
   obtain⟨v',Jy,w2,dm,C7,GD,y6,Pv⟩:=Iy (P:=P) (ty:=o.type) qg xw hT l8 hs hr1 jA lH PL (by simp) (Oa o.dst) (ot _)
   refine⟨v',Jy,w2,.inl (gW ho iT fP kV dm),Out.of (s1:=s1) (gen':=s1.gen) C7 GD (Ia.trans y6 (by rw[hH];exact an4 _)) (an4 _) hd (.inl rfl) (fun k hk=>?_)⟩
   rw[hk] at Pv
   exact Pv
 have S7:∀ (t0:Nat) (el f:List (List AV)),x=.tmp t0->t0<nt->qt gh w (.bx t0) (gv a t0) el->bu sz (yy.eval G s.T)=some f->dE sz bytes el f=true->wr=true ->
   ∃ v' aX w',sQ P a o w v' w'/\Out G base nt L gh w a s o.dst (.lsl s.gen (el++f)) { s.cy t0 .any with gen:=s.gen+1 } v' aX w':=by
  intro t0 el f hx ht cb hf jA D8
  have hh:iB sz f=true:=by simp only[dE,an7] at jA;exact jA.2
  obtain⟨news,hs,hr⟩:=rY (P:=P) hW hF za hf hh hu
  obtain⟨v',Jy,w2,dm,C7,GD,y6,Y0⟩:=L7 (P:=P) (ty:=o.type) hW hF hT cb hs hr jA o.dst
  have hxe:a.eval x=gv a t0:=by rw[hx];rfl
  refine⟨v',Jy,w2,.inl (gW ho iT fP kV (by rw[hxe];exact dm)),Out.of (s1:=s.cy t0 .any) (gen':=s.gen+1) C7 GD y6 (ao6 _) hd (.inr ⟨⟨s.gen,an4 _,rfl⟩,hL D8⟩) (fun k hk=>⟨aqc _,?_⟩)⟩
  rw[hk] at Y0
  exact Y0
 cases yx with
 | tmp t0 =>
  obtain⟨rfl,ht⟩:=jD fq
  simp only[bf] at he
  split at he
  ·rename_i g el Px
   simp only[anU] at he
   obtain⟨f,hf,he⟩:=he
   obtain⟨h0,he⟩:=ag he
   simp only[anV,anY] at he
   obtain⟨rfl,rfl⟩:=he
   simp only[an7] at h0
   exact S7 t0 el f rfl ht (nH hF ht Px) hf h0.2 h0.1
  ·rename_i el own Px
   cases D8:wr with
   | true =>
    rw[D8] at he
    simp only[cond_true,anU] at he
    obtain⟨f,hf,he⟩:=he
    obtain⟨h0,he⟩:=ag he
    simp only[anV,anY] at he
    obtain⟨rfl,rfl⟩:=he
    simp only[an7,aqa] at h0
    obtain⟨⟨rfl,rfl⟩,jA⟩:=h0
    have l8:=Ci hF ht Px
    have cb:qt gh w (.bx t0) (gv a t0) []:=by
     rcases l8 with h|⟨e',heq,_,b,cap,C,ty,lo,hi,jC,ib,hk,ff,_⟩
     ·change VR gh s.H.length w (gv a t0) _ at h
      generalize gv a t0=V at h
      cases h with
      | plain _ _ h=>cases h
      | full ao k _ h hz =>
       cases h with
       | dM=>exact⟨none,0,rfl,.inl ⟨rfl,rfl,fun ad h=>by cases h⟩⟩
       | slice b o _ _ jC _ _ hn =>
        simp at hn
        subst hn
        exact⟨_,0,rfl,.inl ⟨rfl,rfl,fun ad h=>⟨by injection h with h;subst h;rfl,trivial⟩⟩⟩
     ·injection heq with h1;subst h1;exact absurd rfl ff
    exact S7 t0 [] f rfl ht cb hf jA D8
   | false =>
    rw[D8] at he
    simp only[anZ,anT,anY] at he
    obtain⟨z',xx,rfl,rfl⟩:=he
    obtain⟨lB,qg,xw,Ia,Tn,l8⟩:=vd hW hF ht Px .ret (by simp)
    exact core (s.cy t0 (.slice el false)) lB el own rfl qg xw Ia Tn.S l8 xx
  ·rename_i Px
   cases D8:wr with
   | true =>
    rw[D8] at he
    simp only[cond_true,anU] at he
    obtain⟨f,hf,he⟩:=he
    obtain⟨h0,he⟩:=ag he
    simp only[anV,anY] at he
    obtain⟨rfl,rfl⟩:=he
    have hv:=(cY hW hF fq (show (aC.tmp t0).eval G s.T=.af from Px) rfl).lJ
    exact S7 t0 [] f rfl ht ⟨none,0,hv,.inl ⟨rfl,rfl,fun ad h=>by cases h⟩⟩ hf h0 D8
   | false =>
    rw[D8] at he
    simp only[anZ,anT,anY] at he
    obtain⟨z',xx,rfl,rfl⟩:=he
    have hv:=(cY hW hF fq (show (aC.tmp t0).eval G s.T=.af from Px) rfl).lJ
    exact core s gh [] true rfl hW hF (Ext.refl _ _ _ gm) (fun _ _ h=>h) (.inl (by rw[hv];exact .full none 0 [] .dM trivial)) xx
  ·cases he
 | bC v =>
  simp only[bf] at he
  cases D8:wr with
  | true=>rw[D8] at he;cases he
  | false =>
   rw[D8] at he
   simp only[anZ,anT,anY] at he
   obtain⟨z',xx,rfl,rfl⟩:=he
   simp only[aC.eval] at xx
   cases v<;>simp only[aF] at xx<;>try (cases xx;done)
   rename_i el own
   have hv:VR gh s.H.length w (a.eval x) (.slice el own):=by
    cases x with
    | tmp k =>
     simp only[au] at fq
     rcases ao4 (Nat.blt k nt) with hb|hb<;>rw[hb] at fq<;>simp at fq
    | const u =>
     simp only[au,anT] at fq
     obtain⟨zz,hz,h⟩:=fq
     injection h with h
     subst h
     exact jG hz
    | global g=>simp[au] at fq
    | func f=>simp[au] at fq
   exact core s gh el own rfl hW hF (Ext.refl _ _ _ gm) (fun _ _ h=>h) (.inl hv) xx
 | aZ g =>
  simp only[bf] at he
  cases D8:wr with
  | true=>rw[D8] at he;cases he
  | false =>
   rw[D8] at he
   simp[aC.eval,aF] at he
 | fn f =>
  simp only[bf] at he
  cases D8:wr with
  | true=>rw[D8] at he;cases he
  | false =>
   rw[D8] at he
   simp[aC.eval,aF] at he
end
end
section
def clean(gh:Gh):Prop:=∀ b,gh.κ b=.none\/gh.κ b=.outer\/(∃ l,gh.κ b=.hb l)\/(∃ l j,gh.κ b=.hs l j)\/∃ j,gh.κ b=.par j
def iH(p:bM):Prop:=(∃ l,p=.hb l)\/(∃ l j,p=.hs l j)\/∃ j,p=.par j
def oE(H:ai):Option gS->ai
 | none=>H
 | some c=>c.heap
structure mz (G:Nat->List AV) (base:Nat) (H:ai) (gh:Gh) (w:World) (r:AV) (c:Option gS) (v:Value) (aX:Gh) (w' : World):Prop where
 len:H.length<=(oE H c).length
 W:bc G base (oE H c) aX w'
 st:Step iH H.length gh w aX w'
 out:∀ b,aX.κ b=.outer->gh.κ b=.outer
 val:CR aX (oE H c).length w' .ret v r
def kI(H:ai)(c:Option gS):Prop:=H.length<=(oE H c).length/\∀ c',c=some c'->c'.lo<=H.length/\∀ l,l<c'.lo->c'.heap[l]?=H[l]?
def fD(P:Program)(G:Nat->List AV)(cf:dK):Prop :=
 ∀ f args H r c,cf f args H=some (r,c)->(∃ fn,P.funcs[f]?=some fn/\fn.body.isSome=true/\fn.name≠ "runtime.NumGoroutine")/\kI H c /\
  ∀ (base:Nat) (gh:Gh) (w:World) (vs:Array Value),bc G base H gh w->clean gh->vs.size=args.length->(∀ (j:Nat) (v:Value) (x:AV),vs[j]?=some v->args[j]?=some x->CR gh H.length w (.par j) v x) ->
   Calls P f vs w fun e w'=>∃ v aX,e=.returned v/\mz G base H gh w r c v aX w'
section
variable {P:Program}{G:Nat->List AV}{base nt:Nat}{L:List Nat}{gh:Gh}{w w' : World}{a:Act}{s:AS}{H:ai}
def fQ:bM->Bool
 | .bx _|.sl _|.sc ..|.ret=>true
 | _=>false
def Gh.tA(gh:Gh):Gh:={ gh with κ:=fun b=>bif fQ (gh.κ b) then .outer else gh.κ b }
theorem JG(gh:Gh):clean gh.tA:=by
 intro b
 simp only[Gh.tA]
 cases h:gh.κ b<;>simp[fQ]
theorem Bv(hW:bc G base H gh w)(n:Nat):Step (fun p=>fQ p=true) n gh w gh.tA w:=by
 refine⟨fun _ _ h=>h,fun _ _ _=>rfl,an4 _,rfl,rfl,rfl,fun b hb hn=>⟨.inl rfl,?_,fun _ h=>h⟩,fun b hb=>?_,fun _ _=>rfl,fun _ _ _ h=>h,fun _ _ _ _ h=>h⟩
 ·simp only[Gh.tA]
  cases h:fQ (gh.κ b)
  ·rfl
  ·exact absurd h hn
 ·simp only[Gh.tA,hW.fresh b hb]
  simp[fQ]
theorem aaN(hW:bc G base H gh w):bc G base H gh.tA w:=by
 refine hW.step (Bv hW H.length) (fun l=>⟨by simp[fQ],by simp[fQ]⟩) hW.nT (fun b hb=>hW.pR b fun h=>hb ?_) (fun _ _ _ h=>.inl h)
 simp[Gh.tA,h,fQ]
def Gh.back(gh aX:Gh):Gh:={ aX with κ:=fun b=>bif fQ (gh.κ b) then gh.κ b else aX.κ b }
theorem OD(hW:bc G base H gh w){r:AV}{c:Option gS}{v:Value}{aX:Gh}(h:mz G base H gh.tA w r c v aX w') :
  bc G base (oE H c) (gh.back aX) w'/\Step iH H.length gh w (gh.back aX) w'/\Ext H.length gh w (gh.back aX) w'/\CR (gh.back aX) (oE H c).length w' .ret v r:=by
 have aim:∀ b,fQ (gh.κ b)=true->aX.κ b=.outer:=by
  intro b hb
  have bA:b<w.heap.size:=(hW.pR b (by intro h0;rw[h0] at hb;cases hb)).2
  have:=(h.st.Ap b bA (by simp[Gh.tA,hb,iH])).2.1
  rw[this]
  simp[Gh.tA,hb]
 have agn:Step (fun p=>p=.outer) (oE H c).length aX w' (gh.back aX) w':=by
  refine⟨fun _ _ h=>h,fun _ _ _=>rfl,an4 _,rfl,rfl,rfl,fun b hb hn=>⟨.inl rfl,?_,fun _ h=>h⟩,fun b hb=>?_,fun _ _=>rfl,fun _ _ _ h=>h,fun _ _ _ _ h=>h⟩
  ·simp only[Gh.back]
   cases hs:fQ (gh.κ b)
   ·rfl
   ·exact absurd (aim b hs) hn
  ·simp only[Gh.back]
   have gO:w.heap.size<=b:=apk h.st.size hb
   rw[hW.fresh b gO]
   simp only[fQ,anZ]
   exact h.st.fresh b gO
 have hlen:=h.len
 have lA:Step iH H.length gh w (gh.back aX) w':=by
  refine⟨h.st.S,h.st.cell,h.st.size,h.st.os,h.st.tape,h.st.output,fun b hb hn=>?_,fun b hb=>?_,h.st.ρ,h.st.len,h.st.mp⟩
  ·cases hs:fQ (gh.κ b) with
   | true =>
    have:=h.st.Ap b hb (by simp[Gh.tA,hs,iH])
    exact⟨this.1,by simp[Gh.back,hs],this.2.2⟩
   | false =>
    have e1:gh.tA.κ b=gh.κ b:=by simp[Gh.tA,hs]
    have:=h.st.Ap b hb (by rw[e1];exact hn)
    exact⟨this.1,by simp only[Gh.back,hs,anZ];rw[this.2.1,e1],this.2.2⟩
  ·simp only[Gh.back]
   rw[hW.fresh b hb]
   simp only[fQ,anZ]
   exact h.st.fresh b hb
 refine⟨h.W.step agn (fun l=>⟨by simp,by simp⟩) h.W.nT (fun b hb=>?_) (fun _ _ _ h=>.inl h),lA,⟨lA.mono (fun p hp=>?_),fun b hb=>?_⟩,h.val.mono agn (an4 _) (by simp)⟩
 ·simp only[Gh.back] at hb
  cases hs:fQ (gh.κ b) with
  | true =>
   have:=hW.pR b (by intro h0;rw[h0] at hs;cases hs)
   have:=h.st.size
   omega
  | false =>
   rw[hs] at hb
   exact h.W.pR b hb
 ·rcases hp with ⟨l,rfl⟩|⟨l,j,rfl⟩|⟨j,rfl⟩<;>simp[pv]
 ·simp only[Gh.back] at hb
  cases hs:fQ (gh.κ b) with
  | true =>
   rw[hs] at hb
   simp only[cond_true] at hb
   rw[hb] at hs
   cases hs
  | false =>
   rw[hs] at hb
   have:=h.out b hb
   simpa [Gh.tA,hs] using this
theorem CR.aaw(hW:bc G base s.H gh w)(hF:FR L nt gh w a s){v:Value}{x:AV}(h:CR gh s.H.length w .ret v x)(p:bM)(hp:p≠.outer) :
  ∃ aX,bc G base s.H aX w/\FR L nt aX w a s/\Ext s.H.length gh w aX w/\CR aX s.H.length w p v x:=by
 rcases h with h|⟨e,rfl,h⟩
 ·exact⟨gh,hW,hF,Ext.refl _ _ _ (fun b hb=>hW.cB b hb),.inl h⟩
 ·exact CR.given hW hF (.inr ⟨e,rfl,h⟩) p hp
theorem kC{n:Nat}{v:Value}{x:AV}(h:VR gh n w v x.drop):VR gh n w v x.bU:=by
 cases x<;>first|exact h|skip
 rename_i cs
 exact VR.yF (h:VR gh n w v (.agg cs))
theorem Mb{cf:dK}(jK:fD P G cf)(hW:bc G base s.H gh w)(hF:FR L nt gh w a s){o:Oper}{f:FuncId}{vs:Array Value}{args:List AV}{r:AV}{ch:Option gS}
  (he:cf f args s.H=some (r,ch)) (tX:vs.size=args.length) (de:∀ (j:Nat) (v:Value) (x:AV),vs[j]?=some v->args[j]?=some x->CR gh s.H.length w (.par j) v x)
  (dm:(∃ fn,P.funcs[f]?=some fn/\fn.body.isSome=true/\fn.name≠ "runtime.NumGoroutine")->(execOp a.eval o).run P w=.ok (.enter f vs) w) (hd:∀ k,o.dst=some k->k<nt) (K:Act->World->Prop) (Q:Exit->Act->World->Prop)
  (hK:∀ v' aX w',Out G base nt L gh w a s o.dst r ((ch.map s.gL).getD s) v' aX w'->K (a.put o.dst v') w'):o.wp P a w K Q:=by
 obtain⟨Ai,_,wT⟩:=jK f _ _ _ _ he
 have lA:=Bv hW s.H.length
 have hC:=wT base gh.tA w vs (aaN hW) (JG gh) tX (fun j v x hv hx=>(de j v x hv hx).mono lA (an4 _) (by simp[fQ]))
 unfold Oper.wp
 rw[dm Ai,Oper.upon_enter]
 refine hC.mono ?_
 rintro e w2 ⟨v,aX,rfl,hR⟩
 obtain⟨C7,afc,y6,Uu⟩:=OD hW hR
 have YR:=hR.len
 have key:∀ s1:AS,s1.H=oE s.H ch->FR L nt (gh.back aX) w2 a s1->∃ gh3,Out G base nt L gh w a s o.dst r s1 v gh3 w2:=by
  intro s1 AQ xw
  obtain⟨gh3,hW3,hF3,hE3,hv3⟩:=CR.aaw (by rw[AQ];exact C7) xw (by rw[AQ];exact Uu) (Oa o.dst) (ot _)
  refine⟨gh3,Out.of (s1:=s1) (gen':=s1.gen) hW3 hF3 (y6.trans hE3 (by rw[AQ];exact YR)) (an4 _) hd (.inl (kq hv3.aH)) (fun k hk=>?_)⟩
  rw[hk] at hv3
  exact nI hv3.aH hv3
 cases ch with
 | none =>
  obtain⟨gh3,hO⟩:=key s rfl (hF.grown (H':=s.H) (lo':=s.lo) afc (fun i=>⟨by simp[iH],by simp[iH],by simp[iH]⟩) (an4 _))
  exact hK v gh3 w2 hO
 | some c' =>
  obtain⟨gh3,hO⟩:=key (s.gL c') rfl (hF.grown afc (fun i=>⟨by simp[iH],by simp[iH],by simp[iH]⟩) YR)
  exact hK v gh3 w2 hO
theorem TN{cf:dK}(jK:fD P G cf)(hW:bc G base s.H gh w)(hF:FR L nt gh w a s){o:Oper}{c:Call}{fx:Operand}{yf:aC}{ys:List aC}{f:FuncId}{fs cs:List AV}{r:AV}{ch:Option gS}
  (ho:o.op=.call c) (iT:c.callee=.value fx) (fq:au nt fx=some yf) (za:jE nt c.args.toList=some ys) (aaM:yf.eval G s.T=.func (.func f) fs cs) (N4:(ys.map fun y=>y.addr G s.T).all aH=true)
  (he:cf f (fs++ys.map (fun y=>(y.addr G s.T).bU)++cs) s.H=some (r,ch)) (hd:∀ k,o.dst=some k->k<nt) (K:Act->World->Prop) (Q:Exit->Act->World->Prop)
  (hK:∀ v' aX w',Out G base nt L gh w a s o.dst r ((ch.map s.gL).getD s) v' aX w'->K (a.put o.dst v') w'):o.wp P a w K Q:=by
 have hfv:=cY hW hF fq aaM rfl
 obtain⟨us,ts,hfe,C8,j5,h1,h2⟩:=hfv.ra
 have fP:=Cj hW hF za N4
 have hlen:=(kZ za).1
 let vs:Array Value:=us++c.args.map a.eval++ts
 have tX:vs.size=(fs++ys.map (fun y=>(y.addr G s.T).bU)++cs).length:=by
  simp[vs,C8,j5] at hlen ⊢
  omega
 have de:∀ (j:Nat) (v:Value) (x:AV),vs[j]?=some v->(fs++ys.map (fun y=>(y.addr G s.T).bU)++cs)[j]?=some x->VR gh s.H.length w v x:=by
  intro j v x hv hx
  have GF:(c.args.map a.eval).size=ys.length:=by simpa using hlen
  simp only[vs,Array.getElem?_append,Array.size_append] at hv
  simp only[apa,aod,aoI] at hx
  rw[C8,GF] at hv
  split at hv
  ·rename_i c1
   rw[if_pos c1] at hx
   split at hv
   ·rename_i c2
    rw[if_pos c2] at hx
    exact h1 j v x hv hx
   ·rename_i c2
    rw[if_neg c2] at hx
    simp only[aol,anT] at hx
    obtain⟨y,hy,rfl⟩:=hx
    refine kC (fP (j-fs.length) v _ ?_ ?_)
    ·rw[<- aqr,aoL];exact hv
    ·simp only[aol,hy,aoi]
  ·rename_i c1
   rw[if_neg c1] at hx
   exact h2 _ v x hv hx
 refine Mb jK hW hF he tX (fun j v x hv hx=>.inl (de j v x hv hx)) ?_ hd K Q hK
 rintro ⟨fn,Ai,qS,oh⟩
 unfold execOp
 cases hb:fn.body with
 | none=>rw[hb] at qS;cases qS
 | some code =>
  simp[ho,resolve,iT,hfe,Deferred.ofValue,invoke,callFunc,Ai,oh,hb,vs]
end
end
section
section
variable {P:Program}{G:Nat->List AV}{base nt:Nat}{L:List Nat}{gh:Gh}{w w' : World}{a:Act}{s:AS}{H:ai}
def Fa(P:Program)(w:World)(d:Nat):Prop :=
 ∀ (t:TypeId) (ks:List CK),mC P d t=some ks->∀ (D o:Nat) (cs:Array Value) (em:Bool),d<=D->o+ks.length<=cs.size->∃ v,(part t cs o).run P w=.ok v w/\(Instr.checkKey em D t v).run P w=.ok () w
theorem ue{t:TypeId}{D:Nat}{v:Value}{em:Bool}(h:P.underlying t=some .bool\/(∃ k,P.underlying t=some (.int k))\/P.underlying t=some .string):(Instr.checkKey em (D+1) t v).run P w=.ok () w:=by
 rcases h with h|⟨k,h⟩|h<;>simp[Instr.checkKey,run_underlying h]
theorem ud{d:Nat}(hd:Fa P w d){D:Nat}(hD:d<=D){cs:Array Value}{em:Bool} : ∀ (fs:List Go.Field) (q:Nat) (ks:List CK),oe (mC P d) fs q=some ks->q+ks.length<=cs.size ->
  Sem.run P (forIn fs PUnit.unit fun (f:Go.Field) (_:PUnit) =>
   if f.name≠ "_" then do
    let v <- part f.type cs f.offset
    Instr.checkKey em D f.type v
    pure (ForInStep.yield PUnit.unit)
   else pure (ForInStep.yield PUnit.unit)) w=.ok PUnit.unit w:=by
 intro fs
 induction fs with
 | nil=>intro q ks h1 h2;rfl
 | cons f fs ih =>
  intro q ks h1 h2
  unfold oe at h1
  obtain⟨h3,h1⟩:=ag h1
  simp only[anU,anT] at h1
  obtain⟨kf,hkf,kr,hkr,rfl⟩:=h1
  simp only[an7,gI,aoq,bne_iff_ne] at h3
  obtain⟨hof,Bz⟩:=h3
  rw[aod] at h2
  obtain⟨v,p1,p2⟩:=hd f.type kf hkf D q cs em hD (by omega)
  have hr:=ih (q+kf.length) kr hkr (by omega)
  rw[List.forIn_cons,if_pos Bz,hof]
  simp only[Sem.run_bind,p1,p2,Result.andThen_ok,Sem.run_pure]
  exact hr
theorem Bf:∀ d,Fa P w d
 | 0=>fun t ks h=>by cases h
 | d+1=>by
  intro t ks h D o cs em hD ia
  have h0:=h
  unfold mC at h
  cases hu:P.underlying t with
  | none=>rw[hu] at h;cases h
  | some dd =>
   rw[hu] at h
   obtain⟨D,rfl⟩:∃ m,D=m+1:=⟨D-1,by omega⟩
   have sc:ks.length=1->lW P t=some false->(dd=.bool\/(∃ k,dd=.int k)\/dd=.string)->∃ v,(part t cs o).run P w=.ok v w/\(Instr.checkKey em (D+1) t v).run P w=.ok () w:=by
    intro h1 h2 h3
    have hg:=h2
    have hv:cs[o]?=some cs[o]:=aok (by omega)
    refine⟨cs[o],by simp[part,iN hg,hv],ue ?_⟩
    rcases h3 with h3|⟨k,h3⟩|h3<;>subst h3
    ·exact .inl hu
    ·exact .inr (.inl ⟨k,hu⟩)
    ·exact .inr (.inr hu)
   cases dd<;>try (cases h;done)
   case bool=>injection h with h;subst h;exact sc rfl (lX hu rfl) (.inl rfl)
   case int kk=>injection h with h;subst h;exact sc rfl (lX hu rfl) (.inr (.inl ⟨kk,rfl⟩))
   case string=>injection h with h;subst h;exact sc rfl (lX hu rfl) (.inr (.inr rfl))
   case struct fs =>
    obtain⟨_,gF,sz,iF,hlen⟩:=p8 h0 hu
    have hg:lW P t=some true:=by unfold lW;rw[hu];rfl
    refine⟨.agg (cs.extract o (o+sz)),by simp[part,iN hg,fy iF],?_⟩
    have:=ud (Bf d) (show d<=D by omega) (cs:=cs.extract o (o+sz)) (em:=em) fs.toList 0 ks gF (by simp;omega)
    unfold Instr.checkKey
    simp only[Sem.run_bind,run_underlying hu,Result.andThen_ok]
    rw[<- Array.forIn_toList,this]
    rfl
theorem rZ{n:Nat}{v:Value}{k:AV}{kc:List AV}(h:VR gh n w v k)(hc:k.cells=some kc):(∃ C,v=.agg C/\k=.agg kc/\Row gh n w C kc)\/(kc=[k]/\v.oneCell'=true):=by
 have hr:=rE h hc
 cases k
 case agg xs =>
  obtain⟨C,rfl,hs,gT,h⟩:=h.ku
  injection hc with hc
  subst hc
  exact .inl ⟨C,rfl,rfl,hs,h⟩
 case any=>cases hc
 case tuple=>cases hc
 case lbox=>cases hc
 case lref=>cases hc
 case lsl=>cases hc
 case lsr=>cases hc
 case eref=>cases hc
 case iter=>cases hc
 all_goals
  injection hc with hc
  subst hc
  exact .inr ⟨rfl,h.fR (by intro cs h;cases h) (by intro cs h;cases h)⟩
theorem vx{n:Nat}{v:Value}{k:AV}(h:VR gh n w v k)(ha:true=k.isAgg):∃ C,v=.agg C:=by
 cases k<;>first|(cases ha;done)|skip
 obtain⟨C,rfl,_⟩:=h.ku
 exact⟨C,rfl⟩
structure Ca (P:Program) (kt:TypeId) (ks:List CK) (ka:Bool):Prop where
 flat:mC P 8 kt=some ks
 agg:lW P kt=some ka
theorem Ca.cases{kt:TypeId}{ks:List CK}{ka:Bool}(h:Ca P kt ks ka):(ka=false/\((P.underlying kt=some .bool/\ks=[.b])\/(∃ k,P.underlying kt=some (.int k)/\ks=[.i])\/(P.underlying kt=some .string/\ks=[.s]))) \/
  (ka=true/\∃ fs,P.underlying kt=some (.struct fs)):=by
 have hf:=h.flat
 have ha:=h.agg
 unfold mC at hf
 unfold lW at ha
 cases hu:P.underlying kt with
 | none=>rw[hu] at hf;cases hf
 | some dd =>
  rw[hu] at hf ha
  cases dd<;>try (cases hf;done)
  case bool=>injection hf with hf;subst hf;simp at ha;exact .inl ⟨ha,.inl ⟨rfl,rfl⟩⟩
  case int k=>injection hf with hf;subst hf;simp at ha;exact .inl ⟨ha,.inr (.inl ⟨k,rfl,rfl⟩)⟩
  case string=>injection hf with hf;subst hf;simp at ha;exact .inl ⟨ha,.inr (.inr ⟨rfl,rfl⟩)⟩
  case struct fs=>simp at ha;exact .inr ⟨ha,fs,rfl⟩
theorem wo{kt:TypeId}{ks:List CK}{ka:Bool}(hK:Ca P kt ks ka){n:Nat}{kv:Value}{k:AV}{kc:List AV}(hk:VR gh n w kv k)(qq:k.cells=some kc)(hl:kc.length=ks.length)(vn:ka=k.isAgg)(em:Bool) :
  (Instr.checkKey em 10000 kt kv).run P w=.ok () w:=by
 rcases hK.cases with ⟨rfl,h⟩|⟨rfl,fs,hu⟩
 ·refine ue ?_
  rcases h with ⟨h,_⟩|⟨k,h,_⟩|⟨h,_⟩
  ·exact .inl h
  ·exact .inr (.inl ⟨k,h⟩)
  ·exact .inr (.inr h)
 ·obtain⟨C,rfl⟩:=vx hk vn
  obtain⟨nP,gF,sz,iF,hlen⟩:=p8 hK.flat hu
  have hC:C.size=kc.length:=by
   rcases rZ hk qq with ⟨C',e,_,hr⟩|⟨_,h1⟩
   ·injection e with e;subst e;exact hr.1
   ·simp[Value.oneCell'] at h1
  have:=ud (Bf (w:=w) (P:=P) 7) (show 7<=9999 by omega) (cs:=C) (em:=em) fs.toList 0 ks gF (by omega)
  unfold Instr.checkKey
  simp only[Sem.run_bind,run_underlying hu,Result.andThen_ok]
  rw[<- Array.forIn_toList,this]
  rfl
def KO(S:Nat->Nat->Prop)(w:World)(kz:Nat)(ka:Bool)(v:Value)(r:List AV):Prop:=∃ f:Nat->Value,v=qs ka kz f/\∀ (j:Nat) (x:AV),r[j]?=some x->j<kz->PR S w (f j) x
theorem pI:∀ {k:List CK} {X Y:List AV} {b:Bool},cG k X Y=some b->k.length<=X.length/\k.length<=Y.length
 | [],X,Y,b,h=>⟨aoW _,aoW _⟩
 | c :: k,X,Y,b,h=>by
  cases c<;>cases X<;>try (cases h;done)
  all_goals (rename_i x X';cases x<;>try (cases h;done))
  all_goals (cases Y<;>try (cases h;done))
  all_goals (rename_i y Y';cases y<;>try (cases h;done))
  ·simp only[cG,anT] at h
   obtain⟨b',hb,_⟩:=h
   have:=pI hb
   simp;omega
  ·simp only[cG] at h
   obtain⟨_,h⟩:=ag h
   simp only[anT] at h
   obtain⟨b',hb,_⟩:=h
   have:=pI hb
   simp;omega
  ·simp only[cG,anT] at h
   obtain⟨b',hb,_⟩:=h
   have:=pI hb
   simp;omega
theorem M'{kt:TypeId}{ks:List CK}{ka:Bool}(hK:Ca P kt ks ka){n:Nat}{kv:Value}{k:AV}{kc:List AV}(hk:VR gh n w kv k)(qq:k.cells=some kc)(hl:kc.length=ks.length)(vn:ka=k.isAgg)
  {v:Value} {r:List AV} (hv:KO gh.S w ks.length ka v r) {b:Bool} (he:cG ks kc r=some b) :
  (ka=true->(Op.equal kt kv v).run P w=.ok b w)/\(ka=false->∀ d,P.underlying kt=some d->Instr.sameNow d kv v=some b):=by
 obtain⟨f,rfl,hf⟩:=hv
 have Ih:=(pI he).2
 rcases hK.cases with ⟨rfl,h⟩|⟨rfl,fs,hu⟩
 ·refine⟨(fun h=>by cases h),fun _ d hd=>?_⟩
  have aaR:kc=[k]:=by
   cases k<;>first|(cases vn;done)|(injection qq with qq;exact qq.symm)|(cases qq;done)
  subst aaR
  have hv0:∀ x,r[0]?=some x->PR gh.S w (f 0) x:=fun x hx=>hf 0 x hx (by rcases h with ⟨_,h⟩|⟨_,_,h⟩|⟨_,h⟩<;>rw[h]<;>exact Nat.one_pos)
  show Instr.sameNow d kv (f 0)=some b
  cases r with
  | nil=>rcases h with ⟨_,h⟩|⟨_,_,h⟩|⟨_,h⟩<;>subst h<;>simp at Ih
  | cons x r =>
   have hx:=hv0 x rfl
   rcases h with ⟨h,rfl⟩|⟨q,h,rfl⟩|⟨h,rfl⟩
   ·rw[h] at hd;injection hd with hd;subst hd
    cases k<;>try (cases he;done)
    cases x<;>try (cases he;done)
    obtain rfl:=hk.jM
    generalize f 0=u at hx
    cases hx
    simp[cG] at he
    simp[Instr.sameNow,he]
   ·rw[h] at hd;injection hd with hd;subst hd
    cases k<;>try (cases he;done)
    cases x<;>try (cases he;done)
    obtain rfl:=hk.ju
    generalize f 0=u at hx
    cases hx
    simp only[cG] at he
    obtain⟨h0,he⟩:=ag he
    simp at he h0
    simp[Instr.sameNow,he,h0]
   ·rw[h] at hd;injection hd with hd;subst hd
    cases k<;>try (cases he;done)
    cases x<;>try (cases he;done)
    obtain⟨p,rfl,rfl⟩:=hk.jv
    generalize f 0=u at hx
    cases hx with
    | str q _ hq =>
     subst hq
     simp[cG] at he
     simp only[Instr.sameNow,anV]
     rw[<- he]
     first|rfl|(show (p.data==q.data)=_;simp)
 ·obtain⟨C,rfl⟩:=vx hk vn
  refine⟨fun _=>?_,fun h=>by cases h⟩
  have hC:Row gh n w C kc:=by
   rcases rZ hk qq with ⟨C',e,_,hr⟩|⟨_,h1⟩
   ·injection e with e;subst e;exact hr
   ·simp[Value.oneCell'] at h1
  have hD:Row gh n w (((List.range ks.length).map f).toArray) (r.take ks.length):=by
   refine⟨by simp;omega,fun j u x hu hx=>?_⟩
   simp only[aow,aol,anT] at hu
   obtain⟨i,hi,rfl⟩:=hu
   obtain⟨bA,xO⟩:=an2.1 hi
   simp at bA xO
   subst xO
   rw[aov,if_pos bA] at hx
   exact .plain _ _ (hf _ x hx bA)
  have D3:cG ks kc (r.take ks.length)=some b:=by
   rw[<- he,<- n9 ks kc r ks.length (an4 _),<- n9 ks kc (r.take ks.length) ks.length (an4 _),List.take_take,Nat.min_self]
  exact tS (vO 7) hK.flat hu (D:=9999) (by omega) (n:=n) hC hD D3
theorem uG{d:TypeDesc}{kv:Value}{ks:List CK}{kc:List AV} : ∀ (l:List MapEntry) (es:List (List AV)) (i0:Nat) (o:Option Nat),l.length=es.length ->
  (∀ (i:Nat) (e:MapEntry) (r:List AV) (b:Bool),l[i]?=some e->es[i]?=some r->cG ks kc r=some b->Instr.sameNow d kv e.key=some b)->fg ks kc es=some o ->
  Instr.findNow d kv l i0=some (o.map fun i=>(i0+i,(l.getD i default).val))
 | [],[],i0,o,_,_,h=>by simp only[fg,anV] at h;subst h;rfl
 | [],_ :: _,_,_,hl,_,_=>by simp at hl
 | _ :: _,[],_,_,hl,_,_=>by simp at hl
 | e :: l,r :: es,i0,o,hl,hq,h=>by
  simp only[fg,anU] at h
  obtain⟨b,hb,h⟩:=h
  have h0:=hq 0 e r b rfl rfl hb
  cases b with
  | true =>
   simp only[cond_true,anV] at h
   subst h
   simp[Instr.findNow,h0]
  | false =>
   simp only[anZ,anT] at h
   obtain⟨o',rN,rfl⟩:=h
   have ih:=uG l es (i0+1) o' (by simpa using hl) (fun i e r b h1 h2 h3=>hq (i+1) e r b (by simpa using h1) (by simpa using h2) h3) rN
   simp only[Instr.findNow,h0,ih,apV]
   cases o' with
   | none=>rfl
   | some i=>simp[apR,aqz 1 i]
theorem qe{kt:TypeId}{kv:Value}{ks:List CK}{kc:List AV} : ∀ (l:List MapEntry) (es:List (List AV)) (i0:Nat) (o:Option Nat),l.length=es.length ->
  (∀ (i:Nat) (e:MapEntry) (r:List AV) (b:Bool),l[i]?=some e->es[i]?=some r->cG ks kc r=some b->(Op.equal kt kv e.key).run P w=.ok b w)->fg ks kc es=some o ->
  (Instr.findAsking kt kv l i0).run P w=.ok (o.map fun i=>(i0+i,(l.getD i default).val)) w
 | [],[],i0,o,_,_,h=>by simp only[fg,anV] at h;subst h;rfl
 | [],_ :: _,_,_,hl,_,_=>by simp at hl
 | _ :: _,[],_,_,hl,_,_=>by simp at hl
 | e :: l,r :: es,i0,o,hl,hq,h=>by
  simp only[fg,anU] at h
  obtain⟨b,hb,h⟩:=h
  have h0:=hq 0 e r b rfl rfl hb
  cases b with
  | true =>
   simp only[cond_true,anV] at h
   subst h
   simp[Instr.findAsking,h0]
  | false =>
   simp only[anZ,anT] at h
   obtain⟨o',rN,rfl⟩:=h
   have ih:=qe l es (i0+1) o' (by simpa using hl) (fun i e r b h1 h2 h3=>hq (i+1) e r b (by simpa using h1) (by simpa using h2) h3) rN
   simp only[Instr.findAsking,Sem.run_bind,h0,Result.andThen_ok,apo,aqd,ih]
   cases o' with
   | none=>rfl
   | some i=>simp[apR,aqz 1 i]
theorem zV{kt:TypeId}{ks:List CK}{ka:Bool}(hK:Ca P kt ks ka){n:Nat}{kv:Value}{k:AV}{kc:List AV}(hk:VR gh n w kv k)(qq:k.cells=some kc)(hl:kc.length=ks.length)(vn:ka=k.isAgg)
  {l:List MapEntry} {es:List (List AV)} (hlen:l.length=es.length) (cb:∀ (i:Nat) (e:MapEntry) (r:List AV),l[i]?=some e->es[i]?=some r->KO gh.S w ks.length ka e.key r) {o:Option Nat} (hf:fg ks kc es=some o) :
  (Instr.findKey kt kv l).run P w=.ok (o.map fun i=>(i,(l.getD i default).val)) w:=by
 have hq:=fun (i:Nat) (e:MapEntry) (r:List AV) (b:Bool) (h1:l[i]?=some e) (h2:es[i]?=some r) (h3:cG ks kc r=some b)=>M' hK hk qq hl vn (cb i e r h1 h2) h3
 rcases hK.cases with ⟨rfl,h⟩|⟨rfl,fs,hu⟩
 ·obtain⟨d,hd⟩:∃ d,P.underlying kt=some d:=by rcases h with ⟨h,_⟩|⟨_,h,_⟩|⟨h,_⟩<;>exact⟨_,h⟩
  have hn:=uG l es 0 o hlen (fun i e r b h1 h2 h3=>(hq i e r b h1 h2 h3).2 rfl d hd) hf
  simp only[Nat.zero_add] at hn
  simp[Instr.findKey,run_underlying hd,hn]
 ·cases l with
  | nil =>
   cases es with
   | cons _ _=>simp at hlen
   | nil =>
    simp only[fg,anV] at hf
    subst hf
    simp[Instr.findKey,run_underlying hu,Instr.findNow]
  | cons e l =>
   have hn:=qe (P:=P) (w:=w) (e :: l) es 0 o hlen (fun i e r b h1 h2 h3=>(hq i e r b h1 h2 h3).1 rfl) hf
   simp only[Nat.zero_add] at hn
   simp[Instr.findKey,run_underlying hu,Instr.findNow,Instr.sameNow,hn]
end
end
section
section
variable {P:Program}{G:Nat->List AV}{base nt:Nat}{L:List Nat}{gh:Gh}{w w' : World}{a:Act}{s:AS}{H:ai}
def tL(w:World)(b:Nat)(E:Array MapEntry)(ck:Nat):World:={ w with heap:=w.heap.setIfInBounds b (Obj.map E ck) }
theorem HM{b:Nat}{E E' : Array MapEntry}{ck ck' : Nat}(hb:w.heap[b]?=some (.map E ck)):(tL w b E' ck').heap[b]?=some (.map E' ck'):=by
 have bA:b<w.heap.size:=(aob.1 hb).1
 simp[tL,bA]
theorem mL{b b' : Nat}{E' : Array MapEntry}{ck' : Nat}(h:b'≠b):(tL w b E' ck').heap[b']?=w.heap[b']?:=by
 simp[tL,apO h]
theorem zW{b:Nat}{E E' : Array MapEntry}{ck ck' : Nat}(hb:w.heap[b]?=some (.map E ck)):(setObj b (.map E' ck')).run P w=.ok () (tL w b E' ck'):=by
 simp[setObj,Sem.run,hb,tL]
theorem Hi(hW:bc G base H gh w){b:Nat}{E E' : Array MapEntry}{ck ck' : Nat}(hb:w.heap[b]?=some (.map E ck))(hS:∀ o,¬ gh.S b o)(n:Nat):Step (fun r=>r=gh.κ b) n gh w gh (tL w b E' ck'):=by
 have ff:∀ b' o,gh.S b' o->b'≠b:=fun b' o h=>by rintro rfl;exact hS o h
 refine⟨fun _ _ h=>h,fun b' o h=>cell_of_heap (mL (ff b' o h)),by simp[tL],rfl,rfl,rfl,fun b' gO hn=>?_,fun b' gO=>?_,fun _ _=>rfl,fun b' ty m hm=>?_,fun b' E1 c1 hs hm=>?_⟩
 ·have AO:b'≠b:=by rintro rfl;exact hn rfl
  exact⟨.inl (mL AO),rfl,fun _ h=>h⟩
 ·have:w.heap.size<=b':=by simpa [tL] using gO
  exact hW.cB b' this
 ·obtain⟨C,fr,h1,h2⟩:=hm
  have AO:b'≠b:=by rintro rfl;rw[hb] at h1;cases h1
  exact⟨C,fr,by rw[mL AO];exact h1,h2⟩
 ·rw[mL (ff b' 0 hs)];exact hm
structure Ij (P:Program) (t kt et:TypeId) (ks:List CK) (ka va:Bool) (vz:Nat) (z:Value) (zero:List AV):Prop where
 ht:P.underlying t=some (.map kt et)
 key:Ca P kt ks ka
 vz1:va=false->vz=1
 hz:∃ i,P.info? et=some i/\i.zero=some z
 cells:ft z.cells.toList=some zero
 agg:Om z=va
 len:zero.length=vz
theorem Ca.kz{kt:TypeId}{ks:List CK}{ka:Bool}(h:Ca P kt ks ka)(hf:ka=false):ks.length=1:=by
 rcases h.cases with ⟨_,⟨_,h⟩|⟨_,_,h⟩|⟨_,h⟩⟩|⟨rfl,_⟩
 ·rw[h];rfl
 ·rw[h];rfl
 ·rw[h];rfl
 ·cases hf
theorem uZ{t:TypeId}{m:List CK × Bool × Bool × List AV}(h:Ng P t=some m):∃ kt et z,Ij P t kt et m.1 m.2.1 m.2.2.1 m.2.2.2.length z m.2.2.2:=by
 unfold Ng at h
 split at h
 ·rename_i kt et hu
  simp only[anU] at h
  obtain⟨ks,gF,ka,vn,i,hi,z,hz,zero,hzc,h⟩:=h
  obtain⟨h0,h⟩:=ag h
  injection h with h
  subst h
  refine⟨kt,et,z,hu,⟨gF,vn⟩,fun hv=>?_,⟨i,hi,hz⟩,hzc,rfl,rfl⟩
  simp only at hv ⊢
  rw[hv] at h0
  simpa [gI] using h0
 ·cases h
theorem Pf(hW:bc G base s.H gh w)(hF:FR L nt gh w a s){o:Oper}{t:TypeId}(ho:o.op=.makeMap t none)(hd:∀ k,o.dst=some k->k<nt)(kz:Nat)(ka va:Bool) :
  ∃ v' aX w',sQ P a o w v' w'/\Out G base nt L gh w a s o.dst (.mref s.H.length) (s.gL ⟨s.H++[.map kz ka va []],s.H.length⟩) v' aX w':=by
 have hp:=fI.alloc w (.map #[] 0)
 have hρ:(gh.bL w.heap.size s.H.length).ρ s.H.length=w.heap.size:=by simp[Gh.bL]
 have hv:VR (gh.bL w.heap.size s.H.length) (s.H++[cJ.map kz ka va []]).length (w.alloc (.map #[] 0)) (.map (some w.heap.size)) (.mref s.H.length):=by
  have:=VR.mref (gh:=gh.bL w.heap.size s.H.length) (w:=w.alloc (.map #[] 0)) (n:=(s.H++[cJ.map kz ka va []]).length) s.H.length (by simp)
  rw[hρ] at this;exact this
 have hM:sP (gh.bL w.heap.size s.H.length) (s.H.length+1) (w.alloc (.map #[] 0)) w.heap.size s.H.length (.map kz ka va []):=by
  refine⟨⟨by simp[Gh.bL,Gh.alloc],?_,#[],0,fun _ _=>undef,hp.new,⟨rfl,rfl,fun i e h=>by simp at h,fun i e h=>by simp at h,fun i j e e' h=>by simp at h,fun i e r h=>by simp at h⟩,fun i j r x h=>by simp at h,fun i j r x h=>by simp at h⟩,rfl⟩
  rintro o (ho|⟨_,ho⟩)
  ·have:=hW.nT _ o ho;omega
  ·exact ho
 refine⟨_,_,_,.inl ?_,hW.zO hp (fun _ _ h=>by cases h) hM,hF.put (gG hW hp) (fun i=>⟨id,id,fun _=>id⟩) (by simp) o.dst hd (.dO hv),jQ hW hp⟩
 simp[execOp,ho,Instr.makeMap,newObj,Sem.run]
theorem RG{n:Nat}{va:Bool}{m:Nat}{g:Nat->Value}{cs:List AV}(hm:cs.length=m)(h1:va=false->m=1)(h:∀ (j:Nat) (x:AV),cs[j]?=some x->VR gh n w (g j) x.drop/\(g j).oneCell'=true) :
  VR gh n w (qs va m g) (cond va (.agg (cs.map AV.drop)) ((cs.headD .undef).drop)):=by
 cases va with
 | true =>
  refine .agg _ _ (by simp[hm]) (fun j v hv=>?_) (fun j v x hv hx=>?_)
  ·simp only[aow,aol,anT] at hv
   obtain⟨i,hi,rfl⟩:=hv
   obtain⟨bA,xO⟩:=an2.1 hi
   simp at bA xO
   subst xO
   exact (h _ _ (an3 (by omega))).2
  ·simp only[aow,aol,anT] at hv hx
   obtain⟨i,hi,rfl⟩:=hv
   obtain⟨bA,xO⟩:=an2.1 hi
   simp at bA xO
   subst xO
   obtain⟨y,hy,rfl⟩:=hx
   exact (h _ y hy).1
 | false =>
  have:=h1 rfl
  cases cs with
  | nil=>simp at hm;omega
  | cons x cs=>exact (h 0 x rfl).1
theorem LV{n:Nat}{t kt et:TypeId}{ks:List CK}{ka va:Bool}{vz:Nat}{z:Value}{zero:List AV}(hT:Ij P t kt et ks ka va vz z zero):VR gh n w z (cond va (.agg (zero.map AV.drop)) ((zero.headD .undef).drop)):=by
 obtain⟨hl,hv⟩:=kg (gh:=gh) (n:=n) (w:=w) hT.cells
 have JB:=hT.agg
 cases z
 case agg C =>
  simp[Om] at JB
  subst JB
  refine .agg C _ (by simpa [Value.cells] using hl) (fun j v tW=>?_) (fun j v x tW hx=>?_)
  ·have bA:=(aob.1 tW).1
   have hz:zero[j]?=some zero[j]:=an3 (by
    have:C.toList.length=zero.length:=by simpa [Value.cells] using hl
    simp at this;omega)
   exact (hv j v _ (by simpa [Value.cells] using tW) hz).2
  ·simp only[aol,anT] at hx
   obtain⟨y,hy,rfl⟩:=hx
   exact (hv j v y (by simpa [Value.cells] using tW) hy).1.dropped
 all_goals
  simp[Om] at JB
  subst JB
  have h1:zero.length=1:=by rw[hT.len];exact hT.vz1 rfl
  obtain⟨x,rfl⟩:=apv.1 h1
  exact (hv 0 _ x rfl rfl).1.dropped
theorem zA{n:Nat}{ok va:Bool}{cs:List AV}{v:Value}(h:VR gh n w v (cond va (.agg (cs.map AV.drop)) ((cs.headD .undef).drop)))(found:Bool) :
  VR gh n w (if ok then .tuple #[v,.bool found] else v) (zy ok va cs found):=by
 unfold zy
 simp only
 cases ok with
 | false=>exact h
 | true =>
  refine .tuple _ _ rfl (fun j u x hu hx=>?_)
  match j with
  | 0=>injection hu with hu;injection hx with hx;subst hu hx;exact h
  | 1=>injection hu with hu;injection hx with hx;subst hu hx;exact .plain _ _ (.bool _)
  | j+2=>simp at hx
structure Rows (gh:Gh) (n:Nat) (w:World) (E:Array MapEntry) (kz:Nat) (ka va:Bool) (es:List (List AV)):Prop where
 size:E.size=es.length
 key:∀ (i:Nat) (e:MapEntry) (r:List AV),E[i]?=some e->es[i]?=some r->KO gh.S w kz ka e.key r
 val:∀ (i:Nat) (e:MapEntry) (r:List AV),E[i]?=some e->es[i]?=some r->kz<=r.length/\(va=false->r.length=kz+1)/\∃ g,e.val=qs va (r.length-kz) g/\∀ (j:Nat) (x:AV),(r.drop kz)[j]?=some x->VR gh n w (g j) x.drop/\(g j).oneCell'=true
theorem zU{n b kz:Nat}{ka va:Bool}{es:List (List AV)}{v:Value}(h:PR gh.S w v (.fJ kz ka va es)):∃ b E ck,v=.map (some b)/\w.heap[b]?=some (.map E ck)/\Rows gh n w E kz ka va es:=by
 cases h with
 | fJ b _ _ _ _ E ck f hS hb hE de =>
  refine⟨b,E,ck,rfl,hb,hE.size,fun i e r h1 h2=>⟨f i,(hE.row i e r h1 h2).2.2.2.1,fun j x hj _=>de i j r x h2 hj⟩,fun i e r h1 h2=>?_⟩
  obtain⟨k1,_,k2,_,k3⟩:=hE.row i e r h1 h2
  refine⟨k1,k2,fun j=>f i (kz+j),k3,fun j x hj=>?_⟩
  rw[aoS] at hj
  have:=de i (kz+j) r x h2 hj
  exact⟨VR.dropped (.plain _ _ this),this.fR⟩
theorem zT{n b kz:Nat}{p:bM}{q:Nat->bM}{ka va:Bool}{es:List (List AV)}(h:A6 gh n w b p q kz ka va es):∃ E ck,w.heap[b]?=some (.map E ck)/\Rows gh n w E kz ka va es:=by
 obtain⟨_,_,E,ck,f,hb,hE,h1,h2⟩:=h
 refine⟨E,ck,hb,hE.size,fun i e r k1 k2=>⟨f i,(hE.row i e r k1 k2).2.2.2.1,fun j x hj hl=>h1 i j r x k2 hj hl⟩,fun i e r k1 k2=>?_⟩
 obtain⟨l1,_,l2,_,l3⟩:=hE.row i e r k1 k2
 refine⟨l1,l2,fun j=>f i (kz+j),l3,fun j x hj=>?_⟩
 rw[aoS] at hj
 obtain⟨m1,_,m2⟩:=h2 i (kz+j) r x k2 hj (by omega)
 exact⟨m2.dropped,m1⟩
theorem xI:∀ {ks:List CK} {kc:List AV} {es:List (List AV)} {i:Nat},fg ks kc es=some (some i)->i<es.length
 | ks,kc,[],i,h=>by simp[fg] at h
 | ks,kc,r :: es,i,h=>by
  simp only[fg,anU] at h
  obtain⟨b,_,h⟩:=h
  cases b with
  | true=>simp at h;subst h;simp
  | false =>
   simp only[anZ,anT] at h
   obtain⟨o,ho,h⟩:=h
   cases o with
   | none=>simp at h
   | some j=>simp at h;subst h;have:=xI ho;simp;omega
theorem HK{n:Nat}{t kt et:TypeId}{ks:List CK}{ka va:Bool}{vz:Nat}{z:Value}{zero:List AV}(hT:Ij P t kt et ks ka va vz z zero){kv:Value}{k:AV}{kc:List AV}(hk:VR gh n w kv k)(qq:k.cells=some kc)(hl:kc.length=ks.length)(vn:ka=k.isAgg)
  {b:Nat} {E:Array MapEntry} {ck:Nat} {es:List (List AV)} (hb:w.heap[b]?=some (.map E ck)) (hR:Rows gh n w E ks.length ka va es) {o:Option Nat} (hf:fg ks kc es=some o) (ok:Bool) :
  ∃ v,(Instr.lookup t (.map (some b)) kv ok).run P w=.ok v w/\VR gh n w v (o9 ok va zero ks.length es o):=by
 have rM:=wo hT.key hk qq hl vn E.isEmpty
 have N3:=zV hT.key hk qq hl vn (l:=E.toList) (by simpa using hR.size) (fun i e r h1 h2=>hR.key i e r (by simpa using h1) h2) hf
 obtain⟨i0,GJ,hz0⟩:=hT.hz
 have hzr:(zeroValue et).run P w=.ok z w:=by simp[zeroValue,typeInfo,GJ,hz0]
 cases o with
 | none =>
  refine⟨if ok then .tuple #[z,.bool false] else z,?_,zA (LV hT) false⟩
  simp[Instr.lookup,run_underlying hT.ht,getObj,Sem.run,hb]
  simp[rM,N3,hzr]
 | some i =>
  have hi:=xI hf
  have hiE:i<E.size:=by rw[hR.size];exact hi
  have hE:E[i]?=some E[i]:=aok hiE
  have he:es[i]?=some es[i]:=an3 hi
  obtain⟨k1,k2,g,k3,k4⟩:=hR.val i _ _ hE he
  have Aj:es.getD i []=es[i]:=by simp[List.getD,he]
  have hed:E.toList.getD i default=E[i]:=by
   have:E.toList[i]?=some E[i]:=by rw[aoL];exact hE
   simp[List.getD,this]
  have hv:=RG (gh:=gh) (n:=n) (w:=w) (va:=va) (m:=es[i].length-ks.length) (g:=g) (cs:=es[i].drop ks.length) (by simp) (fun hva=>by have:=k2 hva;omega) k4
  rw[<- k3] at hv
  refine⟨if ok then .tuple #[E[i].val,.bool true] else E[i].val,?_,by simp only[o9];rw[Aj];exact zA hv true⟩
  simp only[aoi,hed] at N3
  simp[Instr.lookup,run_underlying hT.ht,getObj,Sem.run,hb]
  simp[rM,N3]
theorem DO{n:Nat}{t kt et:TypeId}{ks:List CK}{ka va:Bool}{vz:Nat}{z:Value}{zero:List AV}(hT:Ij P t kt et ks ka va vz z zero){kv:Value}{k:AV}{kc:List AV}(hk:VR gh n w kv k)(qq:k.cells=some kc)(hl:kc.length=ks.length)(vn:ka=k.isAgg)(ok:Bool) :
  ∃ v,(Instr.lookup t (.map none) kv ok).run P w=.ok v w/\VR gh n w v (zy ok va zero false):=by
 have rM:=wo hT.key hk qq hl vn true
 have N3:=zV hT.key hk qq hl vn (l:=[]) (es:=[]) rfl (fun i e r h1 h2=>by simp at h1) (o:=none) rfl
 obtain⟨i0,GJ,hz0⟩:=hT.hz
 have hzr:(zeroValue et).run P w=.ok z w:=by simp[zeroValue,typeInfo,GJ,hz0]
 refine⟨if ok then .tuple #[z,.bool false] else z,?_,zA (LV hT) false⟩
 simp[Instr.lookup,run_underlying hT.ht]
 simp[rM,N3,hzr]
end
end
end Go.Abs
