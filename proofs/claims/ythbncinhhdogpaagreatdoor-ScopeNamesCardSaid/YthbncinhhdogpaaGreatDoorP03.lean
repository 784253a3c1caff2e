/-
  A part of the proof of ScopeNames: AbsOps9, AbsOps10, AbsOps11, AbsOps12, AbsCall, AbsMap1, AbsMap2.
-/
import Derived.Deep.Upon
import Derived.Lib.FrozenHead
import Derived.Test.YthbncinhhdogpaaGreatDoorP02
set_option linter.unusedSimpArgs false
set_option linter.unusedVariables false
set_option linter.defProp false
namespace Go.Abs
section
section
variable {P:Program}{G:Nat->List AV}{base nt:Nat}{L:List Nat}{gh:Gh}{w w' : World}{a:Act}{s:AS}{H:ah}
theorem rq(hW:aK G base s.H gh w)(hF:FR L nt gh w a s){t:Nat}(ht:t<nt){e:List (List AV)}{own:Bool}(hT:s.T t=.slice e own)(p:ba)(hp:p≠.outer) :
  ∃ aH,aK G base s.H aH w/\FR L nt aH w a (s.br t (.slice e false))/\Ext s.H.length gh w aH w/\Step (fun r=>r=.sl t) s.H.length gh w aH w/\CR aH s.H.length w p (fj a t) (.slice e own):=by
 have dA:=fun b hb=>hW.bG (gh:=gh) b hb
 have h:CR gh s.H.length w (.sl t) (fj a t) (.slice e own):=by
  have h:=hF.slot t ht
  rw[hT] at h
  exact h
 rcases h with hv|⟨e',heq,Dl,b,cap,C,ty,lo,hi,sz,gE,hk,he,hb,hC,hr,hl,hh,hS⟩
 ·refine⟨gh,hW,?_,Ext.refl _ _ _ dA,Step.refl _ _ _ _ dA,.inl hv⟩
  exact hF.br (touch:=fun _=>False) (H':=s.H) (lo':=s.lo) (Step.refl _ _ _ _ dA) (aoU _) (fun i _=>⟨id,id,fun _=>id⟩) (.inr rfl) (fun _=>.inl hv.dropped)
 ·injection heq with h1 h2
  subst h1 h2
  have aU:b<w.heap.size:=(aoY.1 hb).1
  have st:=iU hW aU p s.H.length
  rw[hk] at st
  have hn:gh.κ b≠.none:=by rw[hk];simp
  refine⟨gh.ma b p,ID hW aU p hn (by rw[hk];simp),?_,qQ hW aU hp hn (by rw[hk];simp) _,st,.inr ⟨e,rfl,Dl,b,cap,C,ty,lo,hi,sz,gE,by simp[Gh.ma],he,hb,hC,hr,hl,hh,hS⟩⟩
  refine hF.br (H':=s.H) (lo':=s.lo) st (aoU _) (fun i hi=>⟨by simp,by simpa using hi,by simp⟩) (.inr rfl) (fun _=>?_)
  show CR (gh.ma b p) s.H.length w (.sl t) (fj a t) (.slice e false)
  exact .inl (.plain _ _ Dl)
theorem Out.of{aH:Gh}{s1:AS}{d:Option Nat}{gen' : Nat}{v:Value}{x:AV}(hW:aK G base s1.H aH w')(hF:FR L nt aH w' a s1)(hE:Ext s.H.length gh w aH w')(hg:s1.gen<=gen')(hd:∀ k,d=some k->k<nt)
  (hx:aO x=none\/((∃ g,s1.gen<=g/\aO x=some g)/\∀ k,d=some k->k∈L)) (hv:∀ k,d=some k->SR aH s1.H.length nt w' s1.T gen' (fj a) k v x) :
  Out G base nt L gh w a s d x { s1 with gen:=gen' } v aH w' :=
 ⟨hW,hF.Sx hg (fun b hb=>hW.bG b hb) d hd hx hv,hE⟩
theorem gK{x:Operand}{t:Nat}(h:ak nt x=some (.tmp t)):x=.tmp t/\t<nt:=by
 cases x with
 | tmp k =>
  simp only[ak] at h
  rcases apE (Nat.blt k nt) with hb|hb<;>rw[hb] at h<;>simp at h
  subst h
  exact⟨rfl,by simpa [api] using hb⟩
 | const v =>
  simp only[ak,aoO] at h
  obtain⟨z,hz,h⟩:=h
  cases h
 | global g=>simp[ak] at h
 | func f=>simp[ak] at h
theorem FE(hW:aK G base s.H gh w)(hF:FR L nt gh w a s){b g:Nat}{e:List (List AV)}(hb:b<nt)(hT:s.T b=.lsl g e)(oD:iY e=true)(p:ba)(hp:p≠.outer) :
  ∃ aH,aK G base s.H aH w/\FR L nt aH w a (s.br b (.slice e false))/\Ext s.H.length gh w aH w/\CR aH s.H.length w p (fj a b) (.slice e true):=by
 have dA:=fun b hb=>hW.bG (gh:=gh) b hb
 have fL:(fj a b).oneCell'=true:=by obtain⟨ad,cap,hv,_⟩:=nI hF hb hT;rw[hv];rfl
 obtain⟨ad,cap,hV,⟨rfl,rfl,FW⟩|⟨k,C,ty,sz,bB,rfl,hκ,hS,hk,hC,hl,hr,fi⟩⟩:=nI hF hb hT
 ·have hp:PR gh.S w (.slice ad 0 0) (.slice [] false):=by
   cases ad with
   | none=>exact .cT
   | some ad =>
    obtain⟨b',o',sp⟩:=ad
    have:=(FW _ rfl).1
    simp only at this
    subst this
    exact .slice b' o' 0 0 0 [] (fun _ _=>undef) rfl (aoU _) (fun i r h=>by simp at h) (fun i j r x h=>by simp at h) (fun i j r x h=>by simp at h)
  refine⟨gh,hW,?_,Ext.refl _ _ _ dA,.inl ?_⟩
  ·exact hF.br (touch:=fun _=>False) (H':=s.H) (lo':=s.lo) (Step.refl _ _ _ _ dA) (aoU _) (fun i _=>⟨id,id,fun _=>id⟩) (.inr rfl) (fun _=>.inl (.plain _ _ (by rw[hV];exact hp)))
  ·rw[hV]
   exact .full ad 0 [] hp trivial
 ·have jg:∀ o,gh.S k o->C[o]?=C[o]?:=fun _ _=>rfl
  have hn:gh.κ k≠.none:=by rw[hκ];simp
  have Mo:∀ j m,j<e.length*sz->C[j]?=some (.int .u8 m)->ty=iF:=by
   intro j m hj hc
   have cN:ik gh.S w sz (C.toList.take (e.length*sz)).toArray e:=by
    have hle:e.length*sz<=C.size:=by rw[hC];exact apl _ hl
    refine⟨by simp;omega,hr,fun i j r x hi hj=>?_⟩
    obtain⟨u,hu,hp⟩:=fi i j r x hi hj
    refine⟨u,?_,hp⟩
    have h1:=(aoR.1 hi).1
    have h2:j<sz:=by rw[<- hr i r hi];exact (aoR.1 hj).1
    simp only[ape,apa,if_pos (tp h1 h2)]
    simpa using hu
   refine nH (isB:=false) (m:=m) cN oD (fun h=>by cases h) hj ?_
   simp only[ape,apa,if_pos hj]
   simpa using hc
  have st:=pa hW hk rfl (fun o=>o<e.length*sz) jg p s.H.length
  have hE:=wY hW hk rfl (fun o=>o<e.length*sz) jg (p:=p) hp hn (by rw[hκ];simp) s.H.length
  have kR:=KV hW hk rfl (fun o=>o<e.length*sz) jg Mo p hn (by rw[hκ];simp)
  have PK:=setRow_self w k C ty (0,0) hk
  rw[PK] at hE kR st
  rw[hκ] at st
  have slc:∀ S' : Nat->Nat->Prop,(∀ o,o<e.length*sz->S' k o)->(∀ b o,gh.S b o->S' b o)->PR S' w (fj a b) (.slice e false):=by
   intro S' sE vX
   rw[hV]
   have key:∀ (i j:Nat) (r:List AV) (x:AV),e[i]?=some r->r[j]?=some x->C[i*sz+j]?=some (C.getD (i*sz+j) undef)/\PR gh.S w (C.getD (i*sz+j) undef) x/\i*sz+j<e.length*sz:=by
    intro i j r x hi hj
    obtain⟨u,hu,hp⟩:=fi i j r x hi hj
    have aU:=(aoY.1 hu).1
    have:C.getD (i*sz+j) undef=u:=by
     rw[ao2 aU] at hu
     injection hu with hu
     simp[aU,hu]
    rw[this]
    exact⟨hu,hp,tp (aoR.1 hi).1 (by rw[<- hr i r hi];exact (aoR.1 hj).1)⟩
   refine .slice k 0 e.length cap sz e (fun i j=>C.getD (i*sz+j) undef) rfl hl hr (fun i j r x hi hj=>?_) (fun i j r x hi hj=>?_)
   ·obtain⟨h1,h2,h3⟩:=key i j r x hi hj
    refine⟨by have:=sE _ h3;simpa using this,?_,h2.dX⟩
    rw[Nat.zero_add,cell_of_row w k _ C ty _ hk];exact h1
   ·exact (key i j r x hi hj).2.1.mono vX (fun _ _ _=>rfl) (fun _ _ _ _ h=>h)
  refine⟨_,kR,?_,hE,.inr ⟨e,rfl,?_,k,cap,C,ty,0,0,sz,hV,by simp,bB,hk,hC,hr,hl,apZ _,?_⟩⟩
  ·exact hF.br (H':=s.H) (lo':=s.lo) st (aoU _) (fun i hi=>⟨by simpa using hi,by simp,by simp⟩) (.inr rfl) (fun _=>.inl (.plain _ _ (slc _ (fun o h=>.inr ⟨rfl,h⟩) (fun b o h=>.inl h))))
  ·exact slc _ (fun o h=>.inr ⟨rfl,h⟩) (fun b o h=>.inl h)
  ·rintro o ho (h|⟨_,h⟩)
   ·exact hS o h
   ·omega
theorem Cd(hW:aK G base s.H gh w)(hF:FR L nt gh w a s){o:Oper}{x:Operand}{y:an}{take obj:Bool}{z:AV}{s' : AS}(ho:o.op=.move x\/o.op=.assign x)(hc:ak nt x=some y)
  (he:kV G s take obj y=some (z,some s')) (hd:∀ k,o.dst=some k->k<nt) (hL:obj=true->∀ k,o.dst=some k->k∈L) :
  ∃ v' aH w',sm P a o w v' w'/\Out G base nt L gh w a s o.dst z s' v' aH w':=by
 have cz:(execOp a.eval o).run P w=.ok (.value (a.eval x)) w:=by rcases ho with ho|ho<;>simp[execOp,ho]
 cases y<;>simp only[kV] at he<;>try (cases he;done)
 rename_i t
 obtain⟨rfl,ht⟩:=gK hc
 change (execOp a.eval o).run P w=.ok (.value (fj a t)) w at cz
 split at he
 ·cases he
 ·rename_i g e hT
  cases take
  ·cases he
  simp only[cond_true] at he
  cases hob:obj with
  | false =>
   rw[hob] at he
   simp only[aoZ] at he
   obtain⟨oD,he⟩:=ab he
   simp only[aoQ,aoS] at he
   obtain⟨rfl,rfl⟩:=he
   obtain⟨aH,h1,h2,h3,h4⟩:=FE hW hF ht hT oD (Np o.dst) (mM _)
   refine⟨_,aH,w,.inl cz,Out.of (s1:=s.br t (.slice e false)) (gen':=s.gen) h1 h2 h3 (aoU _) hd (.inl rfl) (fun k hk=>?_)⟩
   rw[hk] at h4
   exact h4
  | true =>
  rw[hob] at he
  simp only[cond_true] at he
  simp only[aoQ,aoS] at he
  obtain⟨rfl,rfl⟩:=he
  have bE:=nI hF ht hT
  have dA:=fun b hb=>hW.bG (gh:=gh) b hb
  have fL:(fj a t).oneCell'=true:=by obtain⟨ad,cap,hv,_⟩:=bE;rw[hv];rfl
  have key:∃ aH,aK G base s.H aH w/\FR L nt aH w a (s.br t .any)/\Ext s.H.length gh w aH w/\qA aH w (Hf o.dst) (fj a t) e:=by
   obtain⟨ad,cap,hv,bE⟩:=bE
   rcases bE with hz|⟨b,C,ty,sz,aaD,ha,hk,hS,hb,hC,hl,hr,fi⟩
   ·refine⟨gh,hW,?_,Ext.refl _ _ _ dA,ad,cap,hv,.inl hz⟩
    exact hF.br (touch:=fun _=>False) (H':=s.H) (lo':=s.lo) (Step.refl _ _ _ _ dA) (aoU _) (fun i _=>⟨id,id,fun _=>id⟩) (.inr rfl) (fun _=>.inl (.plain _ _ (.any _ fL)))
   ·have aU:b<w.heap.size:=(aoY.1 hb).1
    have st:=iU hW aU (Hf o.dst) s.H.length
    rw[hk] at st
    have hn:gh.κ b≠.none:=by rw[hk];simp
    refine⟨gh.ma b (Hf o.dst),ID hW aU _ hn (by rw[hk];simp),?_,qQ hW aU (tH _) hn (by rw[hk];simp) _,ad,cap,hv,.inr ⟨b,C,ty,sz,aaD,ha,by simp[Gh.ma],hS,hb,hC,hl,hr,fi⟩⟩
    exact hF.br (H':=s.H) (lo':=s.lo) st (aoU _) (fun i hi=>⟨by simpa using hi,by simp,by simp⟩) (.inr rfl) (fun _=>.inl (.plain _ _ (.any _ fL)))
  obtain⟨aH,h1,h2,h3,h4⟩:=key
  refine⟨_,aH,w,.inl cz,Out.of (s1:=s.br t .any) (gen':=s.gen+1) h1 h2 h3 (apH _) hd (.inr ⟨⟨s.gen,aoU _,rfl⟩,hL hob⟩) (fun k hk=>⟨aqH _,?_⟩)⟩
  rw[hk] at h4
  exact h4
 ·rename_i e own hT
  simp only[aoQ,aoS] at he
  obtain⟨rfl,he⟩:=he
  cases hto:(take&&own) with
  | false=>rw[hto] at he;cases he
  | true =>
   rw[hto] at he
   simp only[cond_true,aoQ] at he
   subst he
   obtain⟨aH,h1,h2,h3,_,h4⟩:=rq hW hF ht hT (Np o.dst) (mM _)
   refine⟨_,aH,w,.inl cz,Out.of (s1:=s.br t (.slice e false)) (gen':=s.gen) h1 h2 h3 (aoU _) hd (.inl rfl) (fun k hk=>?_)⟩
   rw[hk] at h4
   have aaI:own=true:=by cases take<;>simp_all
   subst aaI
   exact h4
 ·cases he
 ·cases he
theorem pU{cs:List AV}{off j:Nat} : (bP off cs)[j]?=if j=off then (cs[j]?).map AV.drop else cs[j]?:=by
 unfold bP
 rw[List.getElem?_modify]
 by_cases h:off=j
 ·subst h;simp
 ·rw[if_neg (fun e=>h e.symm)]
  cases cs[j]?<;>simp[h]
theorem Ab{b:Nat}{p:ba}{q:Nat->ba}{n:Nat}{cs:List AV}(hW:aK G base H gh w)(hB:gF gh n w b p q cs){off:Nat}{v:AV}(hv:cs[off]?=some v)(r:ba)(hr:r≠.outer)(hq:∀ j,q j≠.none/\q j≠.outer/\q j≠p)(ai' : ∀ i j,q i=q j->i=j)(m:Nat) :
  ∃ aH u,(∀ b o,aH.S b o->gh.S b o)/\Step (fun o=>o=q off) m gh w aH w/\Ext m gh w aH w/\(∀ b o,aH.S b o->b<w.heap.size)/\(∀ b,aH.κ b≠.none->base<=b/\b<w.heap.size)/\gF aH n w b p q (bP off cs) /\
   w.cell? ⟨b,off,none⟩=some u/\u.oneCell'=true/\CR aH n w r u v:=by
 have dA:=fun b hb=>hW.bG (gh:=gh) b hb
 obtain⟨hκ,hS,C,ty,hb,hC,fi⟩:=hB
 have afP:off<cs.length:=(aoR.1 hv).1
 have afQ:off<C.size:=by omega
 have hu:C[off]?=some C[off]:=ao2 afQ
 have cL:w.cell? ⟨b,off,none⟩=some C[off]:=by rw[cell_of_row w b off C ty _ hb,hu]
 obtain⟨h1,h2⟩:=fi off _ v hu hv
 rcases h2 with IU|⟨e,rfl,Dl,b',cap,C',kC,lo,hi,sz,gE,hk,he,fP,IE,zg,hl,hh,hS'⟩
 ·refine⟨gh,C[off],fun _ _ h=>h,Step.refl _ _ _ _ dA,Ext.refl _ _ _ dA,hW.mX,hW.ow,⟨hκ,hS,C,ty,hb,by simp[bP];exact hC,fun j u x AD wF=>?_⟩,cL,h1,.inl IU⟩
  rw[pU] at wF
  split at wF
  ·simp only[aoO] at wF
   obtain⟨y,hy,rfl⟩:=wF
   obtain⟨k1,k2⟩:=fi j u y AD hy
   exact⟨k1,.inl k2.dropped⟩
  ·exact fi j u x AD wF
 ·have aU:b' < w.heap.size:=(aoY.1 fP).1
  have st:=iU hW aU r m
  rw[hk] at st
  have bB:b≠b':=by rintro rfl;rw[hκ] at hk;exact (hq off).2.2 hk.symm
  have hn:gh.κ b'≠.none:=by rw[hk];exact (hq off).1
  refine⟨gh.ma b' r,C[off],fun _ _ h=>h,st,qQ hW aU hr hn (by rw[hk];exact (hq off).2.1) m,hW.mX,?_,⟨by simp[Gh.ma,bB,hκ],hS,C,ty,hb,by simp[bP];exact hC,fun j u x AD wF=>?_⟩,cL,h1,
   .inr ⟨e,rfl,Dl,b',cap,C',kC,lo,hi,sz,gE,by simp[Gh.ma],he,fP,IE,zg,hl,hh,hS'⟩⟩
  ·intro b1 ze
   have iO:(if b1=b' then r else gh.κ b1)≠.none:=ze
   split at iO
   ·rename_i e;rw[e];exact hW.ow b' hn
   ·exact hW.ow b1 iO
  ·have st':=iU hW aU r n
   rw[hk] at st'
   rw[pU] at wF
   split at wF
   ·rename_i hj
    subst hj
    rw[hv] at wF
    simp only[Option.map_some,aoQ] at wF
    subst wF
    rw[hu] at AD;injection AD with AD;subst AD
    exact⟨h1,.inl (.plain _ _ Dl)⟩
   ·rename_i hj
    obtain⟨k1,k2⟩:=fi j u x AD wF
    exact⟨k1,k2.mono st' (aoU _) (fun e=>hj (ai' _ _ e))⟩
theorem aK.S0{aH:Gh}{touch:ba->Prop}(hW:aK G base H gh w)(st:Step touch H.length gh w aH w'){loc:Nat}{ty:TypeId}{cs0:List AV}(hH:H[loc]?=some (.box ty cs0))(ht:∀ l,l≠loc->¬ touch (.hb l)/\∀ j,¬ touch (.hs l j))
  (hs:∀ b o,aH.S b o->b<w'.heap.size) (hk:∀ b,aH.κ b≠.none->base<=b/\b<w'.heap.size) {cs:List AV} (hB:gF aH H.length w' (aH.ρ loc) (.hb loc) (fun j=>.hs loc j) cs) (hr:cs.all (aV loc)=true) (qt:∀ b o,aH.S b o->gh.S b o) (hlen:cs.length=cs0.length) :
  aK G base (H.set loc (.box ty cs)) aH w':=by
 have aU:loc<H.length:=(aoR.1 hH).1
 refine⟨apV hW.size st.size,hs,hk,fun g j x hx=>?_,fun l kC ds hl=>?_,fun l kC ds hl=>?_,fun g hg=>(hW.wL g hg).imp fun ty h=>st.len g ty _ h,hW.j4 st (fun b o m h=>.inl (qt b o h)),fun l o hl=>?_,fun l kC ds hl=>?_⟩
 ·obtain⟨v,h1,h2,h3⟩:=hW.aN g j x hx
  exact⟨v,(st.cell g j h3).trans h1,h2.mono st.S st.cell st.mp,st.S g j h3⟩
 ·rw[apX]
  rw[apr] at hl
  split at hl
  ·rename_i e
   subst e
   simp only[aoQ,cj.box.injEq] at hl
   obtain⟨rfl,rfl⟩:=hl
   exact hB
  ·rename_i e
   have h:=(hW.boxes l kC ds hl).mono st (aoU _) (ht l (ap3 e)).1 (ht l (ap3 e)).2
   rw[st.ρ l (aoR.1 hl).1];exact h
 ·rw[apr] at hl
  split at hl
  ·rename_i e
   subst e
   simp only[aoQ,cj.box.injEq] at hl
   obtain⟨rfl,rfl⟩:=hl
   exact hr
  ·exact hW.refs l kC ds hl
 ·rw[apX]
  rw[apr] at hl
  split at hl
  ·rename_i e
   subst e
   injection hl with hl
   subst hl
   trivial
  ·rename_i e
   rw[st.ρ l (aoR.1 hl).1]
   exact (hW.more l o hl).mono st (aoU _) (ht l (ap3 e)).1 (ht l (ap3 e)).2
 ·rw[apr] at hl
  split at hl
  ·rename_i e
   subst e
   simp only[aoQ,cj.box.injEq] at hl
   obtain⟨rfl,rfl⟩:=hl
   intro hf
   have hm:=hW.types loc _ cs0 hH hf
   rw[st.ρ loc aU,hlen]
   exact st.len _ _ _ hm
  ·rename_i e
   rw[st.ρ l (aoR.1 hl).1]
   exact fun hf=>st.len _ _ _ (hW.types l kC ds hl hf)
theorem aK.uJ{aH:Gh}{touch:ba->Prop}(hW:aK G base H gh w)(st:Step touch H.length gh w aH w'){loc:Nat}(aU:loc<H.length)(ht:∀ l,l≠loc->¬ touch (.hb l)/\∀ j,¬ touch (.hs l j))
  (hs:∀ b o,aH.S b o->b<w'.heap.size) (hk:∀ b,aH.κ b≠.none->base<=b/\b<w'.heap.size) {o:cj} (Mo:∀ ty cs,o≠.box ty cs) (hM:sP aH H.length w' (aH.ρ loc) loc o)
  (qt:∀ b o m,aH.S b o->gh.S b o\/(w'.cell? ⟨b,o,none⟩=some (.int .u8 m)->∃ C fr,w'.heap[b]?=some (.cells C iF fr))):aK G base (H.set loc o) aH w':=by
 have box:∀ {l:Nat} {ty:TypeId} {ds:List AV},(H.set loc o)[l]?=some (.box ty ds)->l≠loc/\H[l]?=some (.box ty ds):=by
  intro l ty ds hl
  rw[apr] at hl
  split at hl
  ·injection hl with hl;exact absurd hl (Mo ty ds)
  ·rename_i e;exact⟨ap3 e,hl⟩
 refine⟨apV hW.size st.size,hs,hk,fun g j x hx=>?_,fun l kC ds hl=>?_,fun l kC ds hl=>?_,fun g hg=>(hW.wL g hg).imp fun ty h=>st.len g ty _ h,hW.j4 st qt,fun l o' hl=>?_,fun l kC ds hl hf=>?_⟩
 ·obtain⟨v,h1,h2,h3⟩:=hW.aN g j x hx
  exact⟨v,(st.cell g j h3).trans h1,h2.mono st.S st.cell st.mp,st.S g j h3⟩
 ·obtain⟨bB,hl⟩:=box hl
  rw[apX,st.ρ l (aoR.1 hl).1]
  exact (hW.boxes l kC ds hl).mono st (aoU _) (ht l bB).1 (ht l bB).2
 ·exact hW.refs l kC ds (box hl).2
 ·rw[apX]
  rw[apr] at hl
  split at hl
  ·rename_i e
   subst e
   injection hl with hl
   subst hl
   exact hM
  ·rename_i e
   rw[st.ρ l (aoR.1 hl).1]
   exact (hW.more l o' hl).mono st (aoU _) (ht l (ap3 e)).1 (ht l (ap3 e)).2
 ·obtain⟨bB,hl⟩:=box hl
  rw[st.ρ l (aoR.1 hl).1]
  exact st.len _ _ _ (hW.types l kC ds hl hf)
theorem aK.yQ(hW:aK G base H gh w){ob:Obj}(hp:dJ w w' ob){o:cj}(Mo:∀ ty cs,o≠.box ty cs)(hM:sP (gh.bd w.heap.size H.length) (H.length+1) w' w.heap.size H.length o) :
  aK G base (H++[o]) (gh.bd w.heap.size H.length) w':=by
 have st:=fF hW hp
 have old:∀ {l:Nat} {o' : cj},(H++[o])[l]?=some o'->(l<H.length/\H[l]?=some o')\/(l=H.length/\o'=o):=by
  intro l o' hl
  by_cases aU:l<H.length
  ·rw[ao7 aU] at hl;exact .inl ⟨aU,hl⟩
  ·rw[ao5 (by omega)] at hl
   have hz:l=H.length:=by
    have:=(aoR.1 hl).1
    simp at this;omega
   subst hz
   simp at hl
   exact .inr ⟨rfl,hl.symm⟩
 refine⟨apV hW.size st.size,?_,?_,fun g j x hx=>?_,fun l kC ds hl=>?_,fun l kC ds hl=>?_,fun g hg=>(hW.wL g hg).imp fun ty h=>st.len g ty _ h,hW.j4 st (fun b o m h=>h.elim .inl (fun h=>h.2.elim)),fun l o' hl=>?_,fun l kC ds hl hf=>?_⟩
 ·intro b o ho
  rw[hp.size]
  rcases ho with ho|⟨_,ho⟩
  ·have:=hW.mX b o ho;omega
  ·exact ho.elim
 ·intro b hb
  rw[hp.size]
  have fP:(if b=w.heap.size then ba.hb H.length else gh.κ b)≠.none:=hb
  split at fP
  ·rename_i e
   have:=hW.size
   omega
  ·have:=hW.ow b fP;omega
 ·obtain⟨v,h1,h2,h3⟩:=hW.aN g j x hx
  exact⟨v,(st.cell g j h3).trans h1,h2.mono st.S st.cell st.mp,st.S g j h3⟩
 ·rcases old hl with ⟨aU,hl⟩|⟨_,h⟩
  ·rw[ao6,apt,st.ρ l aU]
   exact (hW.boxes l kC ds hl).mono st (apH _) id (fun _=>id)
  ·exact absurd h.symm (Mo kC ds)
 ·rcases old hl with ⟨aU,hl⟩|⟨_,h⟩
  ·exact hW.refs l kC ds hl
  ·exact absurd h.symm (Mo kC ds)
 ·rw[ao6,apt]
  rcases old hl with ⟨aU,hl⟩|⟨rfl,rfl⟩
  ·rw[st.ρ l aU]
   exact (hW.more l o' hl).mono st (apH _) id (fun _=>id)
  ·have hρ:(gh.bd w.heap.size H.length).ρ H.length=w.heap.size:=by simp[Gh.bd]
   rw[hρ];exact hM
 ·rcases old hl with ⟨aU,hl⟩|⟨_,h⟩
  ·rw[st.ρ l aU]
   exact st.len _ _ _ (hW.types l kC ds hl hf)
  ·exact absurd h.symm (Mo kC ds)
theorem Gi{cs:List AV}{off:Nat}{y:AV}(h:y∈bP off cs):y∈cs\/∃ x,x∈cs/\y=x.drop:=by
 obtain⟨j,hj⟩:=apw h
 rw[pU] at hj
 split at hj
 ·simp only[aoO] at hj
  obtain⟨x,hx,rfl⟩:=hj
  exact .inr ⟨x,ao0 hx,rfl⟩
 ·exact .inl (ao0 hj)
theorem uO{cs:List AV}{off loc:Nat}(h:cs.all (aV loc)=true):(bP off cs).all (aV loc)=true:=by
 refine aoV.2 fun y hy=>?_
 rcases Gi hy with hy|⟨x,hx,rfl⟩
 ·exact aoV.1 h y hy
 ·exact ot (aoV.1 h x hx)
theorem lx{n:Nat}{T:aw}{gen:Nat}{tm:Nat->Value}{i:Nat}{v:Value}{x:AV}(hx:al x=true)(h:CR gh n w (.sl i) v x):SR gh n nt w T gen tm i v x:=by
 cases x<;>first|exact h|(simp[al] at hx)
theorem CR.al{n:Nat}{p:ba}{v:Value}{x:AV}(h:CR gh n w p v x):al x=true:=by
 rcases h with h|⟨e,rfl,_⟩
 ·cases h with
  | plain _ _ h=>cases h<;>rfl
  | full=>rfl
  | ref=>rfl
  | sref=>rfl
  | mref=>rfl
  | func=>rfl
  | iface=>rfl
  | agg=>rfl
  | tuple=>rfl
 ·rfl
theorem iN{x:AV}(h:Abs.al x=true):aO x=none:=by cases x<;>first|rfl|(simp[Abs.al] at h)
theorem Bh{t:TypeId}(hg:kQ P t=some false){b off:Nat}{u:Value}(hc:w.cell? ⟨b,off,none⟩=some u):(Instr.loadAt t (.pointer (some ⟨b,off,none⟩))).run P w=.ok u w:=by
 simp[Instr.loadAt,Instr.sureAddr,loadVar,gY hg,hc]
theorem Cc(hW:aK G base s.H gh w)(hF:FR L nt gh w a s){o:Oper}{t:TypeId}{x:Operand}{y:an}{take agg:Bool}{sz:Nat}{z:AV}{s' : AS}(ho:o.op=.load t x)(hc:ak nt x=some y)(hg:kQ P t=some agg)(hs:de P t=some sz)
  (he:cM s take agg sz (y.addr G s.T)=some (z,some s')) (hd:∀ k,o.dst=some k->k<nt) :
  ∃ v' aH w',sm P a o w v' w'/\Out G base nt L gh w a s o.dst z s' v' aH w':=by
 have hv:=arg_val hW hF hc
 generalize hY:y.addr G s.T=Y at hv he
 cases Y<;>simp only[cM] at he<;>try (cases he;done)
 case eptr cs=>simp at he
 case ref loc off =>
  obtain⟨aU,l5⟩:=VR.lC (hv:VR gh s.H.length w (a.eval x) (.ref loc off))
  split at he
  ·rename_i NS cs hH
   simp only[aoO,aoS] at he
   obtain⟨u,hu,rfl,hn⟩:=he
   cases hq:(take&&!agg) with
   | false=>rw[hq] at hn;cases hn
   | true =>
    rw[hq] at hn
    simp only[cond_true,aoQ] at hn
    subst hn
    simp only[Bool.and_eq_true,apB] at hq
    obtain⟨rfl,rfl⟩:=hq
    simp only[ag,aoZ,cond_true,aoO] at hu
    obtain⟨u',hu,rfl⟩:=hu
    obtain⟨aH,uv,hSS,st,hE,qy,iV,hB,cL,fL,kD⟩:=Ab hW (hW.boxes loc _ cs hH) hu (Np o.dst) (mM _) (by simp) (by simp) s.H.length
    have hρ:aH.ρ loc=gh.ρ loc:=st.ρ loc aU
    have kR:aK G base (s.H.set loc (.box NS (bP off cs))) aH w:=hW.S0 st hH (by intro l hl;simp[hl]) qy iV (by rw[hρ];exact hB) (uO (hW.refs loc _ cs hH)) hSS (by simp[bP])
    have zB:FR L nt aH w a (s.fp ⟨s.H.set loc (.box NS (bP off cs)),loc⟩):=hF.grown st (fun i=>⟨by simp,by simp,by simp⟩) (by simp)
    refine⟨uv,aH,w,.inl ?_,Out.of (s1:=s.fp ⟨s.H.set loc (.box NS (bP off cs)),loc⟩) (gen':=s.gen) kR zB hE (aoU _) hd (.inl (iN kD.al)) (fun k hk=>?_)⟩
    ·simp[execOp,ho,l5,Bh hg cL]
    ·rw[hk] at kD
     have:(s.fp ⟨s.H.set loc (.box NS (bP off cs)),loc⟩).H.length=s.H.length:=by simp[AS.fp]
     rw[this]
     exact lx kD.al kD
  ·simp at he
  ·simp at he
  ·cases he
 case lref b g off =>
  obtain⟨hb,IL,hr⟩:=(hv:_/\_/\_)
  split at he
  ·rename_i g' cs hT
   obtain⟨h0,s9⟩:=ab he
   clear he
   have Dp:g=g':=by simpa [dR] using h0
   subst Dp
   rename _=some (z,some s')=>he
   simp only[aoO,aoS] at he
   obtain⟨u,hu,rfl,hn⟩:=he
   cases hq:(take&&!agg) with
   | false=>rw[hq] at hn;cases hn
   | true =>
    rw[hq] at hn
    simp only[cond_true,aoQ] at hn
    subst hn
    simp only[Bool.and_eq_true,apB] at hq
    obtain⟨rfl,rfl⟩:=hq
    simp only[ag,aoZ,cond_true,aoO] at hu
    obtain⟨u',hu,rfl⟩:=hu
    obtain⟨k,hk,Mg⟩:=uM hF hb hT
    have l5:=hr (by rw[hT];rfl) k hk
    obtain⟨aH,uv,hSS,st,hE,qy,iV,hB,cL,fL,kD⟩:=Ab hW Mg hu (Np o.dst) (mM _) (by simp) (by simp) s.H.length
    have kR:aK G base s.H aH w:=hW.step st (by simp) qy iV (fun b o _ h=>.inl (hSS b o h))
    have zB:FR L nt aH w a (s.br b (.lbox g (bP off cs))) :=
     hF.br (H':=s.H) (lo':=s.lo) st (aoU _) (fun i hi=>⟨by simp,by simp,by intro j e;injection e with e _;exact hi e⟩) (.inl ⟨hb,by rw[hT];rfl⟩) (fun _=>⟨by
      have h:=hF.slot b hb
      rw[hT] at h
      exact h.1,k,hk,hB⟩)
    refine⟨uv,aH,w,.inl ?_,Out.of (s1:=s.br b (.lbox g (bP off cs))) (gen':=s.gen) kR zB hE (aoU _) hd (.inl (iN kD.al)) (fun k hk=>?_)⟩
    ·simp[execOp,ho,l5,Bh hg cL]
    ·rw[hk] at kD
     exact lx kD.al kD
  ·cases he
 case eref b g i zz off =>
  split at he
  ·obtain⟨_,he⟩:=ab he
   simp only[aoP] at he
   obtain⟨r,_,he⟩:=he
   obtain⟨_,he⟩:=ab he
   simp at he
  ·cases he
end
end
section
section
variable {P:Program}{G:Nat->List AV}{base nt:Nat}{L:List Nat}{gh:Gh}{w w' : World}{a:Act}{s:AS}{H:ah}
theorem oE(hW:aK G base s.H gh w)(hF:FR L nt gh w a s){x:Operand}{y:an}(hc:ak nt x=some y)(hf:al (y.eval G s.T)=true)(p:ba)(hp:p≠.outer) :
  ∃ aH,aK G base s.H aH w/\FR L nt aH w a (s.bD y)/\Ext s.H.length gh w aH w/\Step (fun r=>∃ t,r=.sl t) s.H.length gh w aH w/\CR aH s.H.length w p (a.eval x) (y.eval G s.T):=by
 have dA:=fun b hb=>hW.bG (gh:=gh) b hb
 have stay:s.bD y=s->VR gh s.H.length w (a.eval x) (y.eval G s.T)->∃ aH,aK G base s.H aH w/\FR L nt aH w a (s.bD y)/\Ext s.H.length gh w aH w/\Step (fun r=>∃ t,r=.sl t) s.H.length gh w aH w/\CR aH s.H.length w p (a.eval x) (y.eval G s.T):=by
  intro h1 h2
  rw[h1]
  exact⟨gh,hW,hF,Ext.refl _ _ _ dA,Step.refl _ _ _ _ dA,.inl h2⟩
 cases y with
 | tmp t =>
  obtain⟨rfl,ht⟩:=gK hc
  have hd:=bY hW hF hc rfl hf
  simp only[an.eval] at hf hd stay ⊢
  cases hT:s.T t with
  | slice e own =>
   cases own with
   | false =>
    rw[hT] at hd stay
    exact stay (by simp[AS.bD,hT]) hd
   | true =>
    obtain⟨aH,h1,h2,h3,h4,h5⟩:=rq hW hF ht hT p hp
    refine⟨aH,h1,?_,h3,h4.mono (fun r h=>⟨t,h⟩),h5⟩
    simpa [AS.bD,hT] using h2
  | _ =>
   rw[hT] at hd stay
   exact stay (by simp[AS.bD,hT]) hd
 | cg v =>
  refine stay rfl ?_
  cases x with
  | tmp k =>
   simp only[ak] at hc
   rcases apE (Nat.blt k nt) with hb|hb<;>rw[hb] at hc<;>simp at hc
  | const u =>
   simp only[ak,aoO] at hc
   obtain⟨z,hz,h⟩:=hc
   injection h with h
   subst h
   exact iD hz
  | global g=>simp[ak] at hc
  | func f=>simp[ak] at hc
 | aN g =>
  refine stay rfl ?_
  have:=bY hW hF hc rfl hf
  exact this
 | fn f =>
  refine stay rfl ?_
  have:=bY hW hF hc rfl hf
  exact this
theorem SP{b:Nat} : ({ S:=fun b' o=>gh.S b' o\/(b'=b/\(fun _=>False) o),κ:=fun b'=>if b'=b then gh.κ b else gh.κ b',ρ:=gh.ρ } : Gh)=gh:=by
 obtain⟨S,κ,ρ⟩:=gh
 congr 1
 ·funext b' o
  simp
 ·funext b'
  by_cases h:b'=b
  ·subst h;simp
  ·simp[h]
theorem mW(hW:aK G base H gh w){b:Nat}{C C' : Array Value}{ty:TypeId}{fr:Nat × Nat}(hb:w.heap[b]?=some (.cells C ty fr))(gA:C'.size=C.size)(cL:∀ o,gh.S b o->C'[o]?=C[o]?)(n:Nat) :
  Step (fun r=>r=gh.κ b) n gh w gh (w.setRow b C'):=by
 have h:=pa hW hb gA (fun _=>False) cL (gh.κ b) n
 rw[SP] at h
 exact h
theorem yU(hW:aK G base H gh w){b:Nat}{C C' : Array Value}{ty:TypeId}{fr:Nat × Nat}(hb:w.heap[b]?=some (.cells C ty fr))(gA:C'.size=C.size)(cL:∀ o,gh.S b o->C'[o]?=C[o]?)(h0:gh.κ b≠.none)(h1:gh.κ b≠.outer)(n:Nat) :
  Ext n gh w gh (w.setRow b C') :=
 ⟨(mW hW hb gA cL n).mono (fun r h=>by rw[h];exact⟨h0,h1⟩),fun _ h=>h⟩
def fa(C:Array Value)(off:Nat)(D:Array Value):Array Value:=(C.toList.take off++D.toList++C.toList.drop (off+D.toList.length)).toArray
theorem jr{C D:Array Value}{off:Nat}(h:off+D.size<=C.size)(j:Nat):(fa C off D)[j]?=if off<=j/\j<off+D.size then D[j-off]? else C[j]?:=by
 have aaC:min off C.size=off:=by omega
 unfold fa
 simp only[ape,apU,ao6,aqW,apa,apq,ary,aps,aaC]
 by_cases h1:j<off
 ·have e1:j<off+D.size:=by omega
  rw[if_pos e1,if_pos h1,if_pos h1,if_neg (by omega)]
 ·by_cases h2:j<off+D.size
  ·rw[if_pos h2,if_neg h1,if_pos ⟨by omega,h2⟩]
  ·rw[if_neg h2,if_neg (by omega)]
   congr 1;omega
theorem cV{C D:Array Value}{off:Nat}(h:off+D.size<=C.size):(fa C off D).size=C.size:=by
 unfold fa;simp;omega
theorem wu{t:TypeId}{sz:Nat}(hs:de P t=some sz){b off:Nat}{C:Array Value}{ty:TypeId}(hb:w.heap[b]?=some (.cells C ty (0,0))){v:Value}(hv:v.cells.size=sz)(jd:off+sz<=C.size)(fL:∀ u∈v.cells.toList,u.oneCell'=true) :
  (Instr.storeAt t (.pointer (some ⟨b,off,none⟩)) v).run P w=.ok () (w.setRow b (fa C off v.cells)):=by
 have h:=run_storeCells_at P b off ty v.cells.toList 0 C w hb (by simp;omega) fL
 simp only[ap6] at h
 simp[Instr.storeAt,Instr.sureAddr,storeVar,dx hs,hv,h,fa]
theorem u0(hW:aK G base H gh w){b:Nat}{p:ba}{q:Nat->ba}{n:Nat}{cs vs:List AV}(hB:gF gh n w b p q cs){off sz:Nat}{t:TypeId}(hs:de P t=some sz){v:Value}(po:vs.length=sz)(afP:off+sz<=cs.length)
  (hv:v.cells.size=sz) (cr:∀ (j:Nat) (u:Value) (x:AV),v.cells[j]?=some u->vs[j]?=some x->u.oneCell'=true/\CR gh n w (q (off+j)) u x) (hq:∀ j,q j≠p) (hp:p≠.none/\p≠.outer) (m:Nat) :
  ∃ w',(Instr.storeAt t (.pointer (some ⟨b,off,none⟩)) v).run P w=.ok () w'/\Step (fun r=>r=p) m gh w gh w'/\Ext m gh w gh w'/\w'.heap.size=w.heap.size/\gF gh n w' b p q (putAt cs off vs):=by
 obtain⟨hκ,hS,C,ty,hb,hC,fi⟩:=hB
 have jg:∀ o,gh.S b o->(fa C off v.cells)[o]?=C[o]?:=fun o ho=>(hS o ho).elim
 have x6:(fa C off v.cells).size=C.size:=cV (by omega)
 have st:=mW hW hb x6 jg m
 have stn:=mW hW hb x6 jg n
 have hE:=yU hW hb x6 jg (by rw[hκ];exact hp.1) (by rw[hκ];exact hp.2) m
 rw[hκ] at st stn
 have jd:off+v.cells.size<=C.size:=by omega
 refine⟨_,wu hs hb hv (by omega) ?_,st,hE,by simp,hκ,hS,_,ty,setRow_heap w b C _ ty _ hb,by rw[cV jd,oZ (by omega)];exact hC,fun j u x AD wF=>?_⟩
 ·intro u hu
  obtain⟨j,hj⟩:=apw hu
  have iL:v.cells[j]?=some u:=by simpa using hj
  have aU:j<vs.length:=by rw[po,<- hv];exact (aoY.1 iL).1
  exact (cr j u _ iL (aoT aU)).1
 ·rw[jr jd] at AD
  rw[r9 (by omega)] at wF
  have e1:v.cells.size=vs.length:=by omega
  rw[e1] at AD
  split at AD
  ·rename_i hc
   rw[if_pos hc] at wF
   obtain⟨k1,k2⟩:=cr _ u x AD wF
   rw[show off+(j-off)=j by omega] at k2
   exact⟨k1,k2.mono stn (aoU _) (hq j)⟩
  ·rename_i hc
   rw[if_neg hc] at wF
   obtain⟨k1,k2⟩:=fi j u x AD wF
   exact⟨k1,k2.mono stn (aoU _) (hq j)⟩
theorem tM{n:Nat}{v:Value}{x:AV}{vs:List AV}{q:Nat->ba}{off:Nat}(h:CR gh n w (q off) v x)(hc:x.cells=some vs) :
  v.cells.size=vs.length/\∀ (j:Nat) (u:Value) (y:AV),v.cells[j]?=some u->vs[j]?=some y->u.oneCell'=true/\CR gh n w (q (off+j)) u y:=by
 rcases h with h|⟨e,rfl,Dl,hO⟩
 ·have hr:=rL h hc
  exact⟨hr.1,fun j u y hu hy=>⟨(hr.2 j u y hu hy).2,.inl (hr.2 j u y hu hy).1⟩⟩
 ·have e1:vs=[.slice e true]:=by simpa [AV.cells] using hc.symm
  subst e1
  have fL:=Dl.dX
  have:v.cells=#[v]:=by obtain⟨b,cap,_,_,_,_,_,rfl,_⟩:=hO;rfl
  rw[this]
  refine⟨rfl,fun j u y hu hy=>?_⟩
  cases j with
  | zero=>simp at hu hy;subst hu hy;exact⟨fL,.inr ⟨e,rfl,Dl,hO⟩⟩
  | succ j=>simp at hu
theorem gz{x:AV}{vs:List AV}(h:x.cells=some vs):al x=true:=by cases x<;>first|rfl|cases h
theorem gk(s:AS)(y:an):(s.bD y).H=s.H/\(s.bD y).gen=s.gen/\(s.bD y).lo=s.lo:=by
 cases y with
 | tmp t=>simp only[AS.bD];split<;>exact⟨rfl,rfl,rfl⟩
 | _=>exact⟨rfl,rfl,rfl⟩
theorem KY(s:AS)(y:an)(b:Nat)(h:∀ e,s.T b≠.slice e true):(s.bD y).T b=s.T b:=by
 cases y<;>simp only[AS.bD]
 rename_i t
 split
 ·rename_i e hT
  by_cases hb:b=t
  ·subst hb;exact absurd hT (h e)
  ·simp[AS.br,db,hb]
 ·rfl
theorem mY(s:AS)(t:Nat)(h:∀ e,s.T t≠.slice e true):s.bD (.tmp t)=s:=by
 simp only[AS.bD]
theorem sg(s:AS)(t:Nat){e:List (List AV)}(h:s.T t=.slice e true):s.bD (.tmp t)=s.br t (.slice e false):=by
 simp only[AS.bD,h]
theorem y4(s:AS)(y:an)(b:Nat)(X:AV)(h:∀ e,s.T b≠.slice e true)(hX:∀ e,X≠.slice e true):(s.br b X).bD y=(s.bD y).br b X:=by
 cases y<;>try rfl
 rename_i t
 by_cases hb:t=b
 ·subst hb
  rw[mY s t h,mY _ t (by simpa [AS.br,db] using hX)]
 ·have e1:(s.br b X).T t=s.T t:=by simp[AS.br,db,hb]
  by_cases ho:∃ e,s.T t=.slice e true
  ·obtain⟨e,ho⟩:=ho
   rw[sg s t ho,sg (s.br b X) t (by rw[e1,ho])]
   simp only[AS.br]
   congr 1
   funext k
   simp only[db]
   by_cases h1:k=t
   ·subst h1;simp[hb]
   ·by_cases h2:k=b
    ·subst h2;simp[h1]
    ·simp[h1,h2]
  ·have mG:∀ e,s.T t≠.slice e true:=fun e he=>ho ⟨e,he⟩
   rw[mY s t mG,mY (s.br b X) t (by rw[e1];exact mG)]
theorem vA(s:AS)(y:an)(c:fQ):(s.fp c).bD y=(s.bD y).fp c:=by
 cases y<;>simp only[AS.bD]
 rename_i t
 show (match s.T t with|.slice e true=>(s.fp c).br t (.slice e false)|_=>s.fp c)=_
 cases hT:s.T t<;>try rfl
 rename_i e own
 cases own<;>rfl
theorem Out.skip{aH:Gh}{s1:AS}{d:Option Nat}(hW:aK G base s1.H aH w')(hF:FR L nt aH w' a s1)(hE:Ext s.H.length gh w aH w')(hd:∀ k,d=some k->k<nt):Out G base nt L gh w a s d .undef s1 undef aH w' :=
 Out.of (gen':=s1.gen) hW hF hE (aoU _) hd (.inl rfl) (fun k hk=>.inl VR.undef)
theorem M9{cs vs:List AV}{off:Nat}{f:AV->Bool}(h1:cs.all f=true)(h2:vs.all f=true):(putAt cs off vs).all f=true:=by
 refine aoV.2 fun x hx=>?_
 unfold putAt at hx
 rcases aoX.1 hx with hx|hx
 ·rcases aoX.1 hx with hx|hx
  ·exact aoV.1 h1 x (aqZ hx)
  ·exact aoV.1 h2 x hx
 ·exact aoV.1 h1 x (List.mem_of_mem_drop hx)
theorem Ft(hW:aK G base s.H gh w)(hF:FR L nt gh w a s){o:Oper}{t:TypeId}{xa xv:Operand}{ya yv:an}{sz:Nat}{s' : AS}(ho:o.op=.store t xa xv)(Dn:ak nt xa=some ya)(Pp:ak nt xv=some yv)(hs:de P t=some sz)
  (he:gl s sz (ya.addr G s.T) (yv.eval G s.T)=some s') (hd:∀ k,o.dst=some k->k<nt) :
  ∃ v' aH w',sm P a o w v' w'/\Out G base nt L gh w a s o.dst .undef (s'.bD yv) v' aH w':=by
 have ha:=arg_val hW hF Dn
 unfold gl at he
 split at he
 ·cases he
 rename_i vs po
 obtain⟨hlen,he⟩:=ab he
 have hlen:vs.length=sz:=by simpa [dR] using hlen
 have Co:=gz po
 generalize hY:ya.addr G s.T=Y at ha he
 cases Y<;>simp only at he<;>try (cases he;done)
 case ref loc off =>
  obtain⟨aU,l5⟩:=VR.lC (ha:VR gh s.H.length w (a.eval xa) (.ref loc off))
  split at he
  ·rename_i NS cs hH
   obtain⟨h0,he⟩:=ab he
   injection he with he
   subst he
   simp only[Bool.and_eq_true,Nat.ble_eq] at h0
   obtain⟨jP,oC,vT,Ay,K0,kD⟩:=oE hW hF Pp Co (.hs loc off) (by simp)
   have hρ:jP.ρ loc=gh.ρ loc:=K0.ρ loc aU
   obtain⟨gA,cr⟩:=tM (q:=fun j=>.hs loc j) kD po
   obtain⟨w',cz,wx,xW,v7,hB⟩:=u0 (P:=P) oC (oC.boxes loc _ cs hH) hs hlen h0.1 (by omega) cr (by simp) (by simp) s.H.length
   have Cn:aK G base (s.H.set loc (.box NS (putAt cs off vs))) jP w':=oC.S0 wx hH (by intro l hl;simp[hl]) (fun b o ho=>by rw[v7];exact oC.mX b o ho) (fun b hb=>by rw[v7];exact oC.ow b hb) hB (M9 (oC.refs loc _ cs hH) h0.2) (fun _ _ h=>h) (oZ (by omega))
   have hS:=gk s yv
   have IF:FR L nt jP w' a ((s.bD yv).fp ⟨s.H.set loc (.box NS (putAt cs off vs)),loc⟩):=vT.grown (by rw[hS.1];exact wx) (fun i=>⟨by simp,by simp,by simp⟩) (by rw[hS.1];simp)
   refine⟨undef,jP,w',.inr ⟨?_,rfl⟩,?_⟩
   ·simp[execOp,ho,l5,<- hρ,cz]
   ·rw[vA]
    exact Out.skip (s1:=(s.bD yv).fp ⟨s.H.set loc (.box NS (putAt cs off vs)),loc⟩) Cn IF (Ay.trans xW (aoU _)) hd
  ·rename_i cs hH
   obtain⟨h0,he⟩:=ab he
   injection he with he
   subst he
   simp only[Bool.and_eq_true,Nat.ble_eq] at h0
   obtain⟨jP,oC,vT,Ay,K0,kD⟩:=oE hW hF Pp Co (.hs loc off) (by simp)
   have hρ:jP.ρ loc=gh.ρ loc:=K0.ρ loc aU
   obtain⟨gA,cr⟩:=tM (q:=fun j=>.hs loc j) kD po
   obtain⟨w',cz,wx,xW,v7,hB⟩:=u0 (P:=P) oC (oC.more loc _ hH:gF jP s.H.length w (jP.ρ loc) (.hb loc) (fun j=>.hs loc j) cs) hs hlen h0.1 (by omega) cr (by simp) (by simp) s.H.length
   have Cn:aK G base (s.H.set loc (.ca (putAt cs off vs))) jP w':=oC.uJ wx aU (by intro l hl;simp[hl]) (fun b o ho=>by rw[v7];exact oC.mX b o ho) (fun b hb=>by rw[v7];exact oC.ow b hb) (fun _ _ h=>by cases h) hB (fun _ _ _ h=>.inl h)
   have hS:=gk s yv
   have IF:FR L nt jP w' a ((s.bD yv).fp ⟨s.H.set loc (.ca (putAt cs off vs)),loc⟩):=vT.grown (by rw[hS.1];exact wx) (fun i=>⟨by simp,by simp,by simp⟩) (by rw[hS.1];simp)
   refine⟨undef,jP,w',.inr ⟨?_,rfl⟩,?_⟩
   ·simp[execOp,ho,l5,<- hρ,cz]
   ·rw[vA]
    exact Out.skip (s1:=(s.bD yv).fp ⟨s.H.set loc (.ca (putAt cs off vs)),loc⟩) Cn IF (Ay.trans xW (aoU _)) hd
  ·cases he
 case lref b g off =>
  obtain⟨hb,IL,hr⟩:=(ha:_/\_/\_)
  split at he
  ·rename_i g' cs hT
   obtain⟨h0,he⟩:=ab he
   injection he with he
   subst he
   simp only[Bool.and_eq_true,Nat.ble_eq,dR,apc] at h0
   obtain⟨⟨rfl,h0⟩,_⟩:=h0
   obtain⟨k,hk,_⟩:=uM hF hb hT
   have l5:=hr (by rw[hT];rfl) k hk
   obtain⟨jP,oC,vT,Ay,K0,kD⟩:=oE hW hF Pp Co (.sc b off) (by simp)
   have hS:=gk s yv
   have Uz:(s.bD yv).T b=.lbox g cs:=by rw[KY _ _ _ (by rw[hT];simp),hT]
   obtain⟨k',iV,hB1⟩:=uM vT hb Uz
   have hkk:k'=k:=by rw[hk] at iV;injection iV with h;injection h with h;injection h with h;exact h.symm
   subst hkk
   rw[hS.1] at hB1
   obtain⟨gA,cr⟩:=tM (q:=fun j=>.sc b j) kD po
   obtain⟨w',cz,wx,xW,v7,hB⟩:=u0 (P:=P) oC hB1 hs hlen h0 (by omega) cr (by simp) (by simp) s.H.length
   have Cn:aK G base s.H jP w':=oC.step wx (by simp) (fun b o ho=>by rw[v7];exact oC.mX b o ho) (fun b hb=>by rw[v7];exact oC.ow b hb) (fun _ _ _ h=>.inl h)
   have IF:FR L nt jP w' a ((s.bD yv).br b (.lbox g (putAt cs off vs))):=by
    refine vT.br (H':=(s.bD yv).H) (lo':=(s.bD yv).lo) (by rw[hS.1];exact wx) (aoU _) (fun i hi=>⟨by simpa using hi,by simp,by simp⟩) (.inl ⟨hb,by rw[Uz];rfl⟩) (fun _=>⟨?_,k',hk,?_⟩)
    ·have h:=vT.slot b hb
     rw[Uz] at h
     exact h.1
    ·rw[hS.1];exact hB
   refine⟨undef,jP,w',.inr ⟨?_,rfl⟩,?_⟩
   ·simp[execOp,ho,l5,cz]
   ·rw[y4 _ _ _ _ (by rw[hT];simp) (by simp)]
    exact Out.skip (s1:=(s.bD yv).br b (.lbox g (putAt cs off vs))) (by show aK G base (s.bD yv).H jP w';rw[hS.1];exact Cn) IF (Ay.trans xW (aoU _)) hd
  ·cases he
 case eref b g i z off =>
  obtain⟨hb,IL,hr⟩:=(ha:_/\_/\_)
  split at he
  ·rename_i g' e hT
   obtain⟨h0,II⟩:=ab he
   have Dp:g=g':=by simpa [dR] using h0
   clear he
   subst Dp
   simp only[aoP] at II
   obtain⟨r,Kr,s9⟩:=II
   obtain⟨h1,YK⟩:=ab s9
   injection YK with YK
   subst YK
   simp only[Bool.and_eq_true,Nat.ble_eq,dR,apc] at h1
   obtain⟨⟨hrz,afP⟩,mf⟩:=h1
   obtain⟨jP,oC,vT,Ay,K0,kD⟩:=oE hW hF Pp Co .none (by simp)
   have hS:=gk s yv
   have Uz:(s.bD yv).T b=.lsl g e:=by rw[KY _ _ _ (by rw[hT];simp),hT]
   obtain⟨ad,cap,gE,bE⟩:=nI vT hb Uz
   rcases bE with ⟨rfl,_⟩|⟨k,C,ty,ja,aaD,rfl,hκ,hS1,Kl,hC,hl,PI,fi⟩
   ·simp at Kr
   have l5:=hr (by rw[hT];rfl) k _ _ gE
   have IV:ja=z:=by rw[<- hrz,PI i r Kr]
   subst IV
   have Mm:i<e.length:=(aoR.1 Kr).1
   obtain⟨gA,cr⟩:=tM (q:=fun _=>.none) (off:=0) kD po
   have afU:∀ (j:Nat) (x:AV),(vs.map AV.drop)[j]?=some x->∃ u,(a.eval xv).cells[j]?=some u/\PR jP.S w u x:=by
    intro j x hx
    simp only[ao1,aoO] at hx
    obtain⟨y,hy,rfl⟩:=hx
    have hj:j<(a.eval xv).cells.size:=by rw[gA];exact (aoR.1 hy).1
    have hu:=ao2 hj
    refine⟨_,hu,(cr j _ y hu hy).2.dropped.jX (aoV.1 mf _ (apu.2 ⟨y,ao0 hy,rfl⟩))⟩
   have jd:i*ja+off+(a.eval xv).cells.size<=C.size:=by
    have h2:(i+1)*ja<=e.length*ja:=apl _ Mm
    have h3:e.length*ja<=cap*ja:=apl _ hl
    rw[apy] at h2
    omega
   have jg:∀ o,jP.S k o->(fa C (i*ja+off) (a.eval xv).cells)[o]?=C[o]?:=fun o ho=>(hS1 o ho).elim
   have wx:=mW oC Kl (cV jd) jg s.H.length
   have xW:=yU oC Kl (cV jd) jg (by rw[hκ];simp) (by rw[hκ];simp) s.H.length
   rw[hκ] at wx
   have cz:=wu (P:=P) (w:=w) (off:=i*ja+off) hs Kl (v:=a.eval xv) (by omega) (by omega) (fun u hu=>by
    obtain⟨j,hj⟩:=apw hu
    have iL:(a.eval xv).cells[j]?=some u:=by simpa using hj
    have aU:j<vs.length:=by rw[<- gA];exact (aoY.1 iL).1
    exact (cr j u _ iL (aoT aU)).1)
   have Cn:aK G base s.H jP (w.setRow k (fa C (i*ja+off) (a.eval xv).cells)):=oC.step wx (by simp) (fun b o ho=>by simpa using oC.mX b o ho) (fun b hb=>by simpa using oC.ow b hb) (fun _ _ _ h=>.inl h)
   have wE:off+(vs.map AV.drop).length<=r.length:=by simp;omega
   have IF:FR L nt jP (w.setRow k (fa C (i*ja+off) (a.eval xv).cells)) a ((s.bD yv).br b (.lsl g (e.set i (putAt r off (vs.map AV.drop))))):=by
    refine vT.br (H':=(s.bD yv).H) (lo':=(s.bD yv).lo) (by rw[hS.1];exact wx) (aoU _) (fun i hi=>⟨by simpa using hi,by simp,by simp⟩) (.inl ⟨hb,by rw[Uz];rfl⟩) (fun _=>⟨?_,?_⟩)
    ·have h:=vT.slot b hb
     rw[Uz] at h
     exact h.1
    ·refine⟨some ⟨k,0,none⟩,cap,by simpa using gE,.inr ⟨k,_,ty,ja,(by intro h0;have:=ari List.length h0;simp at this;exact aaD this),rfl,hκ,hS1,setRow_heap w k C _ ty _ Kl,by rw[cV jd,hC],by simpa using hl,?_,?_⟩⟩
     ·intro i' r' zg
      rw[apr] at zg
      split at zg
      ·rename_i Mj
       injection zg with zg
       subst zg
       rw[oZ wE];exact hrz
      ·exact PI i' r' zg
     ·intro i' j r' x zg hj
      rw[jr jd]
      rw[apr] at zg
      split at zg
      ·rename_i Mj
       subst Mj
       injection zg with zg
       subst zg
       rw[r9 wE] at hj
       have Km:(vs.map AV.drop).length=(a.eval xv).cells.size:=by simp[gA]
       rw[Km] at hj
       by_cases hc:off<=j/\j<off+(a.eval xv).cells.size
       ·rw[if_pos hc] at hj
        rw[if_pos (by omega)]
        obtain⟨u,hu,hp⟩:=afU _ x hj
        refine⟨u,?_,hp.mono wx.S wx.cell wx.mp⟩
        rw[show i*ja+j-(i*ja+off)=j-off by omega];exact hu
       ·rw[if_neg hc] at hj
        rw[if_neg (by omega)]
        obtain⟨u,hu,hp⟩:=fi i j r x Kr hj
        exact⟨u,hu,hp.mono wx.S wx.cell wx.mp⟩
      ·rename_i Mj
       have Dr:j<ja:=by rw[<- PI i' r' zg];exact (aoR.1 hj).1
       have bB:¬ (i*ja+off<=i' * ja+j/\i' * ja+j<i*ja+off+(a.eval xv).cells.size):=by
        rintro ⟨c1,c2⟩
        have:i=i':=by
         rcases aqo i i' with h'|h'|h'
         ·have:(i+1)*ja<=i' * ja:=apl _ h'
          rw[apy] at this;omega
         ·exact h'
         ·have:(i' + 1)*ja<=i*ja:=apl _ h'
          rw[apy] at this;omega
        exact Mj this
       rw[if_neg bB]
       obtain⟨u,hu,hp⟩:=fi i' j r' x zg hj
       exact⟨u,hu,hp.mono wx.S wx.cell wx.mp⟩
   refine⟨undef,jP,w.setRow k (fa C (i*ja+off) (a.eval xv).cells),.inr ⟨?_,rfl⟩,?_⟩
   ·simp[execOp,ho,l5,cz]
   ·rw[y4 _ _ _ _ (by rw[hT];simp) (by simp)]
    exact Out.skip (s1:=(s.bD yv).br b (.lsl g (e.set i (putAt r off (vs.map AV.drop))))) (by show aK G base (s.bD yv).H jP _;rw[hS.1];exact Cn) IF (Ay.trans xW (aoU _)) hd
  ·cases he
end
end
section
section
variable {P:Program}{G:Nat->List AV}{base nt:Nat}{L:List Nat}{gh:Gh}{w w' : World}{a:Act}{s:AS}{H:ah}
theorem IJ{sz:Nat}{f:List (List AV)}(h:fR sz f=true){r:List AV}(hr:f[0]?=some r):r.length=sz:=by
 unfold fR at h
 cases f with
 | nil=>simp at hr
 | cons q f=>simp at hr;subst hr;simpa [dR] using h
theorem zb{sz ja:Nat}{f:List (List AV)}(h:fR sz f=true)(bE:∀ (i:Nat) (r:List AV),f[i]?=some r->r.length=ja)(bB:f≠[]):ja=sz:=by
 cases f with
 | nil=>exact absurd rfl bB
 | cons q f=>rw[<- bE 0 q rfl];exact IJ h rfl
theorem vC{S:Nat->Nat->Prop}{V:Value}{f:List (List AV)}{sz:Nat}{tx:TypeId}(h:PR S w V (.slice f false))(hk:(∃ e',P.underlying tx=some (.slice e'))\/P.underlying tx=some .string)(hh:fR sz f=true) :
  ∃ news:List Value,Src P sz tx V f.length news w/\ik S w sz news.toArray f /\
   ((V=.slice none 0 0/\f=[])\/∃ b o cap,V=.slice (some ⟨b,o,none⟩) f.length cap/\f.length<=cap/\∀ j,j<f.length*sz->S b (o+j)/\w.cell? ⟨b,o+j,none⟩=news[j]?):=by
 cases h with
 | cT=>exact⟨[],⟨hk,fun _=>rfl,run_firstCells_none w sz 0 0 0,run_firstCells_none w.drew sz 0 0 0,by simp,fun _ h=>by cases h⟩,⟨by simp,fun i r h=>by simp at h,fun i j r x h=>by simp at h⟩,.inl ⟨rfl,rfl⟩⟩
 | slice b o n cap ja _ fn hn jC bE cL cr =>
  subst hn
  have gA:f≠[]->ja=sz:=fun bB=>zb hh bE bB
  let news:List Value:=(List.range (f.length*sz)).map fun k=>(w.cell? ⟨b,o+k,none⟩).getD undef
  have hlen:news.length=f.length*sz:=by simp[news]
  have key:∀ k,k<f.length*sz->∃ u,news[k]?=some u/\w.cell? ⟨b,o+k,none⟩=some u/\u.oneCell'=true/\S b (o+k)/\∀ r x,f[k / sz]?=some r->r[k % sz]?=some x->PR S w u x:=by
   intro k hk
   obtain⟨h1,h2,h3⟩:=rB hk
   have bB:f≠[]:=by rintro rfl;simp at h1
   have hr:=aoT h1
   have hlr:f[k / sz].length=sz:=by rw[bE _ _ hr,gA bB]
   have hx:=aoT (show k % sz<f[k / sz].length by omega)
   obtain⟨c1,c2,c3⟩:=cL _ _ _ _ hr hx
   rw[gA bB,aqu,h3] at c1 c2
   refine⟨fn (k / sz) (k % sz),?_,c2,c3,c1,fun r x zg nM=>cr _ _ _ _ zg nM⟩
   simp only[news,ao1,List.getElem?_range hk,Option.map_some,c2,Option.getD_some]
  have YT:∀ j u,news[j]?=some u->w.cell? ((⟨b,o,none⟩:Addr).add j)=some u:=by
   intro j u hj
   have aU:j<f.length*sz:=by rw[<- hlen];exact (aoR.1 hj).1
   obtain⟨u',h1,h2,_⟩:=key j aU
   rw[h1] at hj;injection hj with hj;subst hj
   rw[gv];exact h2
  refine⟨news,⟨hk,fun _=>rfl,run_firstCells_some w sz _ ⟨b,o,none⟩ f.length cap news hlen YT,run_firstCells_some w.drew sz _ ⟨b,o,none⟩ f.length cap news hlen (by simpa using YT),hlen,fun u hu=>?_⟩,⟨by simp[hlen],fun i r hr=>?_,fun i j r x hi hj=>?_⟩,.inr ⟨b,o,cap,rfl,jC,fun j hj=>?_⟩⟩
  ·obtain⟨j,hj⟩:=apw hu
   have aU:j<f.length*sz:=by rw[<- hlen];exact (aoR.1 hj).1
   obtain⟨u',h1,_,h3,_⟩:=key j aU
   rw[h1] at hj;injection hj with hj;subst hj
   exact h3
  ·rw[bE i r hr,gA (by rintro rfl;simp at hr)]
  ·have bB:f≠[]:=by rintro rfl;simp at hi
   have oL:=(aoR.1 hi).1
   have Dr:j<sz:=by rw[<- gA bB,<- bE i r hi];exact (aoR.1 hj).1
   obtain⟨u,h1,_,_,_,h5⟩:=key (i*sz+j) (tp oL Dr)
   refine⟨u,by simpa using h1,h5 r x ?_ ?_⟩
   ·rw[aq6,Nat.mul_add_div (by omega),Nat.div_eq_of_lt Dr];simpa using hi
   ·rw[aq6,Nat.mul_add_mod,Nat.mod_eq_of_lt Dr];exact hj
  ·obtain⟨u,h1,h2,_,h4,_⟩:=key j hj
   exact⟨h4,by rw[h2,h1]⟩
theorem Ye{S:Nat->Nat->Prop}{q:ByteArray}{l:List UInt8}(hq:q.data.toList=l){tx:TypeId}(hk:(∃ e',P.underlying tx=some (.slice e'))\/P.underlying tx=some .string) :
  ∃ news:List Value,Src P 1 tx (.string q) l.length news w/\ik S w 1 news.toArray (l.map fun (b:UInt8)=>[AV.int .u8 b.toNat]):=by
 subst hq
 have hl:q.data.toList.length=q.size:=by simp
 refine⟨byteCells q,?_,by simp[byteCells],fun i r hr=>?_,fun i j r x hi hj=>?_⟩
 ·rw[hl]
  exact⟨hk,fun _=>rfl,firstCells_string q w,firstCells_string q w.drew,by rw[byteCells_length,arv],fun u hu=>by
   obtain⟨_,_,rfl⟩:=apu.1 hu
   rfl⟩
 ·simp only[ao1,aoO] at hr
  obtain⟨y,_,rfl⟩:=hr
  rfl
 ·simp only[ao1,aoO] at hi
  obtain⟨y,hy,rfl⟩:=hi
  cases j with
  | succ j=>simp at hj
  | zero =>
   simp only[ao4,aoQ] at hj
   subst hj
   refine⟨.int .u8 y.toNat,?_,.int _ _⟩
   simp only[byteCells,ape,ao1,arv,ap6,hy,Option.map_some]
theorem ik.append{S:Nat->Nat->Prop}{sz:Nat}{A B:List Value}{E F:List (List AV)}(h1:ik S w sz A.toArray E)(h2:ik S w sz B.toArray F):ik S w sz (A++B).toArray (E++F):=by
 have hA:A.length=E.length*sz:=by simpa using h1.1
 have hB:B.length=F.length*sz:=by simpa using h2.1
 refine⟨by simp[hA,hB,apy],fun i r hi=>?_,fun i j r x hi hj=>?_⟩
 ·rw[apU] at hi
  split at hi
  ·exact h1.2.1 i r hi
  ·exact h2.2.1 _ r hi
 ·rw[apU] at hi
  split at hi
  ·obtain⟨v,hv,hp⟩:=h1.2.2 i j r x hi hj
   have:i*sz+j<A.length:=by have:=(aoY.1 hv).1;simpa using this
   refine⟨v,?_,hp⟩
   simp only[ape] at hv ⊢
   rw[ao7 this];exact hv
  ·rename_i hge
   obtain⟨v,hv,hp⟩:=h2.2.2 _ j r x hi hj
   refine⟨v,?_,hp⟩
   simp only[ape] at hv ⊢
   have e1:i*sz=E.length*sz+(i-E.length)*sz:=by rw[<- apy];congr 1;omega
   rw[ao5 (by rw[hA,e1];omega),hA,e1]
   rw[show E.length*sz+(i-E.length)*sz+j-E.length*sz=(i-E.length)*sz+j by omega];exact hv
theorem ik.aki{S S' : Nat->Nat->Prop}{sz:Nat}{A C' : Array Value}{E:List (List AV)}{b:Nat}{ty:TypeId}{fr:Nat × Nat}(h:ik S w sz A E)(hS:∀ b o,S b o->S' b o)(hc:∀ b o,S b o->w'.cell? ⟨b,o,none⟩=w.cell? ⟨b,o,none⟩)(hm:∀ b E ck,S b 0->w.heap[b]?=some (.map E ck)->w'.heap[b]?=some (.map E ck))
  (hb:w'.heap[b]?=some (.cells C' ty fr)) (hA:∀ j,j<A.size->C'[j]?=A[j]?) (hq:∀ j,j<E.length*sz->S' b j) (cap:Nat) (jC:E.length<=cap):PR S' w' (.slice (some ⟨b,0,none⟩) E.length cap) (.slice E false):=by
 have key:∀ (i j:Nat) (r:List AV) (x:AV),E[i]?=some r->r[j]?=some x->∃ v,A[i*sz+j]?=some v/\PR S w v x/\i*sz+j<A.size/\A.getD (i*sz+j) undef=v:=by
  intro i j r x hi hj
  obtain⟨v,hv,vi⟩:=h.2.2 i j r x hi hj
  have aU:=(aoY.1 hv).1
  refine⟨v,hv,vi,aU,?_⟩
  rw[ao2 aU] at hv
  injection hv with hv
  simp[aU,hv]
 refine .slice b 0 E.length cap sz E (fun i j=>A.getD (i*sz+j) undef) rfl jC h.2.1 ?_ ?_
 ·intro i j r x hi hj
  obtain⟨v,hv,vi,aU,hg⟩:=key i j r x hi hj
  rw[Nat.zero_add,hg]
  refine⟨hq _ (by rw[<- h.1];exact aU),?_,vi.dX⟩
  rw[cell_of_row w' b _ C' ty fr hb,hA _ aU,hv]
 ·intro i j r x hi hj
  obtain⟨v,hv,vi,aU,hg⟩:=key i j r x hi hj
  rw[hg]
  exact vi.mono hS hc hm
structure vG (P:Program) (t e:TypeId) (sz bytes:Nat):Prop where
 ht:P.underlying t=some (.slice e)
 hi:∃ i z,P.info? e=some i/\i.zero=some z/\i.size=sz/\i.bytes=bytes/\z.cells.size=sz
 pos:0<sz
theorem grow{t tx ty e:TypeId}{sz bytes:Nat}(hT:vG P t e sz bytes){ao:Option Addr}{sLen sCap n:Nat}{olds news:List Value}{x:Value}(hold:(Builtin.firstCells sz sLen (.slice ao sLen sCap)).run P w.drew=.ok olds.toArray w.drew)
  (PC:olds.length=sLen*sz) (hs:Src P sz tx x n news w) (hg:sCap<sLen+n) (h63:sLen+n<=70368744177664) (hby:(sLen+n)*bytes<=70368744177664) :
  ∃ tL C' ,(Builtin.append_ #[t,tx] ty #[.slice ao sLen sCap,x]).run P w=.ok (.slice (some ⟨w.heap.size,0,none⟩) (sLen+n) tL) (w.drew.alloc (.cells C' e))/\sLen+n<=tL/\C'.size=tL*sz/\∀ j,j<(olds++news).toArray.size->C'[j]?=(olds++news).toArray[j]?:=by
 obtain⟨i,z,hi,hz,rfl,rfl,hzs⟩:=hT.hi
 have h:=run_append_grow_src (P:=P) w t tx ty e i z hT.ht hi hz ao sLen sCap olds hold x n news hs hg (by omega) (growslice_fits hg (by omega))
 have jC:=grownCap_ge w (sLen+n) sCap e
 refine⟨_,_,h,jC,?_,fun j hj=>?_⟩
 ·rw[Array.size_append,size_zeroCells,hzs]
  simp only[aqg,ao6,PC,hs.newsLen]
  rw[<- apy,<- apy]
  congr 1;omega
 ·rw[arn hj]
theorem room{t tx ty e e2:TypeId}{sz bytes:Nat}(hT:vG P t e sz bytes){b sLen sCap n:Nat}{news:List Value}{x:Value}{C:Array Value}{fr:Nat × Nat}(hs:Src P sz tx x n news w)(hb:w.heap[b]?=some (.cells C e2 fr))(Co:fr.2<=sLen*sz)
  (nw:sLen+n<=sCap) (jd:sLen*sz+news.length<=C.size) :
  (Builtin.append_ #[t,tx] ty #[.slice (some ⟨b,0,none⟩) sLen sCap,x]).run P w=.ok (.slice (some ⟨b,0,none⟩) (sLen+n) sCap) (w.setRow b (fa C (sLen*sz) news.toArray)):=by
 obtain⟨i,z,hi,hz,rfl,rfl,hzs⟩:=hT.hi
 have uT:=run_storeCells_atF P b (sLen*i.size) e2 fr news 0 C w hb (by simpa using Co) (by simpa using jd) hs.one
 simp only[ap6] at uT
 rcases hs.kind with ⟨e',hk⟩|hk<;>simp[Builtin.append_,run_underlying hT.ht,run_underlying hk,sizeOf,typeInfo,hi,hs.len,nw,hs.cells,Addr.add_lit,uT,fa]
theorem CR.given(hW:aK G base s.H gh w)(hF:FR L nt gh w a s){v:Value}{e:List (List AV)}{own:Bool}(h:CR gh s.H.length w .ret v (.slice e own))(p:ba)(hp:p≠.outer) :
  ∃ aH,aK G base s.H aH w/\FR L nt aH w a s/\Ext s.H.length gh w aH w/\CR aH s.H.length w p v (.slice e own):=by
 have dA:=fun b hb=>hW.bG (gh:=gh) b hb
 rcases h with hv|⟨e',heq,Dl,b,cap,C,ty,lo,hi,sz,gE,hk,he,hb,hC,hr,hl,hh,hS⟩
 ·exact⟨gh,hW,hF,Ext.refl _ _ _ dA,.inl hv⟩
 ·injection heq with h1 h2
  subst h1 h2
  have aU:b<w.heap.size:=(aoY.1 hb).1
  have st:=iU hW aU p s.H.length
  rw[hk] at st
  have hn:gh.κ b≠.none:=by rw[hk];simp
  exact⟨gh.ma b p,ID hW aU p hn (by rw[hk];simp),hF.grown (H':=s.H) (lo':=s.lo) st (fun i=>⟨by simp,by simp,by simp⟩) (aoU _),qQ hW aU hp hn (by rw[hk];simp) _,.inr ⟨e,rfl,Dl,b,cap,C,ty,lo,hi,sz,gE,by simp[Gh.ma],he,hb,hC,hr,hl,hh,hS⟩⟩
theorem HJ{n:Nat}{tx:TypeId}{sz:Nat}{x:Value}{news:List Value}(h:Src P sz tx x n news w):(Builtin.firstCells sz n x).run P w.drew=.ok news.toArray w.drew:=h.cellsD
theorem HB(hW:aK G base s.H gh w)(hF:FR L nt gh w a s){t tx ty e:TypeId}{sz bytes:Nat}(hT:vG P t e sz bytes){V X:Value}{E F:List (List AV)}{news:List Value}
  (h:CR gh s.H.length w .ret V (.slice E true)) (hs:Src P sz tx X F.length news w) (cN:ik gh.S w sz news.toArray F) (jd:cw sz bytes E F=true) {isB:Bool} (oD:nG isB (E++F)=true) (Pu:isB=true->e=iF) (bB:F≠[]) (p:ba) (hp:p≠.outer) :
  ∃ v' aH w',(Builtin.append_ #[t,tx] ty #[V,X]).run P w=.ok v' w'/\aK G base s.H aH w'/\FR L nt aH w' a s/\Ext s.H.length gh w aH w'/\CR aH s.H.length w' p v' (.slice (E++F) true):=by
 simp only[cw,Bool.and_eq_true,Nat.ble_eq] at jd
 obtain⟨⟨⟨ze,iO⟩,hE⟩,_⟩:=jd
 have hFl:0<F.length:=apF.2 bB
 have Dl:PR gh.S w V (.slice E false):=by
  rcases h with h|⟨e',heq,Dl,_⟩
  ·exact (VR.dropped h).iw
  ·injection heq with h1;subst h1;exact Dl
 obtain⟨olds,PJ,YW,IT⟩:=vC (P:=P) (tx:=t) (sz:=sz) Dl (.inl ⟨_,hT.ht⟩) hE
 have PC:olds.length=E.length*sz:=PJ.newsLen
 have dq:=YW.append cN
 have new:∀ ao cap,V=.slice ao E.length cap->cap<E.length+F.length->∃ v' aH w',(Builtin.append_ #[t,tx] ty #[V,X]).run P w=.ok v' w'/\aK G base s.H aH w'/\FR L nt aH w' a s/\Ext s.H.length gh w aH w'/\CR aH s.H.length w' p v' (.slice (E++F) true):=by
  intro ao cap hV aU
  subst hV
  obtain⟨tL,C',cz,jC,IE,FU⟩:=grow (P:=P) (ty:=ty) hT (HJ PJ) PC hs aU iO ze
  have jQ:dJ w (w.drew.alloc (.cells C' e)) (.cells C' e):=.drew w _
  have st:=gT hW jQ hp (fun o=>o<(E++F).length*sz) s.H.length
  have kR:=hW.alloc jQ hp (fun o=>o<(E++F).length*sz) (fun k m hk hc=>by
   rw[cell_of_row _ _ k _ _ _ jQ.new,FU k (by rw[dq.1];exact hk)] at hc
   have:=nH dq oD Pu hk hc
   subst this
   exact⟨C',(0,0),jQ.new⟩)
  have vi:=dq.slice (gh:=gh) rfl jQ (p:=p) hW.mX FU (q:=fun o=>o<(E++F).length*sz) (fun j hj=>hj) tL (by rw[ao6];exact jC)
  refine⟨_,_,_,cz,kR,hF.grown (H':=s.H) (lo':=s.lo) st (fun i=>⟨id,id,fun _=>id⟩) (aoU _),mO hW jQ hp _ _,.inr ⟨E++F,rfl,?_,?_⟩⟩
  ·have e1:E.length+F.length=(E++F).length:=by rw[ao6]
   rw[e1];exact vi
  ·refine⟨w.heap.size,tL,C',e,0,0,sz,by rw[ao6],by simp[Gh.alloc],by simp[bB],jQ.new,IE,dq.2.1,by rw[ao6];exact jC,apZ _,?_⟩
   rintro o ho (hs|⟨_,hs⟩)
   ·have:=hW.mX _ _ hs;omega
   ·omega
 rcases h with h|⟨e',heq,_,b,cap,C,kC,lo,hi,ja,gE,hk,he,hb,hC,hr,hl,hh,hS⟩
 ·cases h with
  | plain _ _ h=>cases h
  | full ao k _ h =>
   have hk:k=E.length:=by cases h with
    | cT=>rfl
    | slice _ _ _ _ _ _ _ hn=>exact hn.symm
   subst hk
   exact new ao E.length rfl (by omega)
 ·injection heq with h1
  subst h1
  by_cases aU:cap<E.length+F.length
  ·exact new _ cap gE aU
  ·subst gE
   have gA:ja=sz:=zb hE hr he
   subst gA
   have nw:E.length+F.length<=cap:=by omega
   have jd:E.length*ja+news.length<=C.size:=by rw[hs.newsLen,hC,<- apy];exact apl _ nw
   have cz:=room (P:=P) (ty:=ty) hT hs hb hh nw jd
   have kW:E.length*ja+news.toArray.size<=C.size:=by simpa using jd
   have hold:∀ o,gh.S b o->(fa C (E.length*ja) news.toArray)[o]?=C[o]?:=by
    intro o ho
    have:o<E.length*ja:=by
     rcases ap7 o (E.length*ja) with h|h
     ·exact h
     ·exact absurd ho (hS o h)
    rw[jr kW,if_neg (by omega)]
   have st:=pa hW hb (cV kW) (fun o=>o<(E++F).length*ja) hold p s.H.length
   have hn:gh.κ b≠.none:=by rw[hk];simp
   have YF:=wY hW hb (cV kW) (fun o=>o<(E++F).length*ja) hold hp hn (by rw[hk];simp) s.H.length
   have UP:∀ j,j<(olds++news).toArray.size->(fa C (E.length*ja) news.toArray)[j]?=(olds++news).toArray[j]?:=by
    intro j hj
    have am3:news.length=F.length*ja:=hs.newsLen
    simp only[aqg,ao6] at hj
    rw[jr kW]
    simp only[ape,aqg]
    rw[apU]
    split
    ·rw[if_neg (by omega),PC]
    ·rename_i jg
     have iL:j<E.length*ja:=by omega
     rw[if_pos (by omega)]
     rcases IT with ⟨_,NF⟩|⟨b2,o2,aeC,hV2,_,s8⟩
     ·exact absurd NF he
     ·injection hV2 with h1 h2 h3
      injection h1 with h1
      injection h1 with h1 h4
      subst h1 h4
      have:=(s8 j iL).2
      rw[Nat.zero_add,cell_of_row w b j C kC _ hb] at this
      exact this
   have PL:∀ k m,k<(E++F).length*ja->(fa C (E.length*ja) news.toArray)[k]?=some (.int .u8 m)->kC=iF:=by
    intro k m hk hc
    rw[UP k (by rw[dq.1];exact hk)] at hc
    refine nH dq oD (fun hB=>?_) hk hc
    subst hB
    cases E with
    | nil=>exact absurd rfl he
    | cons r0 E0 =>
     have NM:∃ m0,r0=[.int .u8 m0]:=by
      have:xg (r0 :: E0++F)=true:=oD
      simp only[xg,apj,List.all_cons,Bool.and_eq_true] at this
      have h1:=this.1
      split at h1
      ·exact⟨_,rfl⟩
      ·cases h1
     obtain⟨m0,rfl⟩:=NM
     rcases IT with ⟨_,NF⟩|⟨b2,o2,aeC,hV2,_,s8⟩
     ·cases NF
     ·injection hV2 with h1 h2 h3
      injection h1 with h1
      injection h1 with h1 h4
      subst h1 h4
      have h5:=hr 0 _ rfl
      simp only[apt] at h5
      obtain⟨v,hv,hp⟩:=YW.2.2 0 0 _ _ rfl rfl
      cases hp
      simp only[ape,aqI,Nat.zero_add] at hv
      have h6:=s8 0 (by simp;omega)
      rw[Nat.zero_add,hv] at h6
      obtain⟨C2,fr2,h7⟩:=hW.bytes _ _ _ h6.1 h6.2
      rw[hb] at h7
      injection h7 with h7
      injection h7
   have kR:=KV hW hb (cV kW) (fun o=>o<(E++F).length*ja) hold PL p hn (by rw[hk];simp)
   have y5:=st
   rw[hk] at st
   have IS:news.length=F.length*ja:=hs.newsLen
   refine⟨_,_,_,cz,kR,hF.grown (H':=s.H) (lo':=s.lo) st (fun i=>⟨by simp,by simp,by simp⟩) (aoU _),YF,.inr ⟨E++F,rfl,?_,?_⟩⟩
   ·rw[<- ao6]
    refine dq.aki st.S st.cell st.mp (setRow_heap w b C _ kC _ hb) (fun j hj=>?_) (fun j hj=>.inr ⟨rfl,hj⟩) cap (by rw[ao6];exact nw)
    simp only[aqg,ao6] at hj
    rw[jr kW]
    simp only[ape,aqg]
    rw[apU]
    split
    ·rw[if_neg (by omega),PC]
    ·rename_i jg
     have iL:j<E.length*ja:=by omega
     rw[if_pos (by omega)]
     rcases IT with ⟨_,NF⟩|⟨b2,o2,aeC,hV2,_,s8⟩
     ·exact absurd NF he
     ·injection hV2 with h1 h2 h3
      injection h1 with h1
      injection h1 with h1 h4
      subst h1 h4
      have:=(s8 j iL).2
      rw[Nat.zero_add,cell_of_row w b j C kC _ hb] at this
      exact this
   ·refine⟨b,cap,_,kC,lo,hi,ja,by rw[ao6],by simp,by simp[he],setRow_heap w b C _ kC _ hb,by rw[cV kW,hC],dq.2.1,by rw[ao6];exact nw,?_,?_⟩
    ·rw[ao6,apy];exact apV hh (Nat.le_add_right _ _)
    ·rintro o ho (qy|⟨_,qy⟩)
     ·exact hS o (by rw[ao6,apy] at ho;omega) qy
     ·omega
end
end
section
section
variable {P:Program}{G:Nat->List AV}{base nt:Nat}{L:List Nat}{gh:Gh}{w w' : World}{a:Act}{s:AS}{H:ah}
theorem Lg(hW:aK G base s.H gh w)(hF:FR L nt gh w a s){t tx ty e:TypeId}{sz bytes:Nat}(hT:vG P t e sz bytes){t0:Nat}{X:Value}{E F:List (List AV)}{news:List Value}
  (h:qA gh w (.bx t0) (fj a t0) E) (hs:Src P sz tx X F.length news w) (cN:ik gh.S w sz news.toArray F) (jd:cw sz bytes E F=true) (d:Option Nat) :
  ∃ v' aH w',(Builtin.append_ #[t,tx] ty #[fj a t0,X]).run P w=.ok v' w'/\aK G base s.H aH w'/\FR L nt aH w' a (s.br t0 .any)/\Ext s.H.length gh w aH w'/\qA aH w' (Hf d) v' (E++F):=by
 simp only[cw,Bool.and_eq_true,Nat.ble_eq] at jd
 obtain⟨⟨⟨ze,iO⟩,hE⟩,hFo⟩:=jd
 have dA:=fun b hb=>hW.bG (gh:=gh) b hb
 have hdo:=tH d
 obtain⟨i,z,hi,_,rfl,_⟩:=hT.hi
 have fL:(fj a t0).oneCell'=true:=by obtain⟨ad,cap,hv,_⟩:=h;rw[hv];rfl
 have ae8:∀ {aH:Gh} {w' : World} {n gen:Nat} {T:aw},SR aH n nt w' T gen (fj a) t0 (fj a t0) .any:=fun {_ _ _ _ _}=>(.inl (.plain _ _ (.any _ fL)):CR _ _ _ _ _ _)
 have stay:FR L nt gh w a (s.br t0 .any):=hF.br (touch:=fun _=>False) (H':=s.H) (lo':=s.lo) (Step.refl _ _ _ _ dA) (aoU _) (fun i _=>⟨id,id,fun _=>id⟩) (.inr rfl) (fun _=>ae8)
 have new:∀ ao cap olds,fj a t0=.slice ao E.length cap->cap<E.length+F.length->Src P i.size t (.slice ao E.length cap) E.length olds w->ik gh.S w i.size olds.toArray E ->
   ∃ v' aH w',(Builtin.append_ #[t,tx] ty #[fj a t0,X]).run P w=.ok v' w'/\aK G base s.H aH w'/\FR L nt aH w' a (s.br t0 .any)/\Ext s.H.length gh w aH w'/\qA aH w' (Hf d) v' (E++F):=by
  intro ao cap olds hV aU PJ YW
  obtain⟨tL,C',cz,jC,IE,FU⟩:=grow (P:=P) (ty:=ty) hT PJ.cellsD PJ.newsLen hs aU iO ze
  have dq:=YW.append cN
  have jQ:dJ w (w.drew.alloc (.cells C' e)) (.cells C' e):=.drew w _
  have st:=gT hW jQ hdo (fun _=>False) s.H.length
  have kR:=hW.alloc jQ hdo (fun _=>False) (fun _ _ h=>h.elim)
  rw[hV]
  have zB:FR L nt (gh.alloc w.heap.size (Hf d) fun _=>False) (w.drew.alloc (.cells C' e)) a (s.br t0 .any) :=
   stay.grown (H':=s.H) (lo':=s.lo) st (fun i=>⟨id,id,fun _=>id⟩) (aoU _)
  refine⟨_,_,_,cz,kR,zB,mO hW jQ hdo _ _,some ⟨w.heap.size,0,none⟩,tL,by rw[ao6],.inr ⟨w.heap.size,C',e,i.size,?_,rfl,by simp[Gh.alloc],?_,jQ.new,IE,by rw[ao6];exact jC,dq.2.1,?_⟩⟩
  ·intro h0
   have:=ari List.length h0
   simp at this
   simp[this] at aU
  ·rintro o (ho|⟨_,ho⟩)
   ·have:=hW.mX _ o ho;omega
   ·exact ho
  ·intro k j r x hk hj
   obtain⟨v,hv,hp⟩:=dq.2.2 k j r x hk hj
   refine⟨v,?_,hp.mono st.S st.cell st.mp⟩
   rw[FU _ (aoY.1 hv).1,hv]
 obtain⟨ao,cap,hV,⟨rfl,afe,FW⟩|⟨b,C,kC,ja,bB,ha,hk,hS,hb,hC,hl,hr,fi⟩⟩:=h
 ·subst afe
  have PJ:Src P i.size t (.slice ao 0 0) 0 [] w:=by
   refine⟨.inl ⟨_,hT.ht⟩,fun _=>rfl,?_,?_,by simp,fun _ h=>by cases h⟩
   ·cases ao with
    | none=>exact run_firstCells_none w _ 0 0 0
    | some ad=>exact run_firstCells_some w _ 0 ad 0 0 [] (by simp) (fun j v h=>by simp at h)
   ·cases ao with
    | none=>exact run_firstCells_none w.drew _ 0 0 0
    | some ad=>exact run_firstCells_some w.drew _ 0 ad 0 0 [] (by simp) (fun j v h=>by simp at h)
  cases F with
  | nil =>
   have hn:news=[]:=by have:=hs.newsLen;simp at this;exact this
   subst hn
   refine⟨_,gh,w,?_,hW,stay,Ext.refl _ _ _ dA,ao,0,rfl,.inl ⟨rfl,rfl,FW⟩⟩
   rw[hV]
   exact run_append_nothing w t tx ty e i hT.ht hi ao 0 0 (aoU _) X hs
  | cons f F=>exact new ao 0 [] hV (by simp) PJ ⟨by simp,fun i r h=>by simp at h,fun i j r x h=>by simp at h⟩
 ·subst ha
  have gA:ja=i.size:=zb hE hr bB
  subst gA
  have hEC:E.length*i.size<=C.size:=by rw[hC];exact apl _ hl
  have ug:(C.toList.take (E.length*i.size)).length=E.length*i.size:=by simp;omega
  have YW:ik gh.S w i.size (C.toList.take (E.length*i.size)).toArray E:=by
   refine⟨by simp;omega,hr,fun k j r x hk hj=>?_⟩
   obtain⟨u,hu,hp⟩:=fi k j r x hk hj
   refine⟨u,?_,hp⟩
   have h1:=(aoR.1 hk).1
   have h2:j<i.size:=by rw[<- hr k r hk];exact (aoR.1 hj).1
   simp only[ape,apa,if_pos (tp h1 h2)]
   simpa using hu
  have PD:∀ u∈C.toList.take (E.length*i.size),u.oneCell'=true:=by
   intro u hu
   obtain⟨k,hk⟩:=apw hu
   have aU:k<E.length*i.size:=by rw[<- ug];exact (aoR.1 hk).1
   obtain⟨h1,h2,h3⟩:=rB aU
   have NM:=aoT h1
   have qY:=aoT (show k % i.size<E[k / i.size].length by rw[hr _ _ NM];exact h2)
   obtain⟨u',PM,hp⟩:=YW.2.2 _ _ _ _ NM qY
   rw[h3] at PM
   simp only[ape] at PM
   rw[hk] at PM
   injection PM with PM
   subst PM
   exact hp.dX
  have cL:∀ j u,(C.toList.take (E.length*i.size))[j]?=some u->w.cell? ((⟨b,0,none⟩:Addr).add j)=some u:=by
   intro j u hj
   rw[gv,Nat.zero_add,cell_of_row w b j C kC _ hb]
   rw[apa] at hj
   split at hj
   ·simpa using hj
   ·cases hj
  have PJ:Src P i.size t (.slice (some ⟨b,0,none⟩) E.length cap) E.length (C.toList.take (E.length*i.size)) w:=.ofSlice w hT.ht ⟨b,0,none⟩ E.length cap _ ug cL PD
  by_cases aU:cap<E.length+F.length
  ·exact new _ cap _ hV aU PJ YW
  ·have nw:E.length+F.length<=cap:=by omega
   have jd:E.length*i.size+news.length<=C.size:=by rw[hs.newsLen,hC,<- apy];exact apl _ nw
   have cz:=room (P:=P) (ty:=ty) hT hs hb (apZ _) nw jd
   have kW:E.length*i.size+news.toArray.size<=C.size:=by simpa using jd
   have jg:∀ o,gh.S b o->(fa C (E.length*i.size) news.toArray)[o]?=C[o]?:=fun o ho=>(hS o ho).elim
   have st:=pa hW hb (cV kW) (fun _=>False) jg (Hf d) s.H.length
   have hn:gh.κ b≠.none:=by rw[hk];simp
   have YF:=wY hW hb (cV kW) (fun _=>False) jg hdo hn (by rw[hk];simp) s.H.length
   have kR:=KV hW hb (cV kW) (fun _=>False) jg (fun _ _ h=>h.elim) (Hf d) hn (by rw[hk];simp)
   rw[hk] at st
   have zB:=hF.br (t:=t0) (X:=.any) (H':=s.H) (lo':=s.lo) st (aoU _) (fun i hi=>⟨by simpa using hi,by simp,by simp⟩) (.inr rfl) (fun _=>ae8)
   rw[hV]
   have dq:=YW.append cN
   refine⟨_,_,_,cz,kR,zB,YF,some ⟨b,0,none⟩,cap,by rw[ao6],.inr ⟨b,_,kC,i.size,by simp[bB],rfl,by simp,?_,setRow_heap w b C _ kC _ hb,by rw[cV kW,hC],by rw[ao6];exact nw,dq.2.1,?_⟩⟩
   ·rintro o (ho|⟨_,ho⟩)
    ·exact hS o ho
    ·exact ho
   ·intro k j r x iV hj
    obtain⟨v,hv,hp⟩:=dq.2.2 k j r x iV hj
    refine⟨v,?_,hp.mono st.S st.cell st.mp⟩
    rw[jr kW]
    simp only[ape,aqg] at hv ⊢
    rw[apU,ug] at hv
    have IS:news.length=F.length*i.size:=hs.newsLen
    split at hv
    ·rename_i h1
     rw[if_neg (by omega)]
     rw[apa,if_pos h1] at hv
     simpa using hv
    ·rename_i h1
     have h2:=(aoR.1 hv).1
     rw[if_pos (by omega)]
     exact hv
theorem sh(hW:aK G base s.H gh w)(hF:FR L nt gh w a s){x:Operand}{y:an}(hc:ak nt x=some y){sz:Nat}{f:List (List AV)}(he:dQ sz (y.eval G s.T)=some f)(hh:fR sz f=true){tx:TypeId}
  (hk:(∃ e',P.underlying tx=some (.slice e'))\/P.underlying tx=some .string):∃ news,Src P sz tx (a.eval x) f.length news w/\ik gh.S w sz news.toArray f:=by
 generalize hY:y.eval G s.T=Y at he
 cases Y<;>simp only[dQ] at he<;>try (cases he;done)
 ·rename_i l
  obtain⟨h0,h1⟩:=ab he
  have h0:sz=1:=by simpa [dR] using h0
  subst h0
  injection h1 with h1
  subst h1
  obtain⟨q,hq,hl⟩:=(bY hW hF hc hY rfl).jF
  rw[hq,ao']
  exact Ye hl hk
 ·rename_i el own
  injection he with he
  subst he
  obtain⟨news,h1,h2,_⟩:=vC (P:=P) (tx:=tx) (sz:=sz) (bY hW hF hc hY rfl).iw hk hh
  exact⟨news,h1,h2⟩
 ·injection he with he
  subst he
  rw[(bY hW hF hc hY rfl).kq]
  obtain⟨news,h1,h2,_⟩:=vC (P:=P) (tx:=tx) (sz:=sz) (PR.cT (S:=gh.S) (w:=w)) hk hh
  exact⟨news,h1,h2⟩
theorem fS{o:Oper}{c:Call}{x y:Operand}{t u:TypeId}(ho:o.op=.call c)(gf:c.callee=.builtin .append)(dy:c.args.toList=[x,y])(jl:c.argTypes.toList=[t,u]){v:Value}
  (cz:(Builtin.append_ #[t,u] o.type #[a.eval x,a.eval y]).run P w=.ok v w'):(execOp a.eval o).run P w=.ok (.value v) w':=by
 have e1:c.args=#[x,y]:=by apply aqU;simpa using dy
 have e2:c.argTypes=#[t,u]:=by apply aqU;simpa using jl
 unfold execOp
 simp only[ho,resolve,gf,e1,e2,invoke,builtin,Sem.run_bind,Sem.run_pure,Result.andThen_ok,aqX,apm,apz,cz]
theorem G3{S:Nat->Nat->Prop}{V:Value}{e:List (List AV)}(h:PR S w V (.slice e false)):∃ ao cap,V=.slice ao e.length cap/\e.length<=cap:=by
 cases h with
 | cT=>exact⟨none,0,rfl,aoU _⟩
 | slice b o n cap sz _ _ hn jC=>subst hn;exact⟨_,cap,rfl,jC⟩
theorem LV(hW:aK G base s.H gh w)(hF:FR L nt gh w a s){o:Oper}{c:Call}{x y:Operand}{t u e:TypeId}{sz bytes:Nat}{yx yy:an}{isB wr:Bool}{z:AV}{s' : Option AS}
  (ho:o.op=.call c) (gf:c.callee=.builtin .append) (dy:c.args.toList=[x,y]) (jl:c.argTypes.toList=[t,u]) (hT:vG P t e sz bytes) (Pu:isB=true->e=iF) (hu:(∃ e',P.underlying u=some (.slice e'))\/P.underlying u=some .string)
  (mz:ak nt x=some yx) (vU:ak nt y=some yy) (he:fe G s isB wr sz bytes yx yy=some (z,s')) (hd:∀ k,o.dst=some k->k<nt) (hL:wr=true->∀ k,o.dst=some k->k∈L) :
  ∃ v' aH w',sm P a o w v' w'/\Out G base nt L gh w a s o.dst z (s'.getD s) v' aH w':=by
 have dA:=fun b hb=>hW.bG (gh:=gh) b hb
 have core:∀ (s1:AS) (jP:Gh) (el:List (List AV)) (own:Bool),s1.H=s.H->aK G base s1.H jP w->FR L nt jP w a s1->Ext s.H.length gh w jP w->(∀ b o,gh.S b o->jP.S b o) ->
   CR jP s1.H.length w .ret (a.eval x) (.slice el own)->bw isB sz bytes (.slice el own) (yy.eval G s.T)=some z ->
   ∃ v' aH w',sm P a o w v' w'/\Out G base nt L gh w a s o.dst z s1 v' aH w':=by
  intro s1 jP el own hH oC vT Ay afL kD jS
  simp only[bw,aoP] at jS
  obtain⟨f,hf,jS⟩:=jS
  cases f with
  | nil =>
   simp only[aoQ] at jS
   subst jS
   obtain⟨news,hs,hr⟩:=sh (P:=P) hW hF vU hf rfl hu
   have hn:news=[]:=by have:=hs.newsLen;simp at this;exact this
   subst hn
   obtain⟨Cl,Cn,IF,xW,Pf⟩:=kD.given oC vT (Np o.dst) (mM _)
   obtain⟨ao,cap,hV,hle⟩:=G3 (w:=w) (kD.dropped).iw
   obtain⟨i,z,hi,_,rfl,_⟩:=hT.hi
   refine⟨a.eval x,Cl,w,.inl (fS ho gf dy jl ?_),Out.of (s1:=s1) (gen':=s1.gen) Cn IF (Ay.trans xW (by rw[hH];exact aoU _)) (aoU _) hd (.inl rfl) (fun k hk=>?_)⟩
   ·rw[hV]
    exact run_append_nothing w t u o.type e i hT.ht hi ao _ cap hle _ hs
   ·rw[hk] at Pf
    exact Pf
  | cons f0 fr =>
   obtain⟨h0,jS⟩:=ab jS
   injection jS with jS
   subst jS
   simp only[Bool.and_eq_true] at h0
   obtain⟨⟨rfl,jd⟩,oD⟩:=h0
   have hh:fR sz (f0 :: fr)=true:=by simp only[cw,Bool.and_eq_true] at jd;exact jd.2
   obtain⟨news,hs,hr⟩:=sh (P:=P) hW hF vU hf hh hu
   have hr1:ik jP.S w sz news.toArray (f0 :: fr):=⟨hr.1,hr.2.1,fun i j r x hi hj=>by
    obtain⟨v,hv,hp⟩:=hr.2.2 i j r x hi hj
    exact⟨v,hv,hp.mono afL (fun _ _ _=>rfl) (fun _ _ _ _ h=>h)⟩⟩
   obtain⟨v',Cl,w2,cz,Cn,IF,xW,Pf⟩:=HB (P:=P) (ty:=o.type) oC vT hT kD hs hr1 jd oD Pu (by simp) (Np o.dst) (mM _)
   refine⟨v',Cl,w2,.inl (fS ho gf dy jl cz),Out.of (s1:=s1) (gen':=s1.gen) Cn IF (Ay.trans xW (by rw[hH];exact aoU _)) (aoU _) hd (.inl rfl) (fun k hk=>?_)⟩
   rw[hk] at Pf
   exact Pf
 have Tj:∀ (t0:Nat) (el f:List (List AV)),x=.tmp t0->t0<nt->qA gh w (.bx t0) (fj a t0) el->dQ sz (yy.eval G s.T)=some f->cw sz bytes el f=true->wr=true ->
   ∃ v' aH w',sm P a o w v' w'/\Out G base nt L gh w a s o.dst (.lsl s.gen (el++f)) { s.br t0 .any with gen:=s.gen+1 } v' aH w':=by
  intro t0 el f hx ht bE hf jd Ds
  have hh:fR sz f=true:=by simp only[cw,Bool.and_eq_true] at jd;exact jd.2
  obtain⟨news,hs,hr⟩:=sh (P:=P) hW hF vU hf hh hu
  obtain⟨v',Cl,w2,cz,Cn,IF,xW,YY⟩:=Lg (P:=P) (ty:=o.type) hW hF hT bE hs hr jd o.dst
  have hxe:a.eval x=fj a t0:=by rw[hx];rfl
  refine⟨v',Cl,w2,.inl (fS ho gf dy jl (by rw[hxe];exact cz)),Out.of (s1:=s.br t0 .any) (gen':=s.gen+1) Cn IF xW (apH _) hd (.inr ⟨⟨s.gen,aoU _,rfl⟩,hL Ds⟩) (fun k hk=>⟨aqH _,?_⟩)⟩
  rw[hk] at YY
  exact YY
 cases yx with
 | tmp t0 =>
  obtain⟨rfl,ht⟩:=gK mz
  simp only[fe] at he
  split at he
  ·rename_i g el FL
   simp only[aoP] at he
   obtain⟨f,hf,he⟩:=he
   obtain⟨h0,he⟩:=ab he
   simp only[aoQ,aoS] at he
   obtain⟨rfl,rfl⟩:=he
   simp only[Bool.and_eq_true] at h0
   exact Tj t0 el f rfl ht (nI hF ht FL) hf h0.2 h0.1
  ·rename_i el own FL
   cases Ds:wr with
   | true =>
    rw[Ds] at he
    simp only[cond_true,aoP] at he
    obtain⟨f,hf,he⟩:=he
    obtain⟨h0,he⟩:=ab he
    simp only[aoQ,aoS] at he
    obtain⟨rfl,rfl⟩:=he
    simp only[Bool.and_eq_true,List.isEmpty_iff] at h0
    obtain⟨⟨rfl,rfl⟩,jd⟩:=h0
    have kD:=Bw hF ht FL
    have bE:qA gh w (.bx t0) (fj a t0) []:=by
     rcases kD with h|⟨e',heq,_,b,cap,C,ty,lo,hi,ja,gE,hk,bB,_⟩
     ·change VR gh s.H.length w (fj a t0) _ at h
      generalize fj a t0=V at h
      cases h with
      | plain _ _ h=>cases h
      | full ao k _ h hz =>
       cases h with
       | cT=>exact⟨none,0,rfl,.inl ⟨rfl,rfl,fun ad h=>by cases h⟩⟩
       | slice b o _ _ ja _ _ hn =>
        simp at hn
        subst hn
        exact⟨_,0,rfl,.inl ⟨rfl,rfl,fun ad h=>⟨by injection h with h;subst h;rfl,trivial⟩⟩⟩
     ·injection heq with h1;subst h1;exact absurd rfl bB
    exact Tj t0 [] f rfl ht bE hf jd Ds
   | false =>
    rw[Ds] at he
    simp only[aoZ,aoO,aoS] at he
    obtain⟨z',jS,rfl,rfl⟩:=he
    obtain⟨jP,oC,vT,Ay,K0,kD⟩:=rq hW hF ht FL .ret (by simp)
    exact core (s.br t0 (.slice el false)) jP el own rfl oC vT Ay K0.S kD jS
  ·rename_i FL
   cases Ds:wr with
   | true =>
    rw[Ds] at he
    simp only[cond_true,aoP] at he
    obtain⟨f,hf,he⟩:=he
    obtain⟨h0,he⟩:=ab he
    simp only[aoQ,aoS] at he
    obtain⟨rfl,rfl⟩:=he
    have hv:=(bY hW hF mz (show (an.tmp t0).eval G s.T=.ae from FL) rfl).kq
    exact Tj t0 [] f rfl ht ⟨none,0,hv,.inl ⟨rfl,rfl,fun ad h=>by cases h⟩⟩ hf h0 Ds
   | false =>
    rw[Ds] at he
    simp only[aoZ,aoO,aoS] at he
    obtain⟨z',jS,rfl,rfl⟩:=he
    have hv:=(bY hW hF mz (show (an.tmp t0).eval G s.T=.ae from FL) rfl).kq
    exact core s gh [] true rfl hW hF (Ext.refl _ _ _ dA) (fun _ _ h=>h) (.inl (by rw[hv];exact .full none 0 [] .cT trivial)) jS
  ·cases he
 | cg v =>
  simp only[fe] at he
  cases Ds:wr with
  | true=>rw[Ds] at he;cases he
  | false =>
   rw[Ds] at he
   simp only[aoZ,aoO,aoS] at he
   obtain⟨z',jS,rfl,rfl⟩:=he
   simp only[an.eval] at jS
   cases v<;>simp only[bw] at jS<;>try (cases jS;done)
   rename_i el own
   have hv:VR gh s.H.length w (a.eval x) (.slice el own):=by
    cases x with
    | tmp k =>
     simp only[ak] at mz
     rcases apE (Nat.blt k nt) with hb|hb<;>rw[hb] at mz<;>simp at mz
    | const u =>
     simp only[ak,aoO] at mz
     obtain⟨zz,hz,h⟩:=mz
     injection h with h
     subst h
     exact iD hz
    | global g=>simp[ak] at mz
    | func f=>simp[ak] at mz
   exact core s gh el own rfl hW hF (Ext.refl _ _ _ dA) (fun _ _ h=>h) (.inl hv) jS
 | aN g =>
  simp only[fe] at he
  cases Ds:wr with
  | true=>rw[Ds] at he;cases he
  | false =>
   rw[Ds] at he
   simp[an.eval,bw] at he
 | fn f =>
  simp only[fe] at he
  cases Ds:wr with
  | true=>rw[Ds] at he;cases he
  | false =>
   rw[Ds] at he
   simp[an.eval,bw] at he
end
end
section
def clean(gh:Gh):Prop:=∀ b,gh.κ b=.none\/gh.κ b=.outer\/(∃ l,gh.κ b=.hb l)\/(∃ l j,gh.κ b=.hs l j)\/∃ j,gh.κ b=.par j
def gJ(p:ba):Prop:=(∃ l,p=.hb l)\/(∃ l j,p=.hs l j)\/∃ j,p=.par j
def oy(H:ah):Option fQ->ah
 | none=>H
 | some c=>c.heap
structure lG (G:Nat->List AV) (base:Nat) (H:ah) (gh:Gh) (w:World) (r:AV) (c:Option fQ) (v:Value) (aH:Gh) (w' : World):Prop where
 len:H.length<=(oy H c).length
 W:aK G base (oy H c) aH w'
 st:Step gJ H.length gh w aH w'
 out:∀ b,aH.κ b=.outer->gh.κ b=.outer
 val:CR aH (oy H c).length w' .ret v r
def jI(H:ah)(c:Option fQ):Prop:=H.length<=(oy H c).length/\∀ c',c=some c'->c'.lo<=H.length/\∀ l,l<c'.lo->c'.heap[l]?=H[l]?
def cP(P:Program)(G:Nat->List AV)(cf:cu):Prop :=
 ∀ f args H r c,cf f args H=some (r,c)->(∃ fn,P.funcs[f]?=some fn/\fn.body.isSome=true/\fn.name≠ "runtime.NumGoroutine")/\jI H c /\
  ∀ (base:Nat) (gh:Gh) (w:World) (vs:Array Value),aK G base H gh w->clean gh->vs.size=args.length->(∀ (j:Nat) (v:Value) (x:AV),vs[j]?=some v->args[j]?=some x->CR gh H.length w (.par j) v x) ->
   Calls P f vs w fun e w'=>∃ v aH,e=.returned v/\lG G base H gh w r c v aH w'
section
variable {P:Program}{G:Nat->List AV}{base nt:Nat}{L:List Nat}{gh:Gh}{w w' : World}{a:Act}{s:AS}{H:ah}
def dV:ba->Bool
 | .bx _|.sl _|.sc ..|.ret=>true
 | _=>false
def Gh.qT(gh:Gh):Gh:={ gh with κ:=fun b=>bif dV (gh.κ b) then .outer else gh.κ b }
theorem IN(gh:Gh):clean gh.qT:=by
 intro b
 simp only[Gh.qT]
 cases h:gh.κ b<;>simp[dV]
theorem AB(hW:aK G base H gh w)(n:Nat):Step (fun p=>dV p=true) n gh w gh.qT w:=by
 refine⟨fun _ _ h=>h,fun _ _ _=>rfl,aoU _,rfl,rfl,rfl,fun b hb hn=>⟨.inl rfl,?_,fun _ h=>h⟩,fun b hb=>?_,fun _ _=>rfl,fun _ _ _ h=>h,fun _ _ _ _ h=>h⟩
 ·simp only[Gh.qT]
  cases h:dV (gh.κ b)
  ·rfl
  ·exact absurd h hn
 ·simp only[Gh.qT,hW.fresh b hb]
  simp[dV]
theorem aau(hW:aK G base H gh w):aK G base H gh.qT w:=by
 refine hW.step (AB hW H.length) (fun l=>⟨by simp[dV],by simp[dV]⟩) hW.mX (fun b hb=>hW.ow b fun h=>hb ?_) (fun _ _ _ h=>.inl h)
 simp[Gh.qT,h,dV]
def Gh.back(gh aH:Gh):Gh:={ aH with κ:=fun b=>bif dV (gh.κ b) then gh.κ b else aH.κ b }
theorem Oa(hW:aK G base H gh w){r:AV}{c:Option fQ}{v:Value}{aH:Gh}(h:lG G base H gh.qT w r c v aH w') :
  aK G base (oy H c) (gh.back aH) w'/\Step gJ H.length gh w (gh.back aH) w'/\Ext H.length gh w (gh.back aH) w'/\CR (gh.back aH) (oy H c).length w' .ret v r:=by
 have qW:∀ b,dV (gh.κ b)=true->aH.κ b=.outer:=by
  intro b hb
  have aU:b<w.heap.size:=(hW.ow b (by intro h0;rw[h0] at hb;cases hb)).2
  have:=(h.st.zi b aU (by simp[Gh.qT,hb,gJ])).2.1
  rw[this]
  simp[Gh.qT,hb]
 have ahg:Step (fun p=>p=.outer) (oy H c).length aH w' (gh.back aH) w':=by
  refine⟨fun _ _ h=>h,fun _ _ _=>rfl,aoU _,rfl,rfl,rfl,fun b hb hn=>⟨.inl rfl,?_,fun _ h=>h⟩,fun b hb=>?_,fun _ _=>rfl,fun _ _ _ h=>h,fun _ _ _ _ h=>h⟩
  ·simp only[Gh.back]
   cases hs:dV (gh.κ b)
   ·rfl
   ·exact absurd (qW b hs) hn
  ·simp only[Gh.back]
   have fP:w.heap.size<=b:=apV h.st.size hb
   rw[hW.fresh b fP]
   simp only[dV,aoZ]
   exact h.st.fresh b fP
 have hlen:=h.len
 have uT:Step gJ H.length gh w (gh.back aH) w':=by
  refine⟨h.st.S,h.st.cell,h.st.size,h.st.os,h.st.tape,h.st.output,fun b hb hn=>?_,fun b hb=>?_,h.st.ρ,h.st.len,h.st.mp⟩
  ·cases hs:dV (gh.κ b) with
   | true =>
    have:=h.st.zi b hb (by simp[Gh.qT,hs,gJ])
    exact⟨this.1,by simp[Gh.back,hs],this.2.2⟩
   | false =>
    have e1:gh.qT.κ b=gh.κ b:=by simp[Gh.qT,hs]
    have:=h.st.zi b hb (by rw[e1];exact hn)
    exact⟨this.1,by simp only[Gh.back,hs,aoZ];rw[this.2.1,e1],this.2.2⟩
  ·simp only[Gh.back]
   rw[hW.fresh b hb]
   simp only[dV,aoZ]
   exact h.st.fresh b hb
 refine⟨h.W.step ahg (fun l=>⟨by simp,by simp⟩) h.W.mX (fun b hb=>?_) (fun _ _ _ h=>.inl h),uT,⟨uT.mono (fun p hp=>?_),fun b hb=>?_⟩,h.val.mono ahg (aoU _) (by simp)⟩
 ·simp only[Gh.back] at hb
  cases hs:dV (gh.κ b) with
  | true =>
   have:=hW.ow b (by intro h0;rw[h0] at hs;cases hs)
   have:=h.st.size
   omega
  | false =>
   rw[hs] at hb
   exact h.W.ow b hb
 ·rcases hp with ⟨l,rfl⟩|⟨l,j,rfl⟩|⟨j,rfl⟩<;>simp[pg]
 ·simp only[Gh.back] at hb
  cases hs:dV (gh.κ b) with
  | true =>
   rw[hs] at hb
   simp only[cond_true] at hb
   rw[hb] at hs
   cases hs
  | false =>
   rw[hs] at hb
   have:=h.out b hb
   simpa [Gh.qT,hs] using this
theorem CR.Z8(hW:aK G base s.H gh w)(hF:FR L nt gh w a s){v:Value}{x:AV}(h:CR gh s.H.length w .ret v x)(p:ba)(hp:p≠.outer) :
  ∃ aH,aK G base s.H aH w/\FR L nt aH w a s/\Ext s.H.length gh w aH w/\CR aH s.H.length w p v x:=by
 rcases h with h|⟨e,rfl,h⟩
 ·exact⟨gh,hW,hF,Ext.refl _ _ _ (fun b hb=>hW.bG b hb),.inl h⟩
 ·exact CR.given hW hF (.inr ⟨e,rfl,h⟩) p hp
theorem jj{n:Nat}{v:Value}{x:AV}(h:VR gh n w v x.drop):VR gh n w v x.aX:=by
 cases x<;>first|exact h|skip
 rename_i cs
 exact VR.xB (h:VR gh n w v (.agg cs))
theorem z7{cf:cu}(iu:cP P G cf)(hW:aK G base s.H gh w)(hF:FR L nt gh w a s){o:Oper}{f:FuncId}{vs:Array Value}{args:List AV}{r:AV}{ch:Option fQ}
  (he:cf f args s.H=some (r,ch)) (po:vs.size=args.length) (cr:∀ (j:Nat) (v:Value) (x:AV),vs[j]?=some v->args[j]?=some x->CR gh s.H.length w (.par j) v x)
  (cz:(∃ fn,P.funcs[f]?=some fn/\fn.body.isSome=true/\fn.name≠ "runtime.NumGoroutine")->(execOp a.eval o).run P w=.ok (.enter f vs) w) (hd:∀ k,o.dst=some k->k<nt) (K:Act->World->Prop) (Q:Exit->Act->World->Prop)
  (hK:∀ v' aH w',Out G base nt L gh w a s o.dst r ((ch.map s.fp).getD s) v' aH w'->K (a.put o.dst v') w'):o.wp P a w K Q:=by
 obtain⟨sq,_,FM⟩:=iu f _ _ _ _ he
 have uT:=AB hW s.H.length
 have hC:=FM base gh.qT w vs (aau hW) (IN gh) po (fun j v x hv hx=>(cr j v x hv hx).mono uT (aoU _) (by simp[dV]))
 unfold Oper.wp
 rw[cz sq,Oper.upon_enter]
 refine hC.mono ?_
 rintro e w2 ⟨v,aH,rfl,hR⟩
 obtain⟨Cn,UQ,xW,UT⟩:=Oa hW hR
 have YQ:=hR.len
 have key:∀ s1:AS,s1.H=oy s.H ch->FR L nt (gh.back aH) w2 a s1->∃ Z7,Out G base nt L gh w a s o.dst r s1 v Z7 w2:=by
  intro s1 AL vT
  obtain⟨Z7,hW3,hF3,hE3,hv3⟩:=CR.Z8 (by rw[AL];exact Cn) vT (by rw[AL];exact UT) (Np o.dst) (mM _)
  refine⟨Z7,Out.of (s1:=s1) (gen':=s1.gen) hW3 hF3 (xW.trans hE3 (by rw[AL];exact YQ)) (aoU _) hd (.inl (iN hv3.al)) (fun k hk=>?_)⟩
  rw[hk] at hv3
  exact lx hv3.al hv3
 cases ch with
 | none =>
  obtain⟨Z7,hO⟩:=key s rfl (hF.grown (H':=s.H) (lo':=s.lo) UQ (fun i=>⟨by simp[gJ],by simp[gJ],by simp[gJ]⟩) (aoU _))
  exact hK v Z7 w2 hO
 | some c' =>
  obtain⟨Z7,hO⟩:=key (s.fp c') rfl (hF.grown UQ (fun i=>⟨by simp[gJ],by simp[gJ],by simp[gJ]⟩) YQ)
  exact hK v Z7 w2 hO
theorem T8{cf:cu}(iu:cP P G cf)(hW:aK G base s.H gh w)(hF:FR L nt gh w a s){o:Oper}{c:Call}{fx:Operand}{yf:an}{ys:List an}{f:FuncId}{fs cs:List AV}{r:AV}{ch:Option fQ}
  (ho:o.op=.call c) (gf:c.callee=.value fx) (mz:ak nt fx=some yf) (vU:iM nt c.args.toList=some ys) (aat:yf.eval G s.T=.func (.func f) fs cs) (Co:(ys.map fun y=>y.addr G s.T).all al=true)
  (he:cf f (fs++ys.map (fun y=>(y.addr G s.T).aX)++cs) s.H=some (r,ch)) (hd:∀ k,o.dst=some k->k<nt) (K:Act->World->Prop) (Q:Exit->Act->World->Prop)
  (hK:∀ v' aH w',Out G base nt L gh w a s o.dst r ((ch.map s.fp).getD s) v' aH w'->K (a.put o.dst v') w'):o.wp P a w K Q:=by
 have hfv:=bY hW hF mz aat rfl
 obtain⟨us,ts,hfe,qw,ig,h1,h2⟩:=hfv.rb
 have dy:=Bx hW hF vU Co
 have hlen:=(jy vU).1
 let vs:Array Value:=us++c.args.map a.eval++ts
 have po:vs.size=(fs++ys.map (fun y=>(y.addr G s.T).aX)++cs).length:=by
  simp[vs,qw,ig] at hlen ⊢
  omega
 have cr:∀ (j:Nat) (v:Value) (x:AV),vs[j]?=some v->(fs++ys.map (fun y=>(y.addr G s.T).aX)++cs)[j]?=some x->VR gh s.H.length w v x:=by
  intro j v x hv hx
  have Md:(c.args.map a.eval).size=ys.length:=by simpa using hlen
  simp only[vs,Array.getElem?_append,Array.size_append] at hv
  simp only[apU,ao6,ao'] at hx
  rw[qw,Md] at hv
  split at hv
  ·rename_i c1
   rw[if_pos c1] at hx
   split at hv
   ·rename_i c2
    rw[if_pos c2] at hx
    exact h1 j v x hv hx
   ·rename_i c2
    rw[if_neg c2] at hx
    simp only[ao1,aoO] at hx
    obtain⟨y,hy,rfl⟩:=hx
    refine jj (dy (j-fs.length) v _ ?_ ?_)
    ·rw[<- ara,aps];exact hv
    ·simp only[ao1,hy,Option.map_some]
  ·rename_i c1
   rw[if_neg c1] at hx
   exact h2 _ v x hv hx
 refine z7 iu hW hF he po (fun j v x hv hx=>.inl (cr j v x hv hx)) ?_ hd K Q hK
 rintro ⟨fn,sq,lN,Pz⟩
 unfold execOp
 cases hb:fn.body with
 | none=>rw[hb] at lN;cases lN
 | some code =>
  simp[ho,resolve,gf,hfe,Deferred.ofValue,invoke,callFunc,sq,Pz,hb,vs]
theorem OT{cf:cu}(iu:cP P G cf)(hW:aK G base s.H gh w)(hF:FR L nt gh w a s){o:Oper}{c:Call}{f:FuncId}{pre post:List an}{x:an}{r:AV}{ch:Option fQ}{xv:AV}{s1:AS}
  (ho:o.op=.call c) (gf:c.callee=.value (.func f)) (vU:iM nt c.args.toList=some (pre++x :: post)) (ai1:(pre.map fun y=>y.addr G s.T).all al=true) (ai2:(post.map fun y=>y.addr G s.T).all al=true)
  (hx:Ax s x=some (xv,s1)) (he:cf f (pre.map (fun y=>(y.addr G s.T).aX)++xv :: post.map (fun y=>(y.addr G s.T).aX)) s.H=some (r,ch)) (hd:∀ k,o.dst=some k->k<nt) (K:Act->World->Prop) (Q:Exit->Act->World->Prop)
  (hK:∀ v' aH w',Out G base nt L gh w a s o.dst r ((ch.map s1.fp).getD s1) v' aH w'->K (a.put o.dst v') w'):o.wp P a w K Q:=by
 obtain⟨hlen,nX⟩:=jy vU
 have dA:∀ b,w.heap.size<=b->gh.κ b≠.outer:=fun b hb=>hW.bG b hb
 have ma:∃ jP,s1.H=s.H/\aK G base s1.H jP w/\FR L nt jP w a s1/\Ext s.H.length gh w jP w/\(∃ tc,Step tc s.H.length gh w jP w)/\∀ y,ak nt y=some x->CR jP s.H.length w (.par pre.length) (a.eval y) xv:=by
  unfold Ax at hx
  split at hx
  ·rename_i t
   split at hx
   ·rename_i el own hT
    simp only[aoQ,aoS] at hx
    obtain⟨rfl,rfl⟩:=hx
    have amY:=nX pre.length
    have ht:t<nt:=by
     have hl:pre.length<c.args.toList.length:=by rw[hlen];simp
     have:=nX pre.length _ _ (aoT hl) (by simp:(pre++an.tmp t :: post)[pre.length]?=some (an.tmp t))
     exact (gK this).2
    obtain⟨jP,oC,vT,Ay,K0,kD⟩:=rq hW hF ht hT (.par pre.length) (by simp)
    refine⟨jP,rfl,oC,vT,Ay,⟨_,K0⟩,fun y hy=>?_⟩
    obtain⟨rfl,_⟩:=gK hy
    exact kD
   ·cases hx
  ·split at hx
   ·simp only[aoQ,aoS] at hx
    obtain⟨rfl,rfl⟩:=hx
    refine⟨gh,rfl,hW,hF,Ext.refl _ _ _ dA,⟨fun _=>False,Step.refl _ _ _ _ dA⟩,fun y hy=>?_⟩
    cases y with
    | tmp k =>
     simp only[ak] at hy
     rcases apE (Nat.blt k nt) with hb|hb<;>rw[hb] at hy<;>simp at hy
    | const u =>
     simp only[ak,aoO] at hy
     obtain⟨zz,hz,h⟩:=hy
     injection h with h
     subst h
     exact .inl (iD hz)
    | global g=>simp[ak] at hy
    | func f=>simp[ak] at hy
   ·cases hx
  ·cases hx
 obtain⟨jP,hsH,oC,vT,Ay,⟨tc,K0⟩,hxv⟩:=ma
 have alh:∀ (j:Nat) (y:Operand) (z:an),c.args.toList[j]?=some y->(pre++x :: post)[j]?=some z->ak nt y=some z:=fun j y z h1 h2=>nX j y z h1 h2
 let vs:Array Value:=c.args.map a.eval
 have po:vs.size=(pre.map (fun y=>(y.addr G s.T).aX)++xv :: post.map (fun y=>(y.addr G s.T).aX)).length:=by
  have:c.args.size=(pre++x :: post).length:=by simpa using hlen
  simp[vs,this]
 have old:∀ (j:Nat) (y:Operand) (z:an),c.args.toList[j]?=some y->(pre++x :: post)[j]?=some z->al (z.addr G s.T)=true->VR jP s.H.length w (a.eval y) (z.addr G s.T).aX:=by
  intro j y z h1 h2 h3
  have:=mD hW hF (nX j y z h1 h2) rfl h3
  exact (jj this).mono K0 (aoU _)
 have cr:∀ (j:Nat) (v:Value) (y:AV),vs[j]?=some v->(pre.map (fun y=>(y.addr G s.T).aX)++xv :: post.map (fun y=>(y.addr G s.T).aX))[j]?=some y->CR jP s1.H.length w (.par j) v y:=by
  intro j v y hv hy
  rw[hsH]
  simp only[vs,arj,aoO] at hv
  obtain⟨op,cy,rfl⟩:=hv
  have aaH:c.args.toList[j]?=some op:=by rw[aps];exact cy
  rcases aqo j pre.length with h|h|h
  ·rw[ao7 (by simpa using h)] at hy
   simp only[ao1,aoO] at hy
   obtain⟨z,hz,rfl⟩:=hy
   exact .inl (old j op z aaH (by rw[ao7 h];exact hz) (aoV.1 ai1 _ (apu.2 ⟨z,ao0 hz,rfl⟩)))
  ·subst h
   rw[ao5 (by simp)] at hy
   simp only[ao',apW,ao4,aoQ] at hy
   subst hy
   exact hxv op (nX pre.length op x aaH (by simp))
  ·obtain⟨m,rfl⟩:∃ m,j=pre.length+1+m:=⟨j-(pre.length+1),by omega⟩
   rw[ao5 (by simp;omega)] at hy
   simp only[ao',show pre.length+1+m-pre.length=m+1 by omega,apf,ao1,aoO] at hy
   obtain⟨z,hz,rfl⟩:=hy
   exact .inl (old _ op z aaH (by rw[ao5 (by omega),show pre.length+1+m-pre.length=m+1 by omega];simpa using hz) (aoV.1 ai2 _ (apu.2 ⟨z,ao0 hz,rfl⟩)))
 refine z7 iu oC vT (by rw[hsH];exact he) po cr ?_ hd K Q (fun v' aH w' hO=>hK v' aH w' ⟨hO.W,hO.F,by have:=hO.E;rw[hsH] at this;exact Ay.trans this (aoU _)⟩)
 rintro ⟨fn,sq,lN,Pz⟩
 unfold execOp
 cases hb:fn.body with
 | none=>rw[hb] at lN;cases lN
 | some code =>
  simp[ho,resolve,gf,Act.eval,Deferred.ofValue,invoke,callFunc,sq,Pz,hb,vs]
end
end
section
section
variable {P:Program}{G:Nat->List AV}{base nt:Nat}{L:List Nat}{gh:Gh}{w w' : World}{a:Act}{s:AS}{H:ah}
def Dt(P:Program)(w:World)(d:Nat):Prop :=
 ∀ (t:TypeId) (ks:List CK),my P d t=some ks->∀ (D o:Nat) (cs:Array Value) (em:Bool),d<=D->o+ks.length<=cs.size->∃ v,(part t cs o).run P w=.ok v w/\(Instr.checkKey em D t v).run P w=.ok () w
theorem tO{t:TypeId}{D:Nat}{v:Value}{em:Bool}(h:P.underlying t=some .bool\/(∃ k,P.underlying t=some (.int k))\/P.underlying t=some .string):(Instr.checkKey em (D+1) t v).run P w=.ok () w:=by
 rcases h with h|⟨k,h⟩|h<;>simp[Instr.checkKey,run_underlying h]
theorem tN{d:Nat}(hd:Dt P w d){D:Nat}(hD:d<=D){cs:Array Value}{em:Bool} : ∀ (fs:List Go.Field) (q:Nat) (ks:List CK),nV (my P d) fs q=some ks->q+ks.length<=cs.size ->
  Sem.run P (forIn fs PUnit.unit fun (f:Go.Field) (_:PUnit) =>
   if f.name≠ "_" then do
    let v <- part f.type cs f.offset
    Instr.checkKey em D f.type v
    pure (ForInStep.yield PUnit.unit)
   else pure (ForInStep.yield PUnit.unit)) w=.ok PUnit.unit w:=by
 intro fs
 induction fs with
 | nil=>intro q ks h1 h2;rfl
 | cons f fs ih =>
  intro q ks h1 h2
  unfold nV at h1
  obtain⟨h3,h1⟩:=ab h1
  simp only[aoP,aoO] at h1
  obtain⟨kf,YP,kr,hkr,rfl⟩:=h1
  simp only[Bool.and_eq_true,dR,apc,bne_iff_ne] at h3
  obtain⟨hof,su⟩:=h3
  rw[ao6] at h2
  obtain⟨v,p1,p2⟩:=hd f.type kf YP D q cs em hD (by omega)
  have hr:=ih (q+kf.length) kr hkr (by omega)
  rw[List.forIn_cons,if_pos su,hof]
  simp only[Sem.run_bind,p1,p2,Result.andThen_ok,Sem.run_pure]
  exact hr
theorem Ac:∀ d,Dt P w d
 | 0=>fun t ks h=>by cases h
 | d+1=>by
  intro t ks h D o cs em hD fi
  have h0:=h
  unfold my at h
  cases hu:P.underlying t with
  | none=>rw[hu] at h;cases h
  | some dd =>
   rw[hu] at h
   obtain⟨D,rfl⟩:∃ m,D=m+1:=⟨D-1,by omega⟩
   have sc:ks.length=1->kQ P t=some false->(dd=.bool\/(∃ k,dd=.int k)\/dd=.string)->∃ v,(part t cs o).run P w=.ok v w/\(Instr.checkKey em (D+1) t v).run P w=.ok () w:=by
    intro h1 h2 h3
    have hg:=h2
    have hv:cs[o]?=some cs[o]:=ao2 (by omega)
    refine⟨cs[o],by simp[part,gY hg,hv],tO ?_⟩
    rcases h3 with h3|⟨k,h3⟩|h3<;>subst h3
    ·exact .inl hu
    ·exact .inr (.inl ⟨k,hu⟩)
    ·exact .inr (.inr hu)
   cases dd<;>try (cases h;done)
   case bool=>injection h with h;subst h;exact sc rfl (lH hu rfl) (.inl rfl)
   case int kk=>injection h with h;subst h;exact sc rfl (lH hu rfl) (.inr (.inl ⟨kk,rfl⟩))
   case string=>injection h with h;subst h;exact sc rfl (lH hu rfl) (.inr (.inr rfl))
   case struct fs =>
    obtain⟨_,Hm,sz,gA,hlen⟩:=qh h0 hu
    have hg:kQ P t=some true:=by unfold kQ;rw[hu];rfl
    refine⟨.agg (cs.extract o (o+sz)),by simp[part,gY hg,dx gA],?_⟩
    have:=tN (Ac d) (show d<=D by omega) (cs:=cs.extract o (o+sz)) (em:=em) fs.toList 0 ks Hm (by simp;omega)
    unfold Instr.checkKey
    simp only[Sem.run_bind,run_underlying hu,Result.andThen_ok]
    rw[<- Array.forIn_toList,this]
    rfl
theorem sk{n:Nat}{v:Value}{k:AV}{kc:List AV}(h:VR gh n w v k)(hc:k.cells=some kc):(∃ C,v=.agg C/\k=.agg kc/\Row gh n w C kc)\/(kc=[k]/\v.oneCell'=true):=by
 have hr:=rL h hc
 cases k
 case agg xs =>
  obtain⟨C,rfl,hs,fL,h⟩:=h.jD
  injection hc with hc
  subst hc
  exact .inl ⟨C,rfl,rfl,hs,h⟩
 case any=>cases hc
 case tuple=>cases hc
 case lbox=>cases hc
 case lref=>cases hc
 case lsl=>cases hc
 case lsr=>cases hc
 case eref=>cases hc
 case iter=>cases hc
 all_goals
  injection hc with hc
  subst hc
  exact .inr ⟨rfl,h.dX (by intro cs h;cases h) (by intro cs h;cases h)⟩
theorem uY{n:Nat}{v:Value}{k:AV}(h:VR gh n w v k)(ha:true=k.isAgg):∃ C,v=.agg C:=by
 cases k<;>first|(cases ha;done)|skip
 obtain⟨C,rfl,_⟩:=h.jD
 exact⟨C,rfl⟩
structure Bn (P:Program) (kt:TypeId) (ks:List CK) (ka:Bool):Prop where
 flat:my P 8 kt=some ks
 agg:kQ P kt=some ka
theorem Bn.cases{kt:TypeId}{ks:List CK}{ka:Bool}(h:Bn P kt ks ka):(ka=false/\((P.underlying kt=some .bool/\ks=[.b])\/(∃ k,P.underlying kt=some (.int k)/\ks=[.i])\/(P.underlying kt=some .string/\ks=[.s]))) \/
  (ka=true/\∃ fs,P.underlying kt=some (.struct fs)):=by
 have hf:=h.flat
 have ha:=h.agg
 unfold my at hf
 unfold kQ at ha
 cases hu:P.underlying kt with
 | none=>rw[hu] at hf;cases hf
 | some dd =>
  rw[hu] at hf ha
  cases dd<;>try (cases hf;done)
  case bool=>injection hf with hf;subst hf;simp at ha;exact .inl ⟨ha,.inl ⟨rfl,rfl⟩⟩
  case int k=>injection hf with hf;subst hf;simp at ha;exact .inl ⟨ha,.inr (.inl ⟨k,rfl,rfl⟩)⟩
  case string=>injection hf with hf;subst hf;simp at ha;exact .inl ⟨ha,.inr (.inr ⟨rfl,rfl⟩)⟩
  case struct fs=>simp at ha;exact .inr ⟨ha,fs,rfl⟩
theorem sd{kt:TypeId}{ks:List CK}{ka:Bool}(hK:Bn P kt ks ka){n:Nat}{kv:Value}{k:AV}{kc:List AV}(hk:VR gh n w kv k)(pk:k.cells=some kc)(hl:kc.length=ks.length)(qU:ka=k.isAgg)(em:Bool) :
  (Instr.checkKey em 10000 kt kv).run P w=.ok () w:=by
 rcases hK.cases with ⟨rfl,h⟩|⟨rfl,fs,hu⟩
 ·refine tO ?_
  rcases h with ⟨h,_⟩|⟨k,h,_⟩|⟨h,_⟩
  ·exact .inl h
  ·exact .inr (.inl ⟨k,h⟩)
  ·exact .inr (.inr h)
 ·obtain⟨C,rfl⟩:=uY hk qU
  obtain⟨sF,Hm,sz,gA,hlen⟩:=qh hK.flat hu
  have hC:C.size=kc.length:=by
   rcases sk hk pk with ⟨C',e,_,hr⟩|⟨_,h1⟩
   ·injection e with e;subst e;exact hr.1
   ·simp[Value.oneCell'] at h1
  have:=tN (Ac (w:=w) (P:=P) 7) (show 7<=9999 by omega) (cs:=C) (em:=em) fs.toList 0 ks Hm (by omega)
  unfold Instr.checkKey
  simp only[Sem.run_bind,run_underlying hu,Result.andThen_ok]
  rw[<- Array.forIn_toList,this]
  rfl
def JS(S:Nat->Nat->Prop)(w:World)(kz:Nat)(ka:Bool)(v:Value)(r:List AV):Prop:=∃ f:Nat->Value,v=qp ka kz f/\∀ (j:Nat) (x:AV),r[j]?=some x->j<kz->PR S w (f j) x
theorem pD:∀ {k:List CK} {X Y:List AV} {b:Bool},bI k X Y=some b->k.length<=X.length/\k.length<=Y.length
 | [],X,Y,b,h=>⟨apZ _,apZ _⟩
 | c :: k,X,Y,b,h=>by
  cases c<;>cases X<;>try (cases h;done)
  all_goals (rename_i x X';cases x<;>try (cases h;done))
  all_goals (cases Y<;>try (cases h;done))
  all_goals (rename_i y Y';cases y<;>try (cases h;done))
  ·simp only[bI,aoO] at h
   obtain⟨b',hb,_⟩:=h
   have:=pD hb
   simp;omega
  ·simp only[bI] at h
   obtain⟨_,h⟩:=ab h
   simp only[aoO] at h
   obtain⟨b',hb,_⟩:=h
   have:=pD hb
   simp;omega
  ·simp only[bI,aoO] at h
   obtain⟨b',hb,_⟩:=h
   have:=pD hb
   simp;omega
theorem ME{kt:TypeId}{ks:List CK}{ka:Bool}(hK:Bn P kt ks ka){n:Nat}{kv:Value}{k:AV}{kc:List AV}(hk:VR gh n w kv k)(pk:k.cells=some kc)(hl:kc.length=ks.length)(qU:ka=k.isAgg)
  {v:Value} {r:List AV} (hv:JS gh.S w ks.length ka v r) {b:Bool} (he:bI ks kc r=some b) :
  (ka=true->(Op.equal kt kv v).run P w=.ok b w)/\(ka=false->∀ d,P.underlying kt=some d->Instr.sameNow d kv v=some b):=by
 obtain⟨f,rfl,hf⟩:=hv
 have PI:=(pD he).2
 rcases hK.cases with ⟨rfl,h⟩|⟨rfl,fs,hu⟩
 ·refine⟨(fun h=>by cases h),fun _ d hd=>?_⟩
  have aaw:kc=[k]:=by
   cases k<;>first|(cases qU;done)|(injection pk with pk;exact pk.symm)|(cases pk;done)
  subst aaw
  have hv0:∀ x,r[0]?=some x->PR gh.S w (f 0) x:=fun x hx=>hf 0 x hx (by rcases h with ⟨_,h⟩|⟨_,_,h⟩|⟨_,h⟩<;>rw[h]<;>exact Nat.one_pos)
  show Instr.sameNow d kv (f 0)=some b
  cases r with
  | nil=>rcases h with ⟨_,h⟩|⟨_,_,h⟩|⟨_,h⟩<;>subst h<;>simp at PI
  | cons x r =>
   have hx:=hv0 x rfl
   rcases h with ⟨h,rfl⟩|⟨q,h,rfl⟩|⟨h,rfl⟩
   ·rw[h] at hd;injection hd with hd;subst hd
    cases k<;>try (cases he;done)
    cases x<;>try (cases he;done)
    obtain rfl:=hk.jm
    generalize f 0=u at hx
    cases hx
    simp[bI] at he
    simp[Instr.sameNow,he]
   ·rw[h] at hd;injection hd with hd;subst hd
    cases k<;>try (cases he;done)
    cases x<;>try (cases he;done)
    obtain rfl:=hk.jE
    generalize f 0=u at hx
    cases hx
    simp only[bI] at he
    obtain⟨h0,he⟩:=ab he
    simp at he h0
    simp[Instr.sameNow,he,h0]
   ·rw[h] at hd;injection hd with hd;subst hd
    cases k<;>try (cases he;done)
    cases x<;>try (cases he;done)
    obtain⟨p,rfl,rfl⟩:=hk.jF
    generalize f 0=u at hx
    cases hx with
    | str q _ hq =>
     subst hq
     simp[bI] at he
     simp only[Instr.sameNow,aoQ]
     rw[<- he]
     first|rfl|(show (p.data==q.data)=_;simp)
 ·obtain⟨C,rfl⟩:=uY hk qU
  refine⟨fun _=>?_,fun h=>by cases h⟩
  have hC:Row gh n w C kc:=by
   rcases sk hk pk with ⟨C',e,_,hr⟩|⟨_,h1⟩
   ·injection e with e;subst e;exact hr
   ·simp[Value.oneCell'] at h1
  have hD:Row gh n w (((List.range ks.length).map f).toArray) (r.take ks.length):=by
   refine⟨by simp;omega,fun j u x hu hx=>?_⟩
   simp only[ape,ao1,aoO] at hu
   obtain⟨i,hi,rfl⟩:=hu
   obtain⟨aU,je⟩:=aoR.1 hi
   simp at aU je
   subst je
   rw[apa,if_pos aU] at hx
   exact .plain _ _ (hf _ x hx aU)
  have uS:bI ks kc (r.take ks.length)=some b:=by
   rw[<- he,<- nT ks kc r ks.length (aoU _),<- nT ks kc (r.take ks.length) ks.length (aoU _),List.take_take,Nat.min_self]
  exact tB (vf 7) hK.flat hu (D:=9999) (by omega) (n:=n) hC hD uS
theorem tZ{d:TypeDesc}{kv:Value}{ks:List CK}{kc:List AV} : ∀ (l:List MapEntry) (es:List (List AV)) (i0:Nat) (o:Option Nat),l.length=es.length ->
  (∀ (i:Nat) (e:MapEntry) (r:List AV) (b:Bool),l[i]?=some e->es[i]?=some r->bI ks kc r=some b->Instr.sameNow d kv e.key=some b)->fw ks kc es=some o ->
  Instr.findNow d kv l i0=some (o.map fun i=>(i0+i,(l.getD i default).val))
 | [],[],i0,o,_,_,h=>by simp only[fw,aoQ] at h;subst h;rfl
 | [],_ :: _,_,_,hl,_,_=>by simp at hl
 | _ :: _,[],_,_,hl,_,_=>by simp at hl
 | e :: l,r :: es,i0,o,hl,hq,h=>by
  simp only[fw,aoP] at h
  obtain⟨b,hb,h⟩:=h
  have h0:=hq 0 e r b rfl rfl hb
  cases b with
  | true =>
   simp only[cond_true,aoQ] at h
   subst h
   simp[Instr.findNow,h0]
  | false =>
   simp only[aoZ,aoO] at h
   obtain⟨o',mG,rfl⟩:=h
   have ih:=tZ l es (i0+1) o' (by simpa using hl) (fun i e r b h1 h2 h3=>hq (i+1) e r b (by simpa using h1) (by simpa using h2) h3) mG
   simp only[Instr.findNow,h0,ih,aqF]
   cases o' with
   | none=>rfl
   | some i=>simp[aqu,aq5 1 i]
theorem qm{kt:TypeId}{kv:Value}{ks:List CK}{kc:List AV} : ∀ (l:List MapEntry) (es:List (List AV)) (i0:Nat) (o:Option Nat),l.length=es.length ->
  (∀ (i:Nat) (e:MapEntry) (r:List AV) (b:Bool),l[i]?=some e->es[i]?=some r->bI ks kc r=some b->(Op.equal kt kv e.key).run P w=.ok b w)->fw ks kc es=some o ->
  (Instr.findAsking kt kv l i0).run P w=.ok (o.map fun i=>(i0+i,(l.getD i default).val)) w
 | [],[],i0,o,_,_,h=>by simp only[fw,aoQ] at h;subst h;rfl
 | [],_ :: _,_,_,hl,_,_=>by simp at hl
 | _ :: _,[],_,_,hl,_,_=>by simp at hl
 | e :: l,r :: es,i0,o,hl,hq,h=>by
  simp only[fw,aoP] at h
  obtain⟨b,hb,h⟩:=h
  have h0:=hq 0 e r b rfl rfl hb
  cases b with
  | true =>
   simp only[cond_true,aoQ] at h
   subst h
   simp[Instr.findAsking,h0]
  | false =>
   simp only[aoZ,aoO] at h
   obtain⟨o',mG,rfl⟩:=h
   have ih:=qm l es (i0+1) o' (by simpa using hl) (fun i e r b h1 h2 h3=>hq (i+1) e r b (by simpa using h1) (by simpa using h2) h3) mG
   simp only[Instr.findAsking,Sem.run_bind,h0,Result.andThen_ok,apC,ap2,ih]
   cases o' with
   | none=>rfl
   | some i=>simp[aqu,aq5 1 i]
theorem uI{kt:TypeId}{ks:List CK}{ka:Bool}(hK:Bn P kt ks ka){n:Nat}{kv:Value}{k:AV}{kc:List AV}(hk:VR gh n w kv k)(pk:k.cells=some kc)(hl:kc.length=ks.length)(qU:ka=k.isAgg)
  {l:List MapEntry} {es:List (List AV)} (hlen:l.length=es.length) (bE:∀ (i:Nat) (e:MapEntry) (r:List AV),l[i]?=some e->es[i]?=some r->JS gh.S w ks.length ka e.key r) {o:Option Nat} (hf:fw ks kc es=some o) :
  (Instr.findKey kt kv l).run P w=.ok (o.map fun i=>(i,(l.getD i default).val)) w:=by
 have hq:=fun (i:Nat) (e:MapEntry) (r:List AV) (b:Bool) (h1:l[i]?=some e) (h2:es[i]?=some r) (h3:bI ks kc r=some b)=>ME hK hk pk hl qU (bE i e r h1 h2) h3
 rcases hK.cases with ⟨rfl,h⟩|⟨rfl,fs,hu⟩
 ·obtain⟨d,hd⟩:∃ d,P.underlying kt=some d:=by rcases h with ⟨h,_⟩|⟨_,h,_⟩|⟨h,_⟩<;>exact⟨_,h⟩
  have hn:=tZ l es 0 o hlen (fun i e r b h1 h2 h3=>(hq i e r b h1 h2 h3).2 rfl d hd) hf
  simp only[Nat.zero_add] at hn
  simp[Instr.findKey,run_underlying hd,hn]
 ·cases l with
  | nil =>
   cases es with
   | cons _ _=>simp at hlen
   | nil =>
    simp only[fw,aoQ] at hf
    subst hf
    simp[Instr.findKey,run_underlying hu,Instr.findNow]
  | cons e l =>
   have hn:=qm (P:=P) (w:=w) (e :: l) es 0 o hlen (fun i e r b h1 h2 h3=>(hq i e r b h1 h2 h3).1 rfl) hf
   simp only[Nat.zero_add] at hn
   simp[Instr.findKey,run_underlying hu,Instr.findNow,Instr.sameNow,hn]
end
end
section
section
variable {P:Program}{G:Nat->List AV}{base nt:Nat}{L:List Nat}{gh:Gh}{w w' : World}{a:Act}{s:AS}{H:ah}
def tn(w:World)(b:Nat)(E:Array MapEntry)(ck:Nat):World:={ w with heap:=w.heap.setIfInBounds b (Obj.map E ck) }
theorem G1{b:Nat}{E E' : Array MapEntry}{ck ck' : Nat}(hb:w.heap[b]?=some (.map E ck)):(tn w b E' ck').heap[b]?=some (.map E' ck'):=by
 have aU:b<w.heap.size:=(aoY.1 hb).1
 simp[tn,aU]
theorem mL{b b' : Nat}{E' : Array MapEntry}{ck' : Nat}(h:b'≠b):(tn w b E' ck').heap[b']?=w.heap[b']?:=by
 simp[tn,ap3 h]
theorem yW{b:Nat}{E E' : Array MapEntry}{ck ck' : Nat}(hb:w.heap[b]?=some (.map E ck)):(setObj b (.map E' ck')).run P w=.ok () (tn w b E' ck'):=by
 simp[setObj,Sem.run,hb,tn]
theorem Gg(hW:aK G base H gh w){b:Nat}{E E' : Array MapEntry}{ck ck' : Nat}(hb:w.heap[b]?=some (.map E ck))(hS:∀ o,¬ gh.S b o)(n:Nat):Step (fun r=>r=gh.κ b) n gh w gh (tn w b E' ck'):=by
 have bB:∀ b' o,gh.S b' o->b'≠b:=fun b' o h=>by rintro rfl;exact hS o h
 refine⟨fun _ _ h=>h,fun b' o h=>cell_of_heap (mL (bB b' o h)),by simp[tn],rfl,rfl,rfl,fun b' fP hn=>?_,fun b' fP=>?_,fun _ _=>rfl,fun b' ty m hm=>?_,fun b' E1 c1 hs hm=>?_⟩
 ·have zC:b'≠b:=by rintro rfl;exact hn rfl
  exact⟨.inl (mL zC),rfl,fun _ h=>h⟩
 ·have:w.heap.size<=b':=by simpa [tn] using fP
  exact hW.bG b' this
 ·obtain⟨C,fr,h1,h2⟩:=hm
  have zC:b'≠b:=by rintro rfl;rw[hb] at h1;cases h1
  exact⟨C,fr,by rw[mL zC];exact h1,h2⟩
 ·rw[mL (bB b' 0 hs)];exact hm
structure Du (P:Program) (t kt et:TypeId) (ks:List CK) (ka va:Bool) (vz:Nat) (z:Value) (zero:List AV):Prop where
 ht:P.underlying t=some (.map kt et)
 key:Bn P kt ks ka
 vz1:va=false->vz=1
 hz:∃ i,P.info? et=some i/\i.zero=some z
 cells:dk z.cells.toList=some zero
 agg:Ld z=va
 len:zero.length=vz
theorem Bn.kz{kt:TypeId}{ks:List CK}{ka:Bool}(h:Bn P kt ks ka)(hf:ka=false):ks.length=1:=by
 rcases h.cases with ⟨_,⟨_,h⟩|⟨_,_,h⟩|⟨_,h⟩⟩|⟨rfl,_⟩
 ·rw[h];rfl
 ·rw[h];rfl
 ·rw[h];rfl
 ·cases hf
theorem ux{t:TypeId}{m:List CK × Bool × Bool × List AV}(h:MN P t=some m):∃ kt et z,Du P t kt et m.1 m.2.1 m.2.2.1 m.2.2.2.length z m.2.2.2:=by
 unfold MN at h
 split at h
 ·rename_i kt et hu
  simp only[aoP] at h
  obtain⟨ks,Hm,ka,qU,i,hi,z,hz,zero,Y5,h⟩:=h
  obtain⟨h0,h⟩:=ab h
  injection h with h
  subst h
  refine⟨kt,et,z,hu,⟨Hm,qU⟩,fun hv=>?_,⟨i,hi,hz⟩,Y5,rfl,rfl⟩
  simp only at hv ⊢
  rw[hv] at h0
  simpa [dR] using h0
 ·cases h
theorem O1(hW:aK G base s.H gh w)(hF:FR L nt gh w a s){o:Oper}{t:TypeId}(ho:o.op=.makeMap t none)(hd:∀ k,o.dst=some k->k<nt)(kz:Nat)(ka va:Bool) :
  ∃ v' aH w',sm P a o w v' w'/\Out G base nt L gh w a s o.dst (.mref s.H.length) (s.fp ⟨s.H++[.map kz ka va []],s.H.length⟩) v' aH w':=by
 have hp:=dJ.alloc w (.map #[] 0)
 have hρ:(gh.bd w.heap.size s.H.length).ρ s.H.length=w.heap.size:=by simp[Gh.bd]
 have hv:VR (gh.bd w.heap.size s.H.length) (s.H++[cj.map kz ka va []]).length (w.alloc (.map #[] 0)) (.map (some w.heap.size)) (.mref s.H.length):=by
  have:=VR.mref (gh:=gh.bd w.heap.size s.H.length) (w:=w.alloc (.map #[] 0)) (n:=(s.H++[cj.map kz ka va []]).length) s.H.length (by simp)
  rw[hρ] at this;exact this
 have hM:sP (gh.bd w.heap.size s.H.length) (s.H.length+1) (w.alloc (.map #[] 0)) w.heap.size s.H.length (.map kz ka va []):=by
  refine⟨⟨by simp[Gh.bd,Gh.alloc],?_,#[],0,fun _ _=>undef,hp.new,⟨rfl,rfl,fun i e h=>by simp at h,fun i e h=>by simp at h,fun i j e e' h=>by simp at h,fun i e r h=>by simp at h⟩,fun i j r x h=>by simp at h,fun i j r x h=>by simp at h⟩,rfl⟩
  rintro o (ho|⟨_,ho⟩)
  ·have:=hW.mX _ o ho;omega
  ·exact ho
 refine⟨_,_,_,.inl ?_,hW.yQ hp (fun _ _ h=>by cases h) hM,hF.put (fF hW hp) (fun i=>⟨id,id,fun _=>id⟩) (by simp) o.dst hd (.cF hv),jq hW hp⟩
 simp[execOp,ho,Instr.makeMap,newObj,Sem.run]
theorem Sb{n:Nat}{va:Bool}{m:Nat}{g:Nat->Value}{cs:List AV}(hm:cs.length=m)(h1:va=false->m=1)(h:∀ (j:Nat) (x:AV),cs[j]?=some x->VR gh n w (g j) x.drop/\(g j).oneCell'=true) :
  VR gh n w (qp va m g) (cond va (.agg (cs.map AV.drop)) ((cs.headD .undef).drop)):=by
 cases va with
 | true =>
  refine .agg _ _ (by simp[hm]) (fun j v hv=>?_) (fun j v x hv hx=>?_)
  ·simp only[ape,ao1,aoO] at hv
   obtain⟨i,hi,rfl⟩:=hv
   obtain⟨aU,je⟩:=aoR.1 hi
   simp at aU je
   subst je
   exact (h _ _ (aoT (by omega))).2
  ·simp only[ape,ao1,aoO] at hv hx
   obtain⟨i,hi,rfl⟩:=hv
   obtain⟨aU,je⟩:=aoR.1 hi
   simp at aU je
   subst je
   obtain⟨y,hy,rfl⟩:=hx
   exact (h _ y hy).1
 | false =>
  have:=h1 rfl
  cases cs with
  | nil=>simp at hm;omega
  | cons x cs=>exact (h 0 x rfl).1
theorem K4{n:Nat}{t kt et:TypeId}{ks:List CK}{ka va:Bool}{vz:Nat}{z:Value}{zero:List AV}(hT:Du P t kt et ks ka va vz z zero):VR gh n w z (cond va (.agg (zero.map AV.drop)) ((zero.headD .undef).drop)):=by
 obtain⟨hl,hv⟩:=iT (gh:=gh) (n:=n) (w:=w) hT.cells
 have Dm:=hT.agg
 cases z
 case agg C =>
  simp[Ld] at Dm
  subst Dm
  refine .agg C _ (by simpa [Value.cells] using hl) (fun j v tE=>?_) (fun j v x tE hx=>?_)
  ·have aU:=(aoY.1 tE).1
   have hz:zero[j]?=some zero[j]:=aoT (by
    have:C.toList.length=zero.length:=by simpa [Value.cells] using hl
    simp at this;omega)
   exact (hv j v _ (by simpa [Value.cells] using tE) hz).2
  ·simp only[ao1,aoO] at hx
   obtain⟨y,hy,rfl⟩:=hx
   exact (hv j v y (by simpa [Value.cells] using tE) hy).1.dropped
 all_goals
  simp[Ld] at Dm
  subst Dm
  have h1:zero.length=1:=by rw[hT.len];exact hT.vz1 rfl
  obtain⟨x,rfl⟩:=ap8.1 h1
  exact (hv 0 _ x rfl rfl).1.dropped
theorem yu{n:Nat}{ok va:Bool}{cs:List AV}{v:Value}(h:VR gh n w v (cond va (.agg (cs.map AV.drop)) ((cs.headD .undef).drop)))(found:Bool) :
  VR gh n w (if ok then .tuple #[v,.bool found] else v) (yt ok va cs found):=by
 unfold yt
 simp only
 cases ok with
 | false=>exact h
 | true =>
  refine .tuple _ _ rfl (fun j u x hu hx=>?_)
  match j with
  | 0=>injection hu with hu;injection hx with hx;subst hu hx;exact h
  | 1=>injection hu with hu;injection hx with hx;subst hu hx;exact .plain _ _ (.bool _)
  | j+2=>simp at hx
structure Rows (gh:Gh) (n:Nat) (w:World) (E:Array MapEntry) (kz:Nat) (ka va:Bool) (es:List (List AV)):Prop where
 size:E.size=es.length
 key:∀ (i:Nat) (e:MapEntry) (r:List AV),E[i]?=some e->es[i]?=some r->JS gh.S w kz ka e.key r
 val:∀ (i:Nat) (e:MapEntry) (r:List AV),E[i]?=some e->es[i]?=some r->kz<=r.length/\(va=false->r.length=kz+1)/\∃ g,e.val=qp va (r.length-kz) g/\∀ (j:Nat) (x:AV),(r.drop kz)[j]?=some x->VR gh n w (g j) x.drop/\(g j).oneCell'=true
theorem qd{n b kz:Nat}{ka va:Bool}{es:List (List AV)}{v:Value}(h:PR gh.S w v (.dM kz ka va es)):∃ b E ck,v=.map (some b)/\w.heap[b]?=some (.map E ck)/\Rows gh n w E kz ka va es:=by
 cases h with
 | dM b _ _ _ _ E ck f hS hb hE cr =>
  refine⟨b,E,ck,rfl,hb,hE.size,fun i e r h1 h2=>⟨f i,(hE.row i e r h1 h2).2.2.2.1,fun j x hj _=>cr i j r x h2 hj⟩,fun i e r h1 h2=>?_⟩
  obtain⟨k1,_,k2,_,k3⟩:=hE.row i e r h1 h2
  refine⟨k1,k2,fun j=>f i (kz+j),k3,fun j x hj=>?_⟩
  rw[apq] at hj
  have:=cr i (kz+j) r x h2 hj
  exact⟨VR.dropped (.plain _ _ this),this.dX⟩
theorem qc{n b kz:Nat}{p:ba}{q:Nat->ba}{ka va:Bool}{es:List (List AV)}(h:vH gh n w b p q kz ka va es):∃ E ck,w.heap[b]?=some (.map E ck)/\Rows gh n w E kz ka va es:=by
 obtain⟨_,_,E,ck,f,hb,hE,h1,h2⟩:=h
 refine⟨E,ck,hb,hE.size,fun i e r k1 k2=>⟨f i,(hE.row i e r k1 k2).2.2.2.1,fun j x hj hl=>h1 i j r x k2 hj hl⟩,fun i e r k1 k2=>?_⟩
 obtain⟨l1,_,l2,_,l3⟩:=hE.row i e r k1 k2
 refine⟨l1,l2,fun j=>f i (kz+j),l3,fun j x hj=>?_⟩
 rw[apq] at hj
 obtain⟨m1,_,m2⟩:=h2 i (kz+j) r x k2 hj (by omega)
 exact⟨m2.dropped,m1⟩
theorem ua:∀ {ks:List CK} {kc:List AV} {es:List (List AV)} {i:Nat},fw ks kc es=some (some i)->i<es.length
 | ks,kc,[],i,h=>by simp[fw] at h
 | ks,kc,r :: es,i,h=>by
  simp only[fw,aoP] at h
  obtain⟨b,_,h⟩:=h
  cases b with
  | true=>simp at h;subst h;simp
  | false =>
   simp only[aoZ,aoO] at h
   obtain⟨o,ho,h⟩:=h
   cases o with
   | none=>simp at h
   | some j=>simp at h;subst h;have:=ua ho;simp;omega
theorem GZ{n:Nat}{t kt et:TypeId}{ks:List CK}{ka va:Bool}{vz:Nat}{z:Value}{zero:List AV}(hT:Du P t kt et ks ka va vz z zero){kv:Value}{k:AV}{kc:List AV}(hk:VR gh n w kv k)(pk:k.cells=some kc)(hl:kc.length=ks.length)(qU:ka=k.isAgg)
  {b:Nat} {E:Array MapEntry} {ck:Nat} {es:List (List AV)} (hb:w.heap[b]?=some (.map E ck)) (hR:Rows gh n w E ks.length ka va es) {o:Option Nat} (hf:fw ks kc es=some o) (ok:Bool) :
  ∃ v,(Instr.lookup t (.map (some b)) kv ok).run P w=.ok v w/\VR gh n w v (oS ok va zero ks.length es o):=by
 have pN:=sd hT.key hk pk hl qU E.isEmpty
 have Hk:=uI hT.key hk pk hl qU (l:=E.toList) (by simpa using hR.size) (fun i e r h1 h2=>hR.key i e r (by simpa using h1) h2) hf
 obtain⟨i0,NJ,hz0⟩:=hT.hz
 have hzr:(zeroValue et).run P w=.ok z w:=by simp[zeroValue,typeInfo,NJ,hz0]
 cases o with
 | none =>
  refine⟨if ok then .tuple #[z,.bool false] else z,?_,yu (K4 hT) false⟩
  simp[Instr.lookup,run_underlying hT.ht,getObj,Sem.run,hb]
  simp[pN,Hk,hzr]
 | some i =>
  have hi:=ua hf
  have hiE:i<E.size:=by rw[hR.size];exact hi
  have hE:E[i]?=some E[i]:=ao2 hiE
  have he:es[i]?=some es[i]:=aoT hi
  obtain⟨k1,k2,g,k3,k4⟩:=hR.val i _ _ hE he
  have ju:es.getD i []=es[i]:=by simp[List.getD,he]
  have Mi:E.toList.getD i default=E[i]:=by
   have:E.toList[i]?=some E[i]:=by rw[aps];exact hE
   simp[List.getD,this]
  have hv:=Sb (gh:=gh) (n:=n) (w:=w) (va:=va) (m:=es[i].length-ks.length) (g:=g) (cs:=es[i].drop ks.length) (by simp) (fun hva=>by have:=k2 hva;omega) k4
  rw[<- k3] at hv
  refine⟨if ok then .tuple #[E[i].val,.bool true] else E[i].val,?_,by simp only[oS];rw[ju];exact yu hv true⟩
  simp only[Option.map_some,Mi] at Hk
  simp[Instr.lookup,run_underlying hT.ht,getObj,Sem.run,hb]
  simp[pN,Hk]
theorem Dc{n:Nat}{t kt et:TypeId}{ks:List CK}{ka va:Bool}{vz:Nat}{z:Value}{zero:List AV}(hT:Du P t kt et ks ka va vz z zero){kv:Value}{k:AV}{kc:List AV}(hk:VR gh n w kv k)(pk:k.cells=some kc)(hl:kc.length=ks.length)(qU:ka=k.isAgg)(ok:Bool) :
  ∃ v,(Instr.lookup t (.map none) kv ok).run P w=.ok v w/\VR gh n w v (yt ok va zero false):=by
 have pN:=sd hT.key hk pk hl qU true
 have Hk:=uI hT.key hk pk hl qU (l:=[]) (es:=[]) rfl (fun i e r h1 h2=>by simp at h1) (o:=none) rfl
 obtain⟨i0,NJ,hz0⟩:=hT.hz
 have hzr:(zeroValue et).run P w=.ok z w:=by simp[zeroValue,typeInfo,NJ,hz0]
 refine⟨if ok then .tuple #[z,.bool false] else z,?_,yu (K4 hT) false⟩
 simp[Instr.lookup,run_underlying hT.ht]
 simp[pN,Hk,hzr]
end
end
end Go.Abs
