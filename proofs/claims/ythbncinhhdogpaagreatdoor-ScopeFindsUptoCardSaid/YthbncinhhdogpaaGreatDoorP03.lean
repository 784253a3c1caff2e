/-
  A part of the proof of ScopeFinds: AbsOps9, AbsOps10, AbsOps11, AbsOps12, AbsCall, AbsMap1, AbsMap2.
-/
import Derived.Deep.Upon
import Derived.Lib.FrozenHead
import Derived.Test.YthbncinhhdogpaaGreatDoorP02
set_option linter.unusedSimpArgs false
set_option linter.unusedVariables false
set_option linter.defProp false
namespace Go.Abs
section
section
variable {P:Program}{G:Nat->List AV}{base nt:Nat}{L:List Nat}{gh:Gh}{w w' : World}{a:Act}{s:AS}{H:ag}
theorem rT(hW:aM G base s.H gh w)(hF:FR L nt gh w a s){t:Nat}(ht:t<nt){e:List (List AV)}{own:Bool}(hT:s.T t=.slice e own)(p:bc)(hp:p≠.outer) :
  ∃ aK,aM G base s.H aK w/\FR L nt aK w a (s.bu t (.slice e false))/\Ext s.H.length gh w aK w/\Step (fun r=>r=.sl t) s.H.length gh w aK w/\CR aK s.H.length w p (fB a t) (.slice e own):=by
 have dH:=fun b hb=>hW.bL (gh:=gh) b hb
 have h:CR gh s.H.length w (.sl t) (fB a t) (.slice e own):=by
  have h:=hF.slot t ht
  rw[hT] at h
  exact h
 rcases h with hv|⟨e',heq,DU,b,cap,C,ty,lo,hi,sz,gy,hk,he,hb,hC,hr,hl,hh,hS⟩
 ·refine⟨gh,hW,?_,Ext.refl _ _ _ dH,Step.refl _ _ _ _ dH,.inl hv⟩
  exact hF.bu (touch:=fun _=>False) (H':=s.H) (lo':=s.lo) (Step.refl _ _ _ _ dH) (apz _) (fun i _=>⟨id,id,fun _=>id⟩) (.inr rfl) (fun _=>.inl hv.dropped)
 ·injection heq with h1 h2
  subst h1 h2
  have aU:b<w.heap.size:=(apD.1 hb).1
  have st:=jc hW aU p s.H.length
  rw[hk] at st
  have hn:gh.κ b≠.none:=by rw[hk];simp
  refine⟨gh.mG b p,Jl hW aU p hn (by rw[hk];simp),?_,rz hW aU hp hn (by rw[hk];simp) _,st,.inr ⟨e,rfl,DU,b,cap,C,ty,lo,hi,sz,gy,by simp[Gh.mG],he,hb,hC,hr,hl,hh,hS⟩⟩
  refine hF.bu (H':=s.H) (lo':=s.lo) st (apz _) (fun i hi=>⟨by simp,by simpa using hi,by simp⟩) (.inr rfl) (fun _=>?_)
  show CR (gh.mG b p) s.H.length w (.sl t) (fB a t) (.slice e false)
  exact .inl (.plain _ _ DU)
theorem Out.of{aK:Gh}{s1:AS}{d:Option Nat}{gen' : Nat}{v:Value}{x:AV}(hW:aM G base s1.H aK w')(hF:FR L nt aK w' a s1)(hE:Ext s.H.length gh w aK w')(hg:s1.gen<=gen')(hd:∀ k,d=some k->k<nt)
  (hx:aP x=none\/((∃ g,s1.gen<=g/\aP x=some g)/\∀ k,d=some k->k∈L)) (hv:∀ k,d=some k->SR aK s1.H.length nt w' s1.T gen' (fB a) k v x) :
  Out G base nt L gh w a s d x { s1 with gen:=gen' } v aK w' :=
 ⟨hW,hF.Ts hg (fun b hb=>hW.bL b hb) d hd hx hv,hE⟩
theorem gW{x:Operand}{t:Nat}(h:ak nt x=some (.tmp t)):x=.tmp t/\t<nt:=by
 cases x with
 | tmp k =>
  simp only[ak] at h
  rcases aql (Nat.blt k nt) with hb|hb<;>rw[hb] at h<;>simp at h
  subst h
  exact⟨rfl,by simpa [ap0] using hb⟩
 | const v =>
  simp only[ak,apt] at h
  obtain⟨z,hz,h⟩:=h
  cases h
 | global g=>simp[ak] at h
 | func f=>simp[ak] at h
theorem Gd(hW:aM G base s.H gh w)(hF:FR L nt gh w a s){b g:Nat}{e:List (List AV)}(hb:b<nt)(hT:s.T b=.lsl g e)(pa:jh e=true)(p:bc)(hp:p≠.outer) :
  ∃ aK,aM G base s.H aK w/\FR L nt aK w a (s.bu b (.slice e false))/\Ext s.H.length gh w aK w/\CR aK s.H.length w p (fB a b) (.slice e true):=by
 have dH:=fun b hb=>hW.bL (gh:=gh) b hb
 have fX:(fB a b).oneCell'=true:=by obtain⟨ad,cap,hv,_⟩:=n4 hF hb hT;rw[hv];rfl
 obtain⟨ad,cap,hV,⟨rfl,rfl,Gx⟩|⟨k,C,ty,sz,bC,rfl,hκ,hS,hk,hC,hl,hr,fF⟩⟩:=n4 hF hb hT
 ·have hp:PR gh.S w (.slice ad 0 0) (.slice [] false):=by
   cases ad with
   | none=>exact .cW
   | some ad =>
    obtain⟨b',o',sp⟩:=ad
    have:=(Gx _ rfl).1
    simp only at this
    subst this
    exact .slice b' o' 0 0 0 [] (fun _ _=>undef) rfl (apz _) (fun i r h=>by simp at h) (fun i j r x h=>by simp at h) (fun i j r x h=>by simp at h)
  refine⟨gh,hW,?_,Ext.refl _ _ _ dH,.inl ?_⟩
  ·exact hF.bu (touch:=fun _=>False) (H':=s.H) (lo':=s.lo) (Step.refl _ _ _ _ dH) (apz _) (fun i _=>⟨id,id,fun _=>id⟩) (.inr rfl) (fun _=>.inl (.plain _ _ (by rw[hV];exact hp)))
  ·rw[hV]
   exact .full ad 0 [] hp trivial
 ·have jI:∀ o,gh.S k o->C[o]?=C[o]?:=fun _ _=>rfl
  have hn:gh.κ k≠.none:=by rw[hκ];simp
  have M8:∀ j m,j<e.length*sz->C[j]?=some (.int .u8 m)->ty=iS:=by
   intro j m hj hc
   have cS:iD gh.S w sz (C.toList.take (e.length*sz)).toArray e:=by
    have hle:e.length*sz<=C.size:=by rw[hC];exact ap4 _ hl
    refine⟨by simp;omega,hr,fun i j r x hi hj=>?_⟩
    obtain⟨u,hu,hp⟩:=fF i j r x hi hj
    refine⟨u,?_,hp⟩
    have h1:=(apw.1 hi).1
    have h2:j<sz:=by rw[<- hr i r hi];exact (apw.1 hj).1
    simp only[apW,apR,if_pos (tP h1 h2)]
    simpa using hu
   refine nZ (isB:=false) (m:=m) cS pa (fun h=>by cases h) hj ?_
   simp only[apW,apR,if_pos hj]
   simpa using hc
  have st:=pI hW hk rfl (fun o=>o<e.length*sz) jI p s.H.length
  have hE:=xx hW hk rfl (fun o=>o<e.length*sz) jI (p:=p) hp hn (by rw[hκ];simp) s.H.length
  have lk:=LC hW hk rfl (fun o=>o<e.length*sz) jI M8 p hn (by rw[hκ];simp)
  have Qu:=setRow_self w k C ty (0,0) hk
  rw[Qu] at hE lk st
  rw[hκ] at st
  have slc:∀ S' : Nat->Nat->Prop,(∀ o,o<e.length*sz->S' k o)->(∀ b o,gh.S b o->S' b o)->PR S' w (fB a b) (.slice e false):=by
   intro S' s6 wF
   rw[hV]
   have key:∀ (i j:Nat) (r:List AV) (x:AV),e[i]?=some r->r[j]?=some x->C[i*sz+j]?=some (C.getD (i*sz+j) undef)/\PR gh.S w (C.getD (i*sz+j) undef) x/\i*sz+j<e.length*sz:=by
    intro i j r x hi hj
    obtain⟨u,hu,hp⟩:=fF i j r x hi hj
    have aU:=(apD.1 hu).1
    have:C.getD (i*sz+j) undef=u:=by
     rw[apJ aU] at hu
     injection hu with hu
     simp[aU,hu]
    rw[this]
    exact⟨hu,hp,tP (apw.1 hi).1 (by rw[<- hr i r hi];exact (apw.1 hj).1)⟩
   refine .slice k 0 e.length cap sz e (fun i j=>C.getD (i*sz+j) undef) rfl hl hr (fun i j r x hi hj=>?_) (fun i j r x hi hj=>?_)
   ·obtain⟨h1,h2,h3⟩:=key i j r x hi hj
    refine⟨by have:=s6 _ h3;simpa using this,?_,h2.fg⟩
    rw[Nat.zero_add,cell_of_row w k _ C ty _ hk];exact h1
   ·exact (key i j r x hi hj).2.1.mono wF (fun _ _ _=>rfl) (fun _ _ _ _ h=>h)
  refine⟨_,lk,?_,hE,.inr ⟨e,rfl,?_,k,cap,C,ty,0,0,sz,hV,by simp,bC,hk,hC,hr,hl,aqF _,?_⟩⟩
  ·exact hF.bu (H':=s.H) (lo':=s.lo) st (apz _) (fun i hi=>⟨by simpa using hi,by simp,by simp⟩) (.inr rfl) (fun _=>.inl (.plain _ _ (slc _ (fun o h=>.inr ⟨rfl,h⟩) (fun b o h=>.inl h))))
  ·exact slc _ (fun o h=>.inr ⟨rfl,h⟩) (fun b o h=>.inl h)
  ·rintro o ho (h|⟨_,h⟩)
   ·exact hS o h
   ·omega
theorem CJ(hW:aM G base s.H gh w)(hF:FR L nt gh w a s){o:Oper}{x:Operand}{y:ar}{take obj:Bool}{z:AV}{s' : AS}(ho:o.op=.move x\/o.op=.assign x)(hc:ak nt x=some y)
  (he:lu G s take obj y=some (z,some s')) (hd:∀ k,o.dst=some k->k<nt) (hL:obj=true->∀ k,o.dst=some k->k∈L) :
  ∃ v' aK w',sP P a o w v' w'/\Out G base nt L gh w a s o.dst z s' v' aK w':=by
 have cE:(execOp a.eval o).run P w=.ok (.value (a.eval x)) w:=by rcases ho with ho|ho<;>simp[execOp,ho]
 cases y<;>simp only[lu] at he<;>try (cases he;done)
 rename_i t
 obtain⟨rfl,ht⟩:=gW hc
 change (execOp a.eval o).run P w=.ok (.value (fB a t)) w at cE
 split at he
 ·cases he
 ·rename_i g e hT
  cases take
  ·cases he
  simp only[cond_true] at he
  cases hob:obj with
  | false =>
   rw[hob] at he
   simp only[apE] at he
   obtain⟨pa,he⟩:=ab he
   simp only[apv,apx] at he
   obtain⟨rfl,rfl⟩:=he
   obtain⟨aK,h1,h2,h3,h4⟩:=Gd hW hF ht hT pa (N7 o.dst) (ni _)
   refine⟨_,aK,w,.inl cE,Out.of (s1:=s.bu t (.slice e false)) (gen':=s.gen) h1 h2 h3 (apz _) hd (.inl rfl) (fun k hk=>?_)⟩
   rw[hk] at h4
   exact h4
  | true =>
  rw[hob] at he
  simp only[cond_true] at he
  simp only[apv,apx] at he
  obtain⟨rfl,rfl⟩:=he
  have bI:=n4 hF ht hT
  have dH:=fun b hb=>hW.bL (gh:=gh) b hb
  have fX:(fB a t).oneCell'=true:=by obtain⟨ad,cap,hv,_⟩:=bI;rw[hv];rfl
  have key:∃ aK,aM G base s.H aK w/\FR L nt aK w a (s.bu t .any)/\Ext s.H.length gh w aK w/\qY aK w (HR o.dst) (fB a t) e:=by
   obtain⟨ad,cap,hv,bI⟩:=bI
   rcases bI with hz|⟨b,C,ty,sz,abx,ha,hk,hS,hb,hC,hl,hr,fF⟩
   ·refine⟨gh,hW,?_,Ext.refl _ _ _ dH,ad,cap,hv,.inl hz⟩
    exact hF.bu (touch:=fun _=>False) (H':=s.H) (lo':=s.lo) (Step.refl _ _ _ _ dH) (apz _) (fun i _=>⟨id,id,fun _=>id⟩) (.inr rfl) (fun _=>.inl (.plain _ _ (.any _ fX)))
   ·have aU:b<w.heap.size:=(apD.1 hb).1
    have st:=jc hW aU (HR o.dst) s.H.length
    rw[hk] at st
    have hn:gh.κ b≠.none:=by rw[hk];simp
    refine⟨gh.mG b (HR o.dst),Jl hW aU _ hn (by rw[hk];simp),?_,rz hW aU (ue _) hn (by rw[hk];simp) _,ad,cap,hv,.inr ⟨b,C,ty,sz,abx,ha,by simp[Gh.mG],hS,hb,hC,hl,hr,fF⟩⟩
    exact hF.bu (H':=s.H) (lo':=s.lo) st (apz _) (fun i hi=>⟨by simpa using hi,by simp,by simp⟩) (.inr rfl) (fun _=>.inl (.plain _ _ (.any _ fX)))
  obtain⟨aK,h1,h2,h3,h4⟩:=key
  refine⟨_,aK,w,.inl cE,Out.of (s1:=s.bu t .any) (gen':=s.gen+1) h1 h2 h3 (aqo _) hd (.inr ⟨⟨s.gen,apz _,rfl⟩,hL hob⟩) (fun k hk=>⟨arq _,?_⟩)⟩
  rw[hk] at h4
  exact h4
 ·rename_i e own hT
  simp only[apv,apx] at he
  obtain⟨rfl,he⟩:=he
  cases hto:(take&&own) with
  | false=>rw[hto] at he;cases he
  | true =>
   rw[hto] at he
   simp only[cond_true,apv] at he
   subst he
   obtain⟨aK,h1,h2,h3,_,h4⟩:=rT hW hF ht hT (N7 o.dst) (ni _)
   refine⟨_,aK,w,.inl cE,Out.of (s1:=s.bu t (.slice e false)) (gen':=s.gen) h1 h2 h3 (apz _) hd (.inl rfl) (fun k hk=>?_)⟩
   rw[hk] at h4
   have abC:own=true:=by cases take<;>simp_all
   subst abC
   exact h4
 ·cases he
 ·cases he
theorem qu{cs:List AV}{off j:Nat} : (bU off cs)[j]?=if j=off then (cs[j]?).map AV.drop else cs[j]?:=by
 unfold bU
 rw[List.getElem?_modify]
 by_cases h:off=j
 ·subst h;simp
 ·rw[if_neg (fun e=>h e.symm)]
  cases cs[j]?<;>simp[h]
theorem AG{b:Nat}{p:bc}{q:Nat->bc}{n:Nat}{cs:List AV}(hW:aM G base H gh w)(hB:gR gh n w b p q cs){off:Nat}{v:AV}(hv:cs[off]?=some v)(r:bc)(hr:r≠.outer)(hq:∀ j,q j≠.none/\q j≠.outer/\q j≠p)(aj1:∀ i j,q i=q j->i=j)(m:Nat) :
  ∃ aK u,(∀ b o,aK.S b o->gh.S b o)/\Step (fun o=>o=q off) m gh w aK w/\Ext m gh w aK w/\(∀ b o,aK.S b o->b<w.heap.size)/\(∀ b,aK.κ b≠.none->base<=b/\b<w.heap.size)/\gR aK n w b p q (bU off cs) /\
   w.cell? ⟨b,off,none⟩=some u/\u.oneCell'=true/\CR aK n w r u v:=by
 have dH:=fun b hb=>hW.bL (gh:=gh) b hb
 obtain⟨hκ,hS,C,ty,hb,hC,fF⟩:=hB
 have agC:off<cs.length:=(apw.1 hv).1
 have agD:off<C.size:=by omega
 have hu:C[off]?=some C[off]:=apJ agD
 have cP:w.cell? ⟨b,off,none⟩=some C[off]:=by rw[cell_of_row w b off C ty _ hb,hu]
 obtain⟨h1,h2⟩:=fF off _ v hu hv
 rcases h2 with Jx|⟨e,rfl,DU,b',cap,C',kP,lo,hi,sz,gy,hk,he,gb,Jm,zP,hl,hh,hS'⟩
 ·refine⟨gh,C[off],fun _ _ h=>h,Step.refl _ _ _ _ dH,Ext.refl _ _ _ dH,hW.nB,hW.oT,⟨hκ,hS,C,ty,hb,by simp[bU];exact hC,fun j u x Bc xb=>?_⟩,cP,h1,.inl Jx⟩
  rw[qu] at xb
  split at xb
  ·simp only[apt] at xb
   obtain⟨y,hy,rfl⟩:=xb
   obtain⟨k1,k2⟩:=fF j u y Bc hy
   exact⟨k1,.inl k2.dropped⟩
  ·exact fF j u x Bc xb
 ·have aU:b' < w.heap.size:=(apD.1 gb).1
  have st:=jc hW aU r m
  rw[hk] at st
  have bC:b≠b':=by rintro rfl;rw[hκ] at hk;exact (hq off).2.2 hk.symm
  have hn:gh.κ b'≠.none:=by rw[hk];exact (hq off).1
  refine⟨gh.mG b' r,C[off],fun _ _ h=>h,st,rz hW aU hr hn (by rw[hk];exact (hq off).2.1) m,hW.nB,?_,⟨by simp[Gh.mG,bC,hκ],hS,C,ty,hb,by simp[bU];exact hC,fun j u x Bc xb=>?_⟩,cP,h1,
   .inr ⟨e,rfl,DU,b',cap,C',kP,lo,hi,sz,gy,by simp[Gh.mG],he,gb,Jm,zP,hl,hh,hS'⟩⟩
  ·intro b1 A'
   have jd:(if b1=b' then r else gh.κ b1)≠.none:=A'
   split at jd
   ·rename_i e;rw[e];exact hW.oT b' hn
   ·exact hW.oT b1 jd
  ·have st':=jc hW aU r n
   rw[hk] at st'
   rw[qu] at xb
   split at xb
   ·rename_i hj
    subst hj
    rw[hv] at xb
    simp only[Option.map_some,apv] at xb
    subst xb
    rw[hu] at Bc;injection Bc with Bc;subst Bc
    exact⟨h1,.inl (.plain _ _ DU)⟩
   ·rename_i hj
    obtain⟨k1,k2⟩:=fF j u x Bc xb
    exact⟨k1,k2.mono st' (apz _) (fun e=>hj (aj1 _ _ e))⟩
theorem aM.TT{aK:Gh}{touch:bc->Prop}(hW:aM G base H gh w)(st:Step touch H.length gh w aK w'){loc:Nat}{ty:TypeId}{cs0:List AV}(hH:H[loc]?=some (.box ty cs0))(ht:∀ l,l≠loc->¬ touch (.hb l)/\∀ j,¬ touch (.hs l j))
  (hs:∀ b o,aK.S b o->b<w'.heap.size) (hk:∀ b,aK.κ b≠.none->base<=b/\b<w'.heap.size) {cs:List AV} (hB:gR aK H.length w' (aK.ρ loc) (.hb loc) (fun j=>.hs loc j) cs) (hr:cs.all (aV loc)=true) (qT:∀ b o,aK.S b o->gh.S b o) (hlen:cs.length=cs0.length) :
  aM G base (H.set loc (.box ty cs)) aK w':=by
 have aU:loc<H.length:=(apw.1 hH).1
 refine⟨aqC hW.size st.size,hs,hk,fun g j x hx=>?_,fun l kP ds hl=>?_,fun l kP ds hl=>?_,fun g hg=>(hW.xg g hg).imp fun ty h=>st.len g ty _ h,hW.kj st (fun b o m h=>.inl (qT b o h)),fun l o hl=>?_,fun l kP ds hl=>?_⟩
 ·obtain⟨v,h1,h2,h3⟩:=hW.aO g j x hx
  exact⟨v,(st.cell g j h3).trans h1,h2.mono st.S st.cell st.mp,st.S g j h3⟩
 ·rw[aqE]
  rw[ap6] at hl
  split at hl
  ·rename_i e
   subst e
   simp only[apv,ct.box.injEq] at hl
   obtain⟨rfl,rfl⟩:=hl
   exact hB
  ·rename_i e
   have h:=(hW.boxes l kP ds hl).mono st (apz _) (ht l (aqM e)).1 (ht l (aqM e)).2
   rw[st.ρ l (apw.1 hl).1];exact h
 ·rw[ap6] at hl
  split at hl
  ·rename_i e
   subst e
   simp only[apv,ct.box.injEq] at hl
   obtain⟨rfl,rfl⟩:=hl
   exact hr
  ·exact hW.refs l kP ds hl
 ·rw[aqE]
  rw[ap6] at hl
  split at hl
  ·rename_i e
   subst e
   injection hl with hl
   subst hl
   trivial
  ·rename_i e
   rw[st.ρ l (apw.1 hl).1]
   exact (hW.more l o hl).mono st (apz _) (ht l (aqM e)).1 (ht l (aqM e)).2
 ·rw[ap6] at hl
  split at hl
  ·rename_i e
   subst e
   simp only[apv,ct.box.injEq] at hl
   obtain⟨rfl,rfl⟩:=hl
   intro hf
   have hm:=hW.types loc _ cs0 hH hf
   rw[st.ρ loc aU,hlen]
   exact st.len _ _ _ hm
  ·rename_i e
   rw[st.ρ l (apw.1 hl).1]
   exact fun hf=>st.len _ _ _ (hW.types l kP ds hl hf)
theorem aM.u6{aK:Gh}{touch:bc->Prop}(hW:aM G base H gh w)(st:Step touch H.length gh w aK w'){loc:Nat}(aU:loc<H.length)(ht:∀ l,l≠loc->¬ touch (.hb l)/\∀ j,¬ touch (.hs l j))
  (hs:∀ b o,aK.S b o->b<w'.heap.size) (hk:∀ b,aK.κ b≠.none->base<=b/\b<w'.heap.size) {o:ct} (M8:∀ ty cs,o≠.box ty cs) (hM:tn aK H.length w' (aK.ρ loc) loc o)
  (qT:∀ b o m,aK.S b o->gh.S b o\/(w'.cell? ⟨b,o,none⟩=some (.int .u8 m)->∃ C fr,w'.heap[b]?=some (.cells C iS fr))):aM G base (H.set loc o) aK w':=by
 have box:∀ {l:Nat} {ty:TypeId} {ds:List AV},(H.set loc o)[l]?=some (.box ty ds)->l≠loc/\H[l]?=some (.box ty ds):=by
  intro l ty ds hl
  rw[ap6] at hl
  split at hl
  ·injection hl with hl;exact absurd hl (M8 ty ds)
  ·rename_i e;exact⟨aqM e,hl⟩
 refine⟨aqC hW.size st.size,hs,hk,fun g j x hx=>?_,fun l kP ds hl=>?_,fun l kP ds hl=>?_,fun g hg=>(hW.xg g hg).imp fun ty h=>st.len g ty _ h,hW.kj st qT,fun l o' hl=>?_,fun l kP ds hl hf=>?_⟩
 ·obtain⟨v,h1,h2,h3⟩:=hW.aO g j x hx
  exact⟨v,(st.cell g j h3).trans h1,h2.mono st.S st.cell st.mp,st.S g j h3⟩
 ·obtain⟨bC,hl⟩:=box hl
  rw[aqE,st.ρ l (apw.1 hl).1]
  exact (hW.boxes l kP ds hl).mono st (apz _) (ht l bC).1 (ht l bC).2
 ·exact hW.refs l kP ds (box hl).2
 ·rw[aqE]
  rw[ap6] at hl
  split at hl
  ·rename_i e
   subst e
   injection hl with hl
   subst hl
   exact hM
  ·rename_i e
   rw[st.ρ l (apw.1 hl).1]
   exact (hW.more l o' hl).mono st (apz _) (ht l (aqM e)).1 (ht l (aqM e)).2
 ·obtain⟨bC,hl⟩:=box hl
  rw[st.ρ l (apw.1 hl).1]
  exact st.len _ _ _ (hW.types l kP ds hl hf)
theorem aM.zo(hW:aM G base H gh w){ob:Obj}(hp:dP w w' ob){o:ct}(M8:∀ ty cs,o≠.box ty cs)(hM:tn (gh.bg w.heap.size H.length) (H.length+1) w' w.heap.size H.length o) :
  aM G base (H++[o]) (gh.bg w.heap.size H.length) w':=by
 have st:=fR hW hp
 have old:∀ {l:Nat} {o' : ct},(H++[o])[l]?=some o'->(l<H.length/\H[l]?=some o')\/(l=H.length/\o'=o):=by
  intro l o' hl
  by_cases aU:l<H.length
  ·rw[apN aU] at hl;exact .inl ⟨aU,hl⟩
  ·rw[apM (by omega)] at hl
   have hz:l=H.length:=by
    have:=(apw.1 hl).1
    simp at this;omega
   subst hz
   simp at hl
   exact .inr ⟨rfl,hl.symm⟩
 refine⟨aqC hW.size st.size,?_,?_,fun g j x hx=>?_,fun l kP ds hl=>?_,fun l kP ds hl=>?_,fun g hg=>(hW.xg g hg).imp fun ty h=>st.len g ty _ h,hW.kj st (fun b o m h=>h.elim .inl (fun h=>h.2.elim)),fun l o' hl=>?_,fun l kP ds hl hf=>?_⟩
 ·intro b o ho
  rw[hp.size]
  rcases ho with ho|⟨_,ho⟩
  ·have:=hW.nB b o ho;omega
  ·exact ho.elim
 ·intro b hb
  rw[hp.size]
  have gb:(if b=w.heap.size then bc.hb H.length else gh.κ b)≠.none:=hb
  split at gb
  ·rename_i e
   have:=hW.size
   omega
  ·have:=hW.oT b gb;omega
 ·obtain⟨v,h1,h2,h3⟩:=hW.aO g j x hx
  exact⟨v,(st.cell g j h3).trans h1,h2.mono st.S st.cell st.mp,st.S g j h3⟩
 ·rcases old hl with ⟨aU,hl⟩|⟨_,h⟩
  ·rw[apL,ap3,st.ρ l aU]
   exact (hW.boxes l kP ds hl).mono st (aqo _) id (fun _=>id)
  ·exact absurd h.symm (M8 kP ds)
 ·rcases old hl with ⟨aU,hl⟩|⟨_,h⟩
  ·exact hW.refs l kP ds hl
  ·exact absurd h.symm (M8 kP ds)
 ·rw[apL,ap3]
  rcases old hl with ⟨aU,hl⟩|⟨rfl,rfl⟩
  ·rw[st.ρ l aU]
   exact (hW.more l o' hl).mono st (aqo _) id (fun _=>id)
  ·have hρ:(gh.bg w.heap.size H.length).ρ H.length=w.heap.size:=by simp[Gh.bg]
   rw[hρ];exact hM
 ·rcases old hl with ⟨aU,hl⟩|⟨_,h⟩
  ·rw[st.ρ l aU]
   exact st.len _ _ _ (hW.types l kP ds hl hf)
  ·exact absurd h.symm (M8 kP ds)
theorem GY{cs:List AV}{off:Nat}{y:AV}(h:y∈bU off cs):y∈cs\/∃ x,x∈cs/\y=x.drop:=by
 obtain⟨j,hj⟩:=aqb h
 rw[qu] at hj
 split at hj
 ·simp only[apt] at hj
  obtain⟨x,hx,rfl⟩:=hj
  exact .inr ⟨x,apF hx,rfl⟩
 ·exact .inl (apF hj)
theorem ve{cs:List AV}{off loc:Nat}(h:cs.all (aV loc)=true):(bU off cs).all (aV loc)=true:=by
 refine apA.2 fun y hy=>?_
 rcases GY hy with hy|⟨x,hx,rfl⟩
 ·exact apA.1 h y hy
 ·exact oQ (apA.1 h x hx)
theorem lM{n:Nat}{T:ax}{gen:Nat}{tm:Nat->Value}{i:Nat}{v:Value}{x:AV}(hx:aq x=true)(h:CR gh n w (.sl i) v x):SR gh n nt w T gen tm i v x:=by
 cases x<;>first|exact h|(simp[aq] at hx)
theorem CR.aq{n:Nat}{p:bc}{v:Value}{x:AV}(h:CR gh n w p v x):aq x=true:=by
 rcases h with h|⟨e,rfl,_⟩
 ·cases h with
  | plain _ _ h=>cases h<;>rfl
  | full=>rfl
  | ref=>rfl
  | sref=>rfl
  | mref=>rfl
  | func=>rfl
  | iface=>rfl
  | agg=>rfl
  | tuple=>rfl
 ·rfl
theorem iY{x:AV}(h:Abs.aq x=true):aP x=none:=by cases x<;>first|rfl|(simp[Abs.aq] at h)
theorem BM{t:TypeId}(hg:lj P t=some false){b off:Nat}{u:Value}(hc:w.cell? ⟨b,off,none⟩=some u):(Instr.loadAt t (.pointer (some ⟨b,off,none⟩))).run P w=.ok u w:=by
 simp[Instr.loadAt,Instr.sureAddr,loadVar,iu hg,hc]
theorem CH(hW:aM G base s.H gh w)(hF:FR L nt gh w a s){o:Oper}{t:TypeId}{x:Operand}{y:ar}{take agg:Bool}{sz:Nat}{z:AV}{s' : AS}(ho:o.op=.load t x)(hc:ak nt x=some y)(hg:lj P t=some agg)(hs:dg P t=some sz)
  (he:cQ s take agg sz (y.addr G s.T)=some (z,some s')) (hd:∀ k,o.dst=some k->k<nt) :
  ∃ v' aK w',sP P a o w v' w'/\Out G base nt L gh w a s o.dst z s' v' aK w':=by
 have hv:=arg_val hW hF hc
 generalize hY:y.addr G s.T=Y at hv he
 cases Y<;>simp only[cQ] at he<;>try (cases he;done)
 case eptr cs=>simp at he
 case ref loc off =>
  obtain⟨aU,mC⟩:=VR.lS (hv:VR gh s.H.length w (a.eval x) (.ref loc off))
  split at he
  ·rename_i Ox cs hH
   simp only[apt,apx] at he
   obtain⟨u,hu,rfl,hn⟩:=he
   cases hq:(take&&!agg) with
   | false=>rw[hq] at hn;cases hn
   | true =>
    rw[hq] at hn
    simp only[cond_true,apv] at hn
    subst hn
    simp only[Bool.and_eq_true,aqg] at hq
    obtain⟨rfl,rfl⟩:=hq
    simp only[ah,apE,cond_true,apt] at hu
    obtain⟨u',hu,rfl⟩:=hu
    obtain⟨aK,uv,hSS,st,hE,pb,gm,hB,cP,fX,kQ⟩:=AG hW (hW.boxes loc _ cs hH) hu (N7 o.dst) (ni _) (by simp) (by simp) s.H.length
    have hρ:aK.ρ loc=gh.ρ loc:=st.ρ loc aU
    have lk:aM G base (s.H.set loc (.box Ox (bU off cs))) aK w:=hW.TT st hH (by intro l hl;simp[hl]) pb gm (by rw[hρ];exact hB) (ve (hW.refs loc _ cs hH)) hSS (by simp[bU])
    have Af:FR L nt aK w a (s.fC ⟨s.H.set loc (.box Ox (bU off cs)),loc⟩):=hF.grown st (fun i=>⟨by simp,by simp,by simp⟩) (by simp)
    refine⟨uv,aK,w,.inl ?_,Out.of (s1:=s.fC ⟨s.H.set loc (.box Ox (bU off cs)),loc⟩) (gen':=s.gen) lk Af hE (apz _) hd (.inl (iY kQ.aq)) (fun k hk=>?_)⟩
    ·simp[execOp,ho,mC,BM hg cP]
    ·rw[hk] at kQ
     have:(s.fC ⟨s.H.set loc (.box Ox (bU off cs)),loc⟩).H.length=s.H.length:=by simp[AS.fC]
     rw[this]
     exact lM kQ.aq kQ
  ·simp at he
  ·simp at he
  ·cases he
 case lref b g off =>
  obtain⟨hb,Jq,hr⟩:=(hv:_/\_/\_)
  split at he
  ·rename_i g' cs hT
   obtain⟨h0,tH⟩:=ab he
   clear he
   have DX:g=g':=by simpa [dX] using h0
   subst DX
   rename _=some (z,some s')=>he
   simp only[apt,apx] at he
   obtain⟨u,hu,rfl,hn⟩:=he
   cases hq:(take&&!agg) with
   | false=>rw[hq] at hn;cases hn
   | true =>
    rw[hq] at hn
    simp only[cond_true,apv] at hn
    subst hn
    simp only[Bool.and_eq_true,aqg] at hq
    obtain⟨rfl,rfl⟩:=hq
    simp only[ah,apE,cond_true,apt] at hu
    obtain⟨u',hu,rfl⟩:=hu
    obtain⟨k,hk,M0⟩:=vb hF hb hT
    have mC:=hr (by rw[hT];rfl) k hk
    obtain⟨aK,uv,hSS,st,hE,pb,gm,hB,cP,fX,kQ⟩:=AG hW M0 hu (N7 o.dst) (ni _) (by simp) (by simp) s.H.length
    have lk:aM G base s.H aK w:=hW.step st (by simp) pb gm (fun b o _ h=>.inl (hSS b o h))
    have Af:FR L nt aK w a (s.bu b (.lbox g (bU off cs))) :=
     hF.bu (H':=s.H) (lo':=s.lo) st (apz _) (fun i hi=>⟨by simp,by simp,by intro j e;injection e with e _;exact hi e⟩) (.inl ⟨hb,by rw[hT];rfl⟩) (fun _=>⟨by
      have h:=hF.slot b hb
      rw[hT] at h
      exact h.1,k,hk,hB⟩)
    refine⟨uv,aK,w,.inl ?_,Out.of (s1:=s.bu b (.lbox g (bU off cs))) (gen':=s.gen) lk Af hE (apz _) hd (.inl (iY kQ.aq)) (fun k hk=>?_)⟩
    ·simp[execOp,ho,mC,BM hg cP]
    ·rw[hk] at kQ
     exact lM kQ.aq kQ
  ·cases he
 case eref b g i zz off =>
  split at he
  ·obtain⟨_,he⟩:=ab he
   simp only[apu] at he
   obtain⟨r,_,he⟩:=he
   obtain⟨_,he⟩:=ab he
   simp at he
  ·cases he
end
end
section
section
variable {P:Program}{G:Nat->List AV}{base nt:Nat}{L:List Nat}{gh:Gh}{w w' : World}{a:Act}{s:AS}{H:ag}
theorem pf(hW:aM G base s.H gh w)(hF:FR L nt gh w a s){x:Operand}{y:ar}(hc:ak nt x=some y)(hf:aq (y.eval G s.T)=true)(p:bc)(hp:p≠.outer) :
  ∃ aK,aM G base s.H aK w/\FR L nt aK w a (s.bH y)/\Ext s.H.length gh w aK w/\Step (fun r=>∃ t,r=.sl t) s.H.length gh w aK w/\CR aK s.H.length w p (a.eval x) (y.eval G s.T):=by
 have dH:=fun b hb=>hW.bL (gh:=gh) b hb
 have stay:s.bH y=s->VR gh s.H.length w (a.eval x) (y.eval G s.T)->∃ aK,aM G base s.H aK w/\FR L nt aK w a (s.bH y)/\Ext s.H.length gh w aK w/\Step (fun r=>∃ t,r=.sl t) s.H.length gh w aK w/\CR aK s.H.length w p (a.eval x) (y.eval G s.T):=by
  intro h1 h2
  rw[h1]
  exact⟨gh,hW,hF,Ext.refl _ _ _ dH,Step.refl _ _ _ _ dH,.inl h2⟩
 cases y with
 | tmp t =>
  obtain⟨rfl,ht⟩:=gW hc
  have hd:=cc hW hF hc rfl hf
  simp only[ar.eval] at hf hd stay ⊢
  cases hT:s.T t with
  | slice e own =>
   cases own with
   | false =>
    rw[hT] at hd stay
    exact stay (by simp[AS.bH,hT]) hd
   | true =>
    obtain⟨aK,h1,h2,h3,h4,h5⟩:=rT hW hF ht hT p hp
    refine⟨aK,h1,?_,h3,h4.mono (fun r h=>⟨t,h⟩),h5⟩
    simpa [AS.bH,hT] using h2
  | _ =>
   rw[hT] at hd stay
   exact stay (by simp[AS.bH,hT]) hd
 | cr v =>
  refine stay rfl ?_
  cases x with
  | tmp k =>
   simp only[ak] at hc
   rcases aql (Nat.blt k nt) with hb|hb<;>rw[hb] at hc<;>simp at hc
  | const u =>
   simp only[ak,apt] at hc
   obtain⟨z,hz,h⟩:=hc
   injection h with h
   subst h
   exact iQ hz
  | global g=>simp[ak] at hc
  | func f=>simp[ak] at hc
 | aO g =>
  refine stay rfl ?_
  have:=cc hW hF hc rfl hf
  exact this
 | fn f =>
  refine stay rfl ?_
  have:=cc hW hF hc rfl hf
  exact this
theorem TK{b:Nat} : ({ S:=fun b' o=>gh.S b' o\/(b'=b/\(fun _=>False) o),κ:=fun b'=>if b'=b then gh.κ b else gh.κ b',ρ:=gh.ρ } : Gh)=gh:=by
 obtain⟨S,κ,ρ⟩:=gh
 congr 1
 ·funext b' o
  simp
 ·funext b'
  by_cases h:b'=b
  ·subst h;simp
  ·simp[h]
theorem nA(hW:aM G base H gh w){b:Nat}{C C' : Array Value}{ty:TypeId}{fr:Nat × Nat}(hb:w.heap[b]?=some (.cells C ty fr))(gM:C'.size=C.size)(cP:∀ o,gh.S b o->C'[o]?=C[o]?)(n:Nat) :
  Step (fun r=>r=gh.κ b) n gh w gh (w.setRow b C'):=by
 have h:=pI hW hb gM (fun _=>False) cP (gh.κ b) n
 rw[TK] at h
 exact h
theorem zt(hW:aM G base H gh w){b:Nat}{C C' : Array Value}{ty:TypeId}{fr:Nat × Nat}(hb:w.heap[b]?=some (.cells C ty fr))(gM:C'.size=C.size)(cP:∀ o,gh.S b o->C'[o]?=C[o]?)(h0:gh.κ b≠.none)(h1:gh.κ b≠.outer)(n:Nat) :
  Ext n gh w gh (w.setRow b C') :=
 ⟨(nA hW hb gM cP n).mono (fun r h=>by rw[h];exact⟨h0,h1⟩),fun _ h=>h⟩
def fj(C:Array Value)(off:Nat)(D:Array Value):Array Value:=(C.toList.take off++D.toList++C.toList.drop (off+D.toList.length)).toArray
theorem jE{C D:Array Value}{off:Nat}(h:off+D.size<=C.size)(j:Nat):(fj C off D)[j]?=if off<=j/\j<off+D.size then D[j-off]? else C[j]?:=by
 have abv:min off C.size=off:=by omega
 unfold fj
 simp only[apW,aqB,apL,ard,apR,ap',asb,ap7,abv]
 by_cases h1:j<off
 ·have e1:j<off+D.size:=by omega
  rw[if_pos e1,if_pos h1,if_pos h1,if_neg (by omega)]
 ·by_cases h2:j<off+D.size
  ·rw[if_pos h2,if_neg h1,if_pos ⟨by omega,h2⟩]
  ·rw[if_neg h2,if_neg (by omega)]
   congr 1;omega
theorem cY{C D:Array Value}{off:Nat}(h:off+D.size<=C.size):(fj C off D).size=C.size:=by
 unfold fj;simp;omega
theorem wV{t:TypeId}{sz:Nat}(hs:dg P t=some sz){b off:Nat}{C:Array Value}{ty:TypeId}(hb:w.heap[b]?=some (.cells C ty (0,0))){v:Value}(hv:v.cells.size=sz)(jm:off+sz<=C.size)(fX:∀ u∈v.cells.toList,u.oneCell'=true) :
  (Instr.storeAt t (.pointer (some ⟨b,off,none⟩)) v).run P w=.ok () (w.setRow b (fj C off v.cells)):=by
 have h:=run_storeCells_at P b off ty v.cells.toList 0 C w hb (by simp;omega) fX
 simp only[aqO] at h
 simp[Instr.storeAt,Instr.sureAddr,storeVar,dE hs,hv,h,fj]
theorem vo(hW:aM G base H gh w){b:Nat}{p:bc}{q:Nat->bc}{n:Nat}{cs vs:List AV}(hB:gR gh n w b p q cs){off sz:Nat}{t:TypeId}(hs:dg P t=some sz){v:Value}(pQ:vs.length=sz)(agC:off+sz<=cs.length)
  (hv:v.cells.size=sz) (cy:∀ (j:Nat) (u:Value) (x:AV),v.cells[j]?=some u->vs[j]?=some x->u.oneCell'=true/\CR gh n w (q (off+j)) u x) (hq:∀ j,q j≠p) (hp:p≠.none/\p≠.outer) (m:Nat) :
  ∃ w',(Instr.storeAt t (.pointer (some ⟨b,off,none⟩)) v).run P w=.ok () w'/\Step (fun r=>r=p) m gh w gh w'/\Ext m gh w gh w'/\w'.heap.size=w.heap.size/\gR gh n w' b p q (putAt cs off vs):=by
 obtain⟨hκ,hS,C,ty,hb,hC,fF⟩:=hB
 have jI:∀ o,gh.S b o->(fj C off v.cells)[o]?=C[o]?:=fun o ho=>(hS o ho).elim
 have yK:(fj C off v.cells).size=C.size:=cY (by omega)
 have st:=nA hW hb yK jI m
 have stn:=nA hW hb yK jI n
 have hE:=zt hW hb yK jI (by rw[hκ];exact hp.1) (by rw[hκ];exact hp.2) m
 rw[hκ] at st stn
 have jm:off+v.cells.size<=C.size:=by omega
 refine⟨_,wV hs hb hv (by omega) ?_,st,hE,by simp,hκ,hS,_,ty,setRow_heap w b C _ ty _ hb,by rw[cY jm,pG (by omega)];exact hC,fun j u x Bc xb=>?_⟩
 ·intro u hu
  obtain⟨j,hj⟩:=aqb hu
  have hJ:v.cells[j]?=some u:=by simpa using hj
  have aU:j<vs.length:=by rw[pQ,<- hv];exact (apD.1 hJ).1
  exact (cy j u _ hJ (apy aU)).1
 ·rw[jE jm] at Bc
  rw[sG (by omega)] at xb
  have e1:v.cells.size=vs.length:=by omega
  rw[e1] at Bc
  split at Bc
  ·rename_i hc
   rw[if_pos hc] at xb
   obtain⟨k1,k2⟩:=cy _ u x Bc xb
   rw[show off+(j-off)=j by omega] at k2
   exact⟨k1,k2.mono stn (apz _) (hq j)⟩
  ·rename_i hc
   rw[if_neg hc] at xb
   obtain⟨k1,k2⟩:=fF j u x Bc xb
   exact⟨k1,k2.mono stn (apz _) (hq j)⟩
theorem ui{n:Nat}{v:Value}{x:AV}{vs:List AV}{q:Nat->bc}{off:Nat}(h:CR gh n w (q off) v x)(hc:x.cells=some vs) :
  v.cells.size=vs.length/\∀ (j:Nat) (u:Value) (y:AV),v.cells[j]?=some u->vs[j]?=some y->u.oneCell'=true/\CR gh n w (q (off+j)) u y:=by
 rcases h with h|⟨e,rfl,DU,hO⟩
 ·have hr:=sh h hc
  exact⟨hr.1,fun j u y hu hy=>⟨(hr.2 j u y hu hy).2,.inl (hr.2 j u y hu hy).1⟩⟩
 ·have e1:vs=[.slice e true]:=by simpa [AV.cells] using hc.symm
  subst e1
  have fX:=DU.fg
  have:v.cells=#[v]:=by obtain⟨b,cap,_,_,_,_,_,rfl,_⟩:=hO;rfl
  rw[this]
  refine⟨rfl,fun j u y hu hy=>?_⟩
  cases j with
  | zero=>simp at hu hy;subst hu hy;exact⟨fX,.inr ⟨e,rfl,DU,hO⟩⟩
  | succ j=>simp at hu
theorem gL{x:AV}{vs:List AV}(h:x.cells=some vs):aq x=true:=by cases x<;>first|rfl|cases h
theorem gz(s:AS)(y:ar):(s.bH y).H=s.H/\(s.bH y).gen=s.gen/\(s.bH y).lo=s.lo:=by
 cases y with
 | tmp t=>simp only[AS.bH];split<;>exact⟨rfl,rfl,rfl⟩
 | _=>exact⟨rfl,rfl,rfl⟩
theorem LF(s:AS)(y:ar)(b:Nat)(h:∀ e,s.T b≠.slice e true):(s.bH y).T b=s.T b:=by
 cases y<;>simp only[AS.bH]
 rename_i t
 split
 ·rename_i e hT
  by_cases hb:b=t
  ·subst hb;exact absurd hT (h e)
  ·simp[AS.bu,df,hb]
 ·rfl
theorem nC(s:AS)(t:Nat)(h:∀ e,s.T t≠.slice e true):s.bH (.tmp t)=s:=by
 simp only[AS.bH]
theorem sM(s:AS)(t:Nat){e:List (List AV)}(h:s.T t=.slice e true):s.bH (.tmp t)=s.bu t (.slice e false):=by
 simp only[AS.bH,h]
theorem zC(s:AS)(y:ar)(b:Nat)(X:AV)(h:∀ e,s.T b≠.slice e true)(hX:∀ e,X≠.slice e true):(s.bu b X).bH y=(s.bH y).bu b X:=by
 cases y<;>try rfl
 rename_i t
 by_cases hb:t=b
 ·subst hb
  rw[nC s t h,nC _ t (by simpa [AS.bu,df] using hX)]
 ·have e1:(s.bu b X).T t=s.T t:=by simp[AS.bu,df,hb]
  by_cases ho:∃ e,s.T t=.slice e true
  ·obtain⟨e,ho⟩:=ho
   rw[sM s t ho,sM (s.bu b X) t (by rw[e1,ho])]
   simp only[AS.bu]
   congr 1
   funext k
   simp only[df]
   by_cases h1:k=t
   ·subst h1;simp[hb]
   ·by_cases h2:k=b
    ·subst h2;simp[h1]
    ·simp[h1,h2]
  ·have mY:∀ e,s.T t≠.slice e true:=fun e he=>ho ⟨e,he⟩
   rw[nC s t mY,nC (s.bu b X) t (by rw[e1];exact mY)]
theorem vZ(s:AS)(y:ar)(c:gk):(s.fC c).bH y=(s.bH y).fC c:=by
 cases y<;>simp only[AS.bH]
 rename_i t
 show (match s.T t with|.slice e true=>(s.fC c).bu t (.slice e false)|_=>s.fC c)=_
 cases hT:s.T t<;>try rfl
 rename_i e own
 cases own<;>rfl
theorem Out.skip{aK:Gh}{s1:AS}{d:Option Nat}(hW:aM G base s1.H aK w')(hF:FR L nt aK w' a s1)(hE:Ext s.H.length gh w aK w')(hd:∀ k,d=some k->k<nt):Out G base nt L gh w a s d .undef s1 undef aK w' :=
 Out.of (gen':=s1.gen) hW hF hE (apz _) hd (.inl rfl) (fun k hk=>.inl VR.undef)
theorem NU{cs vs:List AV}{off:Nat}{f:AV->Bool}(h1:cs.all f=true)(h2:vs.all f=true):(putAt cs off vs).all f=true:=by
 refine apA.2 fun x hx=>?_
 unfold putAt at hx
 rcases apC.1 hx with hx|hx
 ·rcases apC.1 hx with hx|hx
  ·exact apA.1 h1 x (arI hx)
  ·exact apA.1 h2 x hx
 ·exact apA.1 h1 x (List.mem_of_mem_drop hx)
theorem F0(hW:aM G base s.H gh w)(hF:FR L nt gh w a s){o:Oper}{t:TypeId}{xa xv:Operand}{ya yv:ar}{sz:Nat}{s' : AS}(ho:o.op=.store t xa xv)(DW:ak nt xa=some ya)(P5:ak nt xv=some yv)(hs:dg P t=some sz)
  (he:gA s sz (ya.addr G s.T) (yv.eval G s.T)=some s') (hd:∀ k,o.dst=some k->k<nt) :
  ∃ v' aK w',sP P a o w v' w'/\Out G base nt L gh w a s o.dst .undef (s'.bH yv) v' aK w':=by
 have ha:=arg_val hW hF DW
 unfold gA at he
 split at he
 ·cases he
 rename_i vs pQ
 obtain⟨hlen,he⟩:=ab he
 have hlen:vs.length=sz:=by simpa [dX] using hlen
 have C1:=gL pQ
 generalize hY:ya.addr G s.T=Y at ha he
 cases Y<;>simp only at he<;>try (cases he;done)
 case ref loc off =>
  obtain⟨aU,mC⟩:=VR.lS (ha:VR gh s.H.length w (a.eval xa) (.ref loc off))
  split at he
  ·rename_i Ox cs hH
   obtain⟨h0,he⟩:=ab he
   injection he with he
   subst he
   simp only[Bool.and_eq_true,Nat.ble_eq] at h0
   obtain⟨j4,oZ,wB,A7,LH,kQ⟩:=pf hW hF P5 C1 (.hs loc off) (by simp)
   have hρ:j4.ρ loc=gh.ρ loc:=LH.ρ loc aU
   obtain⟨gM,cy⟩:=ui (q:=fun j=>.hs loc j) kQ pQ
   obtain⟨w',cE,wX,yB,wJ,hB⟩:=vo (P:=P) oZ (oZ.boxes loc _ cs hH) hs hlen h0.1 (by omega) cy (by simp) (by simp) s.H.length
   have CZ:aM G base (s.H.set loc (.box Ox (putAt cs off vs))) j4 w':=oZ.TT wX hH (by intro l hl;simp[hl]) (fun b o ho=>by rw[wJ];exact oZ.nB b o ho) (fun b hb=>by rw[wJ];exact oZ.oT b hb) hB (NU (oZ.refs loc _ cs hH) h0.2) (fun _ _ h=>h) (pG (by omega))
   have hS:=gz s yv
   have Jn:FR L nt j4 w' a ((s.bH yv).fC ⟨s.H.set loc (.box Ox (putAt cs off vs)),loc⟩):=wB.grown (by rw[hS.1];exact wX) (fun i=>⟨by simp,by simp,by simp⟩) (by rw[hS.1];simp)
   refine⟨undef,j4,w',.inr ⟨?_,rfl⟩,?_⟩
   ·simp[execOp,ho,mC,<- hρ,cE]
   ·rw[vZ]
    exact Out.skip (s1:=(s.bH yv).fC ⟨s.H.set loc (.box Ox (putAt cs off vs)),loc⟩) CZ Jn (A7.trans yB (apz _)) hd
  ·rename_i cs hH
   obtain⟨h0,he⟩:=ab he
   injection he with he
   subst he
   simp only[Bool.and_eq_true,Nat.ble_eq] at h0
   obtain⟨j4,oZ,wB,A7,LH,kQ⟩:=pf hW hF P5 C1 (.hs loc off) (by simp)
   have hρ:j4.ρ loc=gh.ρ loc:=LH.ρ loc aU
   obtain⟨gM,cy⟩:=ui (q:=fun j=>.hs loc j) kQ pQ
   obtain⟨w',cE,wX,yB,wJ,hB⟩:=vo (P:=P) oZ (oZ.more loc _ hH:gR j4 s.H.length w (j4.ρ loc) (.hb loc) (fun j=>.hs loc j) cs) hs hlen h0.1 (by omega) cy (by simp) (by simp) s.H.length
   have CZ:aM G base (s.H.set loc (.cj (putAt cs off vs))) j4 w':=oZ.u6 wX aU (by intro l hl;simp[hl]) (fun b o ho=>by rw[wJ];exact oZ.nB b o ho) (fun b hb=>by rw[wJ];exact oZ.oT b hb) (fun _ _ h=>by cases h) hB (fun _ _ _ h=>.inl h)
   have hS:=gz s yv
   have Jn:FR L nt j4 w' a ((s.bH yv).fC ⟨s.H.set loc (.cj (putAt cs off vs)),loc⟩):=wB.grown (by rw[hS.1];exact wX) (fun i=>⟨by simp,by simp,by simp⟩) (by rw[hS.1];simp)
   refine⟨undef,j4,w',.inr ⟨?_,rfl⟩,?_⟩
   ·simp[execOp,ho,mC,<- hρ,cE]
   ·rw[vZ]
    exact Out.skip (s1:=(s.bH yv).fC ⟨s.H.set loc (.cj (putAt cs off vs)),loc⟩) CZ Jn (A7.trans yB (apz _)) hd
  ·cases he
 case lref b g off =>
  obtain⟨hb,Jq,hr⟩:=(ha:_/\_/\_)
  split at he
  ·rename_i g' cs hT
   obtain⟨h0,he⟩:=ab he
   injection he with he
   subst he
   simp only[Bool.and_eq_true,Nat.ble_eq,dX,apS] at h0
   obtain⟨⟨rfl,h0⟩,_⟩:=h0
   obtain⟨k,hk,_⟩:=vb hF hb hT
   have mC:=hr (by rw[hT];rfl) k hk
   obtain⟨j4,oZ,wB,A7,LH,kQ⟩:=pf hW hF P5 C1 (.sc b off) (by simp)
   have hS:=gz s yv
   have Vq:(s.bH yv).T b=.lbox g cs:=by rw[LF _ _ _ (by rw[hT];simp),hT]
   obtain⟨k',gm,hB1⟩:=vb wB hb Vq
   have hkk:k'=k:=by rw[hk] at gm;injection gm with h;injection h with h;injection h with h;exact h.symm
   subst hkk
   rw[hS.1] at hB1
   obtain⟨gM,cy⟩:=ui (q:=fun j=>.sc b j) kQ pQ
   obtain⟨w',cE,wX,yB,wJ,hB⟩:=vo (P:=P) oZ hB1 hs hlen h0 (by omega) cy (by simp) (by simp) s.H.length
   have CZ:aM G base s.H j4 w':=oZ.step wX (by simp) (fun b o ho=>by rw[wJ];exact oZ.nB b o ho) (fun b hb=>by rw[wJ];exact oZ.oT b hb) (fun _ _ _ h=>.inl h)
   have Jn:FR L nt j4 w' a ((s.bH yv).bu b (.lbox g (putAt cs off vs))):=by
    refine wB.bu (H':=(s.bH yv).H) (lo':=(s.bH yv).lo) (by rw[hS.1];exact wX) (apz _) (fun i hi=>⟨by simpa using hi,by simp,by simp⟩) (.inl ⟨hb,by rw[Vq];rfl⟩) (fun _=>⟨?_,k',hk,?_⟩)
    ·have h:=wB.slot b hb
     rw[Vq] at h
     exact h.1
    ·rw[hS.1];exact hB
   refine⟨undef,j4,w',.inr ⟨?_,rfl⟩,?_⟩
   ·simp[execOp,ho,mC,cE]
   ·rw[zC _ _ _ _ (by rw[hT];simp) (by simp)]
    exact Out.skip (s1:=(s.bH yv).bu b (.lbox g (putAt cs off vs))) (by show aM G base (s.bH yv).H j4 w';rw[hS.1];exact CZ) Jn (A7.trans yB (apz _)) hd
  ·cases he
 case eref b g i z off =>
  obtain⟨hb,Jq,hr⟩:=(ha:_/\_/\_)
  split at he
  ·rename_i g' e hT
   obtain⟨h0,K0⟩:=ab he
   have DX:g=g':=by simpa [dX] using h0
   clear he
   subst DX
   simp only[apu] at K0
   obtain⟨r,K7,tH⟩:=K0
   obtain⟨h1,ZD⟩:=ab tH
   injection ZD with ZD
   subst ZD
   simp only[Bool.and_eq_true,Nat.ble_eq,dX,apS] at h1
   obtain⟨⟨hrz,agC⟩,mJ⟩:=h1
   obtain⟨j4,oZ,wB,A7,LH,kQ⟩:=pf hW hF P5 C1 .none (by simp)
   have hS:=gz s yv
   have Vq:(s.bH yv).T b=.lsl g e:=by rw[LF _ _ _ (by rw[hT];simp),hT]
   obtain⟨ad,cap,gy,bI⟩:=n4 wB hb Vq
   rcases bI with ⟨rfl,_⟩|⟨k,C,ty,jj,abx,rfl,hκ,hS1,K2,hC,hl,Qs,fF⟩
   ·simp at K7
   have mC:=hr (by rw[hT];rfl) k _ _ gy
   have Jy:jj=z:=by rw[<- hrz,Qs i r K7]
   subst Jy
   have M6:i<e.length:=(apw.1 K7).1
   obtain⟨gM,cy⟩:=ui (q:=fun _=>.none) (off:=0) kQ pQ
   have agI:∀ (j:Nat) (x:AV),(vs.map AV.drop)[j]?=some x->∃ u,(a.eval xv).cells[j]?=some u/\PR j4.S w u x:=by
    intro j x hx
    simp only[apG,apt] at hx
    obtain⟨y,hy,rfl⟩:=hx
    have hj:j<(a.eval xv).cells.size:=by rw[gM];exact (apw.1 hy).1
    have hu:=apJ hj
    refine⟨_,hu,(cy j _ y hu hy).2.dropped.kb (apA.1 mJ _ (ap9.2 ⟨y,apF hy,rfl⟩))⟩
   have jm:i*jj+off+(a.eval xv).cells.size<=C.size:=by
    have h2:(i+1)*jj<=e.length*jj:=ap4 _ M6
    have h3:e.length*jj<=cap*jj:=ap4 _ hl
    rw[aqd] at h2
    omega
   have jI:∀ o,j4.S k o->(fj C (i*jj+off) (a.eval xv).cells)[o]?=C[o]?:=fun o ho=>(hS1 o ho).elim
   have wX:=nA oZ K2 (cY jm) jI s.H.length
   have yB:=zt oZ K2 (cY jm) jI (by rw[hκ];simp) (by rw[hκ];simp) s.H.length
   rw[hκ] at wX
   have cE:=wV (P:=P) (w:=w) (off:=i*jj+off) hs K2 (v:=a.eval xv) (by omega) (by omega) (fun u hu=>by
    obtain⟨j,hj⟩:=aqb hu
    have hJ:(a.eval xv).cells[j]?=some u:=by simpa using hj
    have aU:j<vs.length:=by rw[<- gM];exact (apD.1 hJ).1
    exact (cy j u _ hJ (apy aU)).1)
   have CZ:aM G base s.H j4 (w.setRow k (fj C (i*jj+off) (a.eval xv).cells)):=oZ.step wX (by simp) (fun b o ho=>by simpa using oZ.nB b o ho) (fun b hb=>by simpa using oZ.oT b hb) (fun _ _ _ h=>.inl h)
   have w9:off+(vs.map AV.drop).length<=r.length:=by simp;omega
   have Jn:FR L nt j4 (w.setRow k (fj C (i*jj+off) (a.eval xv).cells)) a ((s.bH yv).bu b (.lsl g (e.set i (putAt r off (vs.map AV.drop))))):=by
    refine wB.bu (H':=(s.bH yv).H) (lo':=(s.bH yv).lo) (by rw[hS.1];exact wX) (apz _) (fun i hi=>⟨by simpa using hi,by simp,by simp⟩) (.inl ⟨hb,by rw[Vq];rfl⟩) (fun _=>⟨?_,?_⟩)
    ·have h:=wB.slot b hb
     rw[Vq] at h
     exact h.1
    ·refine⟨some ⟨k,0,none⟩,cap,by simpa using gy,.inr ⟨k,_,ty,jj,(by intro h0;have:=ar0 List.length h0;simp at this;exact abx this),rfl,hκ,hS1,setRow_heap w k C _ ty _ K2,by rw[cY jm,hC],by simpa using hl,?_,?_⟩⟩
     ·intro i' r' zP
      rw[ap6] at zP
      split at zP
      ·rename_i yH
       injection zP with zP
       subst zP
       rw[pG w9];exact hrz
      ·exact Qs i' r' zP
     ·intro i' j r' x zP hj
      rw[jE jm]
      rw[ap6] at zP
      split at zP
      ·rename_i yH
       subst yH
       injection zP with zP
       subst zP
       rw[sG w9] at hj
       have K3:(vs.map AV.drop).length=(a.eval xv).cells.size:=by simp[gM]
       rw[K3] at hj
       by_cases hc:off<=j/\j<off+(a.eval xv).cells.size
       ·rw[if_pos hc] at hj
        rw[if_pos (by omega)]
        obtain⟨u,hu,hp⟩:=agI _ x hj
        refine⟨u,?_,hp.mono wX.S wX.cell wX.mp⟩
        rw[show i*jj+j-(i*jj+off)=j-off by omega];exact hu
       ·rw[if_neg hc] at hj
        rw[if_neg (by omega)]
        obtain⟨u,hu,hp⟩:=fF i j r x K7 hj
        exact⟨u,hu,hp.mono wX.S wX.cell wX.mp⟩
      ·rename_i yH
       have DZ:j<jj:=by rw[<- Qs i' r' zP];exact (apw.1 hj).1
       have bC:¬ (i*jj+off<=i' * jj+j/\i' * jj+j<i*jj+off+(a.eval xv).cells.size):=by
        rintro ⟨c1,c2⟩
        have:i=i':=by
         rcases aq5 i i' with h'|h'|h'
         ·have:(i+1)*jj<=i' * jj:=ap4 _ h'
          rw[aqd] at this;omega
         ·exact h'
         ·have:(i' + 1)*jj<=i*jj:=ap4 _ h'
          rw[aqd] at this;omega
        exact yH this
       rw[if_neg bC]
       obtain⟨u,hu,hp⟩:=fF i' j r' x zP hj
       exact⟨u,hu,hp.mono wX.S wX.cell wX.mp⟩
   refine⟨undef,j4,w.setRow k (fj C (i*jj+off) (a.eval xv).cells),.inr ⟨?_,rfl⟩,?_⟩
   ·simp[execOp,ho,mC,cE]
   ·rw[zC _ _ _ _ (by rw[hT];simp) (by simp)]
    exact Out.skip (s1:=(s.bH yv).bu b (.lsl g (e.set i (putAt r off (vs.map AV.drop))))) (by show aM G base (s.bH yv).H j4 _;rw[hS.1];exact CZ) Jn (A7.trans yB (apz _)) hd
  ·cases he
end
end
section
section
variable {P:Program}{G:Nat->List AV}{base nt:Nat}{L:List Nat}{gh:Gh}{w w' : World}{a:Act}{s:AS}{H:ag}
theorem Jo{sz:Nat}{f:List (List AV)}(h:fM sz f=true){r:List AV}(hr:f[0]?=some r):r.length=sz:=by
 unfold fM at h
 cases f with
 | nil=>simp at hr
 | cons q f=>simp at hr;subst hr;simpa [dX] using h
theorem zK{sz jj:Nat}{f:List (List AV)}(h:fM sz f=true)(bI:∀ (i:Nat) (r:List AV),f[i]?=some r->r.length=jj)(bC:f≠[]):jj=sz:=by
 cases f with
 | nil=>exact absurd rfl bC
 | cons q f=>rw[<- bI 0 q rfl];exact Jo h rfl
theorem v8{S:Nat->Nat->Prop}{V:Value}{f:List (List AV)}{sz:Nat}{tx:TypeId}(h:PR S w V (.slice f false))(hk:(∃ e',P.underlying tx=some (.slice e'))\/P.underlying tx=some .string)(hh:fM sz f=true) :
  ∃ news:List Value,Src P sz tx V f.length news w/\iD S w sz news.toArray f /\
   ((V=.slice none 0 0/\f=[])\/∃ b o cap,V=.slice (some ⟨b,o,none⟩) f.length cap/\f.length<=cap/\∀ j,j<f.length*sz->S b (o+j)/\w.cell? ⟨b,o+j,none⟩=news[j]?):=by
 cases h with
 | cW=>exact⟨[],⟨hk,fun _=>rfl,run_firstCells_none w sz 0 0 0,run_firstCells_none w.drew sz 0 0 0,by simp,fun _ h=>by cases h⟩,⟨by simp,fun i r h=>by simp at h,fun i j r x h=>by simp at h⟩,.inl ⟨rfl,rfl⟩⟩
 | slice b o n cap jj _ fn hn jP bI cP cy =>
  subst hn
  have gM:f≠[]->jj=sz:=fun bC=>zK hh bI bC
  let news:List Value:=(List.range (f.length*sz)).map fun k=>(w.cell? ⟨b,o+k,none⟩).getD undef
  have hlen:news.length=f.length*sz:=by simp[news]
  have key:∀ k,k<f.length*sz->∃ u,news[k]?=some u/\w.cell? ⟨b,o+k,none⟩=some u/\u.oneCell'=true/\S b (o+k)/\∀ r x,f[k / sz]?=some r->r[k % sz]?=some x->PR S w u x:=by
   intro k hk
   obtain⟨h1,h2,h3⟩:=rZ hk
   have bC:f≠[]:=by rintro rfl;simp at h1
   have hr:=apy h1
   have hlr:f[k / sz].length=sz:=by rw[bI _ _ hr,gM bC]
   have hx:=apy (show k % sz<f[k / sz].length by omega)
   obtain⟨c1,c2,c3⟩:=cP _ _ _ _ hr hx
   rw[gM bC,aq',h3] at c1 c2
   refine⟨fn (k / sz) (k % sz),?_,c2,c3,c1,fun r x zP n8=>cy _ _ _ _ zP n8⟩
   simp only[news,apG,List.getElem?_range hk,Option.map_some,c2,Option.getD_some]
  have ZN:∀ j u,news[j]?=some u->w.cell? ((⟨b,o,none⟩:Addr).add j)=some u:=by
   intro j u hj
   have aU:j<f.length*sz:=by rw[<- hlen];exact (apw.1 hj).1
   obtain⟨u',h1,h2,_⟩:=key j aU
   rw[h1] at hj;injection hj with hj;subst hj
   rw[gI];exact h2
  refine⟨news,⟨hk,fun _=>rfl,run_firstCells_some w sz _ ⟨b,o,none⟩ f.length cap news hlen ZN,run_firstCells_some w.drew sz _ ⟨b,o,none⟩ f.length cap news hlen (by simpa using ZN),hlen,fun u hu=>?_⟩,⟨by simp[hlen],fun i r hr=>?_,fun i j r x hi hj=>?_⟩,.inr ⟨b,o,cap,rfl,jP,fun j hj=>?_⟩⟩
  ·obtain⟨j,hj⟩:=aqb hu
   have aU:j<f.length*sz:=by rw[<- hlen];exact (apw.1 hj).1
   obtain⟨u',h1,_,h3,_⟩:=key j aU
   rw[h1] at hj;injection hj with hj;subst hj
   exact h3
  ·rw[bI i r hr,gM (by rintro rfl;simp at hr)]
  ·have bC:f≠[]:=by rintro rfl;simp at hi
   have oR:=(apw.1 hi).1
   have DZ:j<sz:=by rw[<- gM bC,<- bI i r hi];exact (apw.1 hj).1
   obtain⟨u,h1,_,_,_,h5⟩:=key (i*sz+j) (tP oR DZ)
   refine⟨u,by simpa using h1,h5 r x ?_ ?_⟩
   ·rw[arN,Nat.mul_add_div (by omega),Nat.div_eq_of_lt DZ];simpa using hi
   ·rw[arN,Nat.mul_add_mod,Nat.mod_eq_of_lt DZ];exact hj
  ·obtain⟨u,h1,h2,_,h4,_⟩:=key j hj
   exact⟨h4,by rw[h2,h1]⟩
theorem Y5{S:Nat->Nat->Prop}{q:ByteArray}{l:List UInt8}(hq:q.data.toList=l){tx:TypeId}(hk:(∃ e',P.underlying tx=some (.slice e'))\/P.underlying tx=some .string) :
  ∃ news:List Value,Src P 1 tx (.string q) l.length news w/\iD S w 1 news.toArray (l.map fun (b:UInt8)=>[AV.int .u8 b.toNat]):=by
 subst hq
 have hl:q.data.toList.length=q.size:=by simp
 refine⟨byteCells q,?_,by simp[byteCells],fun i r hr=>?_,fun i j r x hi hj=>?_⟩
 ·rw[hl]
  exact⟨hk,fun _=>rfl,firstCells_string q w,firstCells_string q w.drew,by rw[byteCells_length,ar'],fun u hu=>by
   obtain⟨_,_,rfl⟩:=ap9.1 hu
   rfl⟩
 ·simp only[apG,apt] at hr
  obtain⟨y,_,rfl⟩:=hr
  rfl
 ·simp only[apG,apt] at hi
  obtain⟨y,hy,rfl⟩:=hi
  cases j with
  | succ j=>simp at hj
  | zero =>
   simp only[apH,apv] at hj
   subst hj
   refine⟨.int .u8 y.toNat,?_,.int _ _⟩
   simp only[byteCells,apW,apG,ar',aqO,hy,Option.map_some]
theorem iD.append{S:Nat->Nat->Prop}{sz:Nat}{A B:List Value}{E F:List (List AV)}(h1:iD S w sz A.toArray E)(h2:iD S w sz B.toArray F):iD S w sz (A++B).toArray (E++F):=by
 have hA:A.length=E.length*sz:=by simpa using h1.1
 have hB:B.length=F.length*sz:=by simpa using h2.1
 refine⟨by simp[hA,hB,aqd],fun i r hi=>?_,fun i j r x hi hj=>?_⟩
 ·rw[aqB] at hi
  split at hi
  ·exact h1.2.1 i r hi
  ·exact h2.2.1 _ r hi
 ·rw[aqB] at hi
  split at hi
  ·obtain⟨v,hv,hp⟩:=h1.2.2 i j r x hi hj
   have:i*sz+j<A.length:=by have:=(apD.1 hv).1;simpa using this
   refine⟨v,?_,hp⟩
   simp only[apW] at hv ⊢
   rw[apN this];exact hv
  ·rename_i ZE
   obtain⟨v,hv,hp⟩:=h2.2.2 _ j r x hi hj
   refine⟨v,?_,hp⟩
   simp only[apW] at hv ⊢
   have e1:i*sz=E.length*sz+(i-E.length)*sz:=by rw[<- aqd];congr 1;omega
   rw[apM (by rw[hA,e1];omega),hA,e1]
   rw[show E.length*sz+(i-E.length)*sz+j-E.length*sz=(i-E.length)*sz+j by omega];exact hv
theorem iD.ak7{S S' : Nat->Nat->Prop}{sz:Nat}{A C' : Array Value}{E:List (List AV)}{b:Nat}{ty:TypeId}{fr:Nat × Nat}(h:iD S w sz A E)(hS:∀ b o,S b o->S' b o)(hc:∀ b o,S b o->w'.cell? ⟨b,o,none⟩=w.cell? ⟨b,o,none⟩)(hm:∀ b E ck,S b 0->w.heap[b]?=some (.map E ck)->w'.heap[b]?=some (.map E ck))
  (hb:w'.heap[b]?=some (.cells C' ty fr)) (hA:∀ j,j<A.size->C'[j]?=A[j]?) (hq:∀ j,j<E.length*sz->S' b j) (cap:Nat) (jP:E.length<=cap):PR S' w' (.slice (some ⟨b,0,none⟩) E.length cap) (.slice E false):=by
 have key:∀ (i j:Nat) (r:List AV) (x:AV),E[i]?=some r->r[j]?=some x->∃ v,A[i*sz+j]?=some v/\PR S w v x/\i*sz+j<A.size/\A.getD (i*sz+j) undef=v:=by
  intro i j r x hi hj
  obtain⟨v,hv,vJ⟩:=h.2.2 i j r x hi hj
  have aU:=(apD.1 hv).1
  refine⟨v,hv,vJ,aU,?_⟩
  rw[apJ aU] at hv
  injection hv with hv
  simp[aU,hv]
 refine .slice b 0 E.length cap sz E (fun i j=>A.getD (i*sz+j) undef) rfl jP h.2.1 ?_ ?_
 ·intro i j r x hi hj
  obtain⟨v,hv,vJ,aU,hg⟩:=key i j r x hi hj
  rw[Nat.zero_add,hg]
  refine⟨hq _ (by rw[<- h.1];exact aU),?_,vJ.fg⟩
  rw[cell_of_row w' b _ C' ty fr hb,hA _ aU,hv]
 ·intro i j r x hi hj
  obtain⟨v,hv,vJ,aU,hg⟩:=key i j r x hi hj
  rw[hg]
  exact vJ.mono hS hc hm
structure wc (P:Program) (t e:TypeId) (sz bytes:Nat):Prop where
 ht:P.underlying t=some (.slice e)
 hi:∃ i z,P.info? e=some i/\i.zero=some z/\i.size=sz/\i.bytes=bytes/\z.cells.size=sz
 pos:0<sz
theorem grow{t tx ty e:TypeId}{sz bytes:Nat}(hT:wc P t e sz bytes){ao:Option Addr}{sLen sCap n:Nat}{olds news:List Value}{x:Value}(hold:(Builtin.firstCells sz sLen (.slice ao sLen sCap)).run P w.drew=.ok olds.toArray w.drew)
  (Qn:olds.length=sLen*sz) (hs:Src P sz tx x n news w) (hg:sCap<sLen+n) (h63:sLen+n<=70368744177664) (hby:(sLen+n)*bytes<=70368744177664) :
  ∃ uh C' ,(Builtin.append_ #[t,tx] ty #[.slice ao sLen sCap,x]).run P w=.ok (.slice (some ⟨w.heap.size,0,none⟩) (sLen+n) uh) (w.drew.alloc (.cells C' e))/\sLen+n<=uh/\C'.size=uh*sz/\∀ j,j<(olds++news).toArray.size->C'[j]?=(olds++news).toArray[j]?:=by
 obtain⟨i,z,hi,hz,rfl,rfl,hzs⟩:=hT.hi
 have h:=run_append_grow_src (P:=P) w t tx ty e i z hT.ht hi hz ao sLen sCap olds hold x n news hs hg (by omega) (growslice_fits hg (by omega))
 have jP:=grownCap_ge w (sLen+n) sCap e
 refine⟨_,_,h,jP,?_,fun j hj=>?_⟩
 ·rw[Array.size_append,size_zeroCells,hzs]
  simp only[aqX,apL,Qn,hs.newsLen]
  rw[<- aqd,<- aqd]
  congr 1;omega
 ·rw[ar4 hj]
theorem room{t tx ty e e2:TypeId}{sz bytes:Nat}(hT:wc P t e sz bytes){b sLen sCap n:Nat}{news:List Value}{x:Value}{C:Array Value}{fr:Nat × Nat}(hs:Src P sz tx x n news w)(hb:w.heap[b]?=some (.cells C e2 fr))(C1:fr.2<=sLen*sz)
  (nQ:sLen+n<=sCap) (jm:sLen*sz+news.length<=C.size) :
  (Builtin.append_ #[t,tx] ty #[.slice (some ⟨b,0,none⟩) sLen sCap,x]).run P w=.ok (.slice (some ⟨b,0,none⟩) (sLen+n) sCap) (w.setRow b (fj C (sLen*sz) news.toArray)):=by
 obtain⟨i,z,hi,hz,rfl,rfl,hzs⟩:=hT.hi
 have pe:=run_storeCells_atF P b (sLen*i.size) e2 fr news 0 C w hb (by simpa using C1) (by simpa using jm) hs.one
 simp only[aqO] at pe
 rcases hs.kind with ⟨e',hk⟩|hk<;>simp[Builtin.append_,run_underlying hT.ht,run_underlying hk,sizeOf,typeInfo,hi,hs.len,nQ,hs.cells,Addr.add_lit,pe,fj]
theorem CR.given(hW:aM G base s.H gh w)(hF:FR L nt gh w a s){v:Value}{e:List (List AV)}{own:Bool}(h:CR gh s.H.length w .ret v (.slice e own))(p:bc)(hp:p≠.outer) :
  ∃ aK,aM G base s.H aK w/\FR L nt aK w a s/\Ext s.H.length gh w aK w/\CR aK s.H.length w p v (.slice e own):=by
 have dH:=fun b hb=>hW.bL (gh:=gh) b hb
 rcases h with hv|⟨e',heq,DU,b,cap,C,ty,lo,hi,sz,gy,hk,he,hb,hC,hr,hl,hh,hS⟩
 ·exact⟨gh,hW,hF,Ext.refl _ _ _ dH,.inl hv⟩
 ·injection heq with h1 h2
  subst h1 h2
  have aU:b<w.heap.size:=(apD.1 hb).1
  have st:=jc hW aU p s.H.length
  rw[hk] at st
  have hn:gh.κ b≠.none:=by rw[hk];simp
  exact⟨gh.mG b p,Jl hW aU p hn (by rw[hk];simp),hF.grown (H':=s.H) (lo':=s.lo) st (fun i=>⟨by simp,by simp,by simp⟩) (apz _),rz hW aU hp hn (by rw[hk];simp) _,.inr ⟨e,rfl,DU,b,cap,C,ty,lo,hi,sz,gy,by simp[Gh.mG],he,hb,hC,hr,hl,hh,hS⟩⟩
theorem Iv{n:Nat}{tx:TypeId}{sz:Nat}{x:Value}{news:List Value}(h:Src P sz tx x n news w):(Builtin.firstCells sz n x).run P w.drew=.ok news.toArray w.drew:=h.cellsD
theorem Il(hW:aM G base s.H gh w)(hF:FR L nt gh w a s){t tx ty e:TypeId}{sz bytes:Nat}(hT:wc P t e sz bytes){V X:Value}{E F:List (List AV)}{news:List Value}
  (h:CR gh s.H.length w .ret V (.slice E true)) (hs:Src P sz tx X F.length news w) (cS:iD gh.S w sz news.toArray F) (jm:cC sz bytes E F=true) {isB:Bool} (pa:nY isB (E++F)=true) (Qe:isB=true->e=iS) (bC:F≠[]) (p:bc) (hp:p≠.outer) :
  ∃ v' aK w',(Builtin.append_ #[t,tx] ty #[V,X]).run P w=.ok v' w'/\aM G base s.H aK w'/\FR L nt aK w' a s/\Ext s.H.length gh w aK w'/\CR aK s.H.length w' p v' (.slice (E++F) true):=by
 simp only[cC,Bool.and_eq_true,Nat.ble_eq] at jm
 obtain⟨⟨⟨A',jd⟩,hE⟩,_⟩:=jm
 have hFl:0<F.length:=aqj.2 bC
 have DU:PR gh.S w V (.slice E false):=by
  rcases h with h|⟨e',heq,DU,_⟩
  ·exact (VR.dropped h).iK
  ·injection heq with h1;subst h1;exact DU
 obtain⟨olds,Qt,ZP,Jw⟩:=v8 (P:=P) (tx:=t) (sz:=sz) DU (.inl ⟨_,hT.ht⟩) hE
 have Qn:olds.length=E.length*sz:=Qt.newsLen
 have dy:=ZP.append cS
 have new:∀ ao cap,V=.slice ao E.length cap->cap<E.length+F.length->∃ v' aK w',(Builtin.append_ #[t,tx] ty #[V,X]).run P w=.ok v' w'/\aM G base s.H aK w'/\FR L nt aK w' a s/\Ext s.H.length gh w aK w'/\CR aK s.H.length w' p v' (.slice (E++F) true):=by
  intro ao cap hV aU
  subst hV
  obtain⟨uh,C',cE,jP,Jm,Gv⟩:=grow (P:=P) (ty:=ty) hT (Iv Qt) Qn hs aU jd A'
  have j5:dP w (w.drew.alloc (.cells C' e)) (.cells C' e):=.drew w _
  have st:=ij hW j5 hp (fun o=>o<(E++F).length*sz) s.H.length
  have lk:=hW.alloc j5 hp (fun o=>o<(E++F).length*sz) (fun k m hk hc=>by
   rw[cell_of_row _ _ k _ _ _ j5.new,Gv k (by rw[dy.1];exact hk)] at hc
   have:=nZ dy pa Qe hk hc
   subst this
   exact⟨C',(0,0),j5.new⟩)
  have vJ:=dy.slice (gh:=gh) rfl j5 (p:=p) hW.nB Gv (q:=fun o=>o<(E++F).length*sz) (fun j hj=>hj) uh (by rw[apL];exact jP)
  refine⟨_,_,_,cE,lk,hF.grown (H':=s.H) (lo':=s.lo) st (fun i=>⟨id,id,fun _=>id⟩) (apz _),nk hW j5 hp _ _,.inr ⟨E++F,rfl,?_,?_⟩⟩
  ·have e1:E.length+F.length=(E++F).length:=by rw[apL]
   rw[e1];exact vJ
  ·refine⟨w.heap.size,uh,C',e,0,0,sz,by rw[apL],by simp[Gh.alloc],by simp[bC],j5.new,Jm,dy.2.1,by rw[apL];exact jP,aqF _,?_⟩
   rintro o ho (hs|⟨_,hs⟩)
   ·have:=hW.nB _ _ hs;omega
   ·omega
 rcases h with h|⟨e',heq,_,b,cap,C,kP,lo,hi,jj,gy,hk,he,hb,hC,hr,hl,hh,hS⟩
 ·cases h with
  | plain _ _ h=>cases h
  | full ao k _ h =>
   have hk:k=E.length:=by cases h with
    | cW=>rfl
    | slice _ _ _ _ _ _ _ hn=>exact hn.symm
   subst hk
   exact new ao E.length rfl (by omega)
 ·injection heq with h1
  subst h1
  by_cases aU:cap<E.length+F.length
  ·exact new _ cap gy aU
  ·subst gy
   have gM:jj=sz:=zK hE hr he
   subst gM
   have nQ:E.length+F.length<=cap:=by omega
   have jm:E.length*jj+news.length<=C.size:=by rw[hs.newsLen,hC,<- aqd];exact ap4 _ nQ
   have cE:=room (P:=P) (ty:=ty) hT hs hb hh nQ jm
   have lx:E.length*jj+news.toArray.size<=C.size:=by simpa using jm
   have hold:∀ o,gh.S b o->(fj C (E.length*jj) news.toArray)[o]?=C[o]?:=by
    intro o ho
    have:o<E.length*jj:=by
     rcases aqP o (E.length*jj) with h|h
     ·exact h
     ·exact absurd ho (hS o h)
    rw[jE lx,if_neg (by omega)]
   have st:=pI hW hb (cY lx) (fun o=>o<(E++F).length*jj) hold p s.H.length
   have hn:gh.κ b≠.none:=by rw[hk];simp
   have Zx:=xx hW hb (cY lx) (fun o=>o<(E++F).length*jj) hold hp hn (by rw[hk];simp) s.H.length
   have VH:∀ j,j<(olds++news).toArray.size->(fj C (E.length*jj) news.toArray)[j]?=(olds++news).toArray[j]?:=by
    intro j hj
    have anL:news.length=F.length*jj:=hs.newsLen
    simp only[aqX,apL] at hj
    rw[jE lx]
    simp only[apW,aqX]
    rw[aqB]
    split
    ·rw[if_neg (by omega),Qn]
    ·rename_i jI
     have hJ:j<E.length*jj:=by omega
     rw[if_pos (by omega)]
     rcases Jw with ⟨_,Oj⟩|⟨b2,o2,afs,hV2,_,tF⟩
     ·exact absurd Oj he
     ·injection hV2 with h1 h2 h3
      injection h1 with h1
      injection h1 with h1 h4
      subst h1 h4
      have:=(tF j hJ).2
      rw[Nat.zero_add,cell_of_row w b j C kP _ hb] at this
      exact this
   have Qv:∀ k m,k<(E++F).length*jj->(fj C (E.length*jj) news.toArray)[k]?=some (.int .u8 m)->kP=iS:=by
    intro k m hk hc
    rw[VH k (by rw[dy.1];exact hk)] at hc
    refine nZ dy pa (fun hB=>?_) hk hc
    subst hB
    cases E with
    | nil=>exact absurd rfl he
    | cons r0 E0 =>
     have Oq:∃ m0,r0=[.int .u8 m0]:=by
      have:xJ (r0 :: E0++F)=true:=pa
      simp only[xJ,ap2,List.all_cons,Bool.and_eq_true] at this
      have h1:=this.1
      split at h1
      ·exact⟨_,rfl⟩
      ·cases h1
     obtain⟨m0,rfl⟩:=Oq
     rcases Jw with ⟨_,Oj⟩|⟨b2,o2,afs,hV2,_,tF⟩
     ·cases Oj
     ·injection hV2 with h1 h2 h3
      injection h1 with h1
      injection h1 with h1 h4
      subst h1 h4
      have h5:=hr 0 _ rfl
      simp only[ap3] at h5
      obtain⟨v,hv,hp⟩:=ZP.2.2 0 0 _ _ rfl rfl
      cases hp
      simp only[apW,ars,Nat.zero_add] at hv
      have h6:=tF 0 (by simp;omega)
      rw[Nat.zero_add,hv] at h6
      obtain⟨C2,fr2,h7⟩:=hW.bytes _ _ _ h6.1 h6.2
      rw[hb] at h7
      injection h7 with h7
      injection h7
   have lk:=LC hW hb (cY lx) (fun o=>o<(E++F).length*jj) hold Qv p hn (by rw[hk];simp)
   have zE:=st
   rw[hk] at st
   have H2:news.length=F.length*jj:=hs.newsLen
   refine⟨_,_,_,cE,lk,hF.grown (H':=s.H) (lo':=s.lo) st (fun i=>⟨by simp,by simp,by simp⟩) (apz _),Zx,.inr ⟨E++F,rfl,?_,?_⟩⟩
   ·rw[<- apL]
    refine dy.ak7 st.S st.cell st.mp (setRow_heap w b C _ kP _ hb) (fun j hj=>?_) (fun j hj=>.inr ⟨rfl,hj⟩) cap (by rw[apL];exact nQ)
    simp only[aqX,apL] at hj
    rw[jE lx]
    simp only[apW,aqX]
    rw[aqB]
    split
    ·rw[if_neg (by omega),Qn]
    ·rename_i jI
     have hJ:j<E.length*jj:=by omega
     rw[if_pos (by omega)]
     rcases Jw with ⟨_,Oj⟩|⟨b2,o2,afs,hV2,_,tF⟩
     ·exact absurd Oj he
     ·injection hV2 with h1 h2 h3
      injection h1 with h1
      injection h1 with h1 h4
      subst h1 h4
      have:=(tF j hJ).2
      rw[Nat.zero_add,cell_of_row w b j C kP _ hb] at this
      exact this
   ·refine⟨b,cap,_,kP,lo,hi,jj,by rw[apL],by simp,by simp[he],setRow_heap w b C _ kP _ hb,by rw[cY lx,hC],dy.2.1,by rw[apL];exact nQ,?_,?_⟩
    ·rw[apL,aqd];exact aqC hh (Nat.le_add_right _ _)
    ·rintro o ho (pb|⟨_,pb⟩)
     ·exact hS o (by rw[apL,aqd] at ho;omega) pb
     ·omega
end
end
section
section
variable {P:Program}{G:Nat->List AV}{base nt:Nat}{L:List Nat}{gh:Gh}{w w' : World}{a:Act}{s:AS}{H:ag}
theorem LZ(hW:aM G base s.H gh w)(hF:FR L nt gh w a s){t tx ty e:TypeId}{sz bytes:Nat}(hT:wc P t e sz bytes){t0:Nat}{X:Value}{E F:List (List AV)}{news:List Value}
  (h:qY gh w (.bx t0) (fB a t0) E) (hs:Src P sz tx X F.length news w) (cS:iD gh.S w sz news.toArray F) (jm:cC sz bytes E F=true) (d:Option Nat) :
  ∃ v' aK w',(Builtin.append_ #[t,tx] ty #[fB a t0,X]).run P w=.ok v' w'/\aM G base s.H aK w'/\FR L nt aK w' a (s.bu t0 .any)/\Ext s.H.length gh w aK w'/\qY aK w' (HR d) v' (E++F):=by
 simp only[cC,Bool.and_eq_true,Nat.ble_eq] at jm
 obtain⟨⟨⟨A',jd⟩,hE⟩,hFo⟩:=jm
 have dH:=fun b hb=>hW.bL (gh:=gh) b hb
 have hdo:=ue d
 obtain⟨i,z,hi,_,rfl,_⟩:=hT.hi
 have fX:(fB a t0).oneCell'=true:=by obtain⟨ad,cap,hv,_⟩:=h;rw[hv];rfl
 have afZ:∀ {aK:Gh} {w' : World} {n gen:Nat} {T:ax},SR aK n nt w' T gen (fB a) t0 (fB a t0) .any:=fun {_ _ _ _ _}=>(.inl (.plain _ _ (.any _ fX)):CR _ _ _ _ _ _)
 have stay:FR L nt gh w a (s.bu t0 .any):=hF.bu (touch:=fun _=>False) (H':=s.H) (lo':=s.lo) (Step.refl _ _ _ _ dH) (apz _) (fun i _=>⟨id,id,fun _=>id⟩) (.inr rfl) (fun _=>afZ)
 have new:∀ ao cap olds,fB a t0=.slice ao E.length cap->cap<E.length+F.length->Src P i.size t (.slice ao E.length cap) E.length olds w->iD gh.S w i.size olds.toArray E ->
   ∃ v' aK w',(Builtin.append_ #[t,tx] ty #[fB a t0,X]).run P w=.ok v' w'/\aM G base s.H aK w'/\FR L nt aK w' a (s.bu t0 .any)/\Ext s.H.length gh w aK w'/\qY aK w' (HR d) v' (E++F):=by
  intro ao cap olds hV aU Qt ZP
  obtain⟨uh,C',cE,jP,Jm,Gv⟩:=grow (P:=P) (ty:=ty) hT Qt.cellsD Qt.newsLen hs aU jd A'
  have dy:=ZP.append cS
  have j5:dP w (w.drew.alloc (.cells C' e)) (.cells C' e):=.drew w _
  have st:=ij hW j5 hdo (fun _=>False) s.H.length
  have lk:=hW.alloc j5 hdo (fun _=>False) (fun _ _ h=>h.elim)
  rw[hV]
  have Af:FR L nt (gh.alloc w.heap.size (HR d) fun _=>False) (w.drew.alloc (.cells C' e)) a (s.bu t0 .any) :=
   stay.grown (H':=s.H) (lo':=s.lo) st (fun i=>⟨id,id,fun _=>id⟩) (apz _)
  refine⟨_,_,_,cE,lk,Af,nk hW j5 hdo _ _,some ⟨w.heap.size,0,none⟩,uh,by rw[apL],.inr ⟨w.heap.size,C',e,i.size,?_,rfl,by simp[Gh.alloc],?_,j5.new,Jm,by rw[apL];exact jP,dy.2.1,?_⟩⟩
  ·intro h0
   have:=ar0 List.length h0
   simp at this
   simp[this] at aU
  ·rintro o (ho|⟨_,ho⟩)
   ·have:=hW.nB _ o ho;omega
   ·exact ho
  ·intro k j r x hk hj
   obtain⟨v,hv,hp⟩:=dy.2.2 k j r x hk hj
   refine⟨v,?_,hp.mono st.S st.cell st.mp⟩
   rw[Gv _ (apD.1 hv).1,hv]
 obtain⟨ao,cap,hV,⟨rfl,af6,Gx⟩|⟨b,C,kP,jj,bC,ha,hk,hS,hb,hC,hl,hr,fF⟩⟩:=h
 ·subst af6
  have Qt:Src P i.size t (.slice ao 0 0) 0 [] w:=by
   refine⟨.inl ⟨_,hT.ht⟩,fun _=>rfl,?_,?_,by simp,fun _ h=>by cases h⟩
   ·cases ao with
    | none=>exact run_firstCells_none w _ 0 0 0
    | some ad=>exact run_firstCells_some w _ 0 ad 0 0 [] (by simp) (fun j v h=>by simp at h)
   ·cases ao with
    | none=>exact run_firstCells_none w.drew _ 0 0 0
    | some ad=>exact run_firstCells_some w.drew _ 0 ad 0 0 [] (by simp) (fun j v h=>by simp at h)
  cases F with
  | nil =>
   have hn:news=[]:=by have:=hs.newsLen;simp at this;exact this
   subst hn
   refine⟨_,gh,w,?_,hW,stay,Ext.refl _ _ _ dH,ao,0,rfl,.inl ⟨rfl,rfl,Gx⟩⟩
   rw[hV]
   exact run_append_nothing w t tx ty e i hT.ht hi ao 0 0 (apz _) X hs
  | cons f F=>exact new ao 0 [] hV (by simp) Qt ⟨by simp,fun i r h=>by simp at h,fun i j r x h=>by simp at h⟩
 ·subst ha
  have gM:jj=i.size:=zK hE hr bC
  subst gM
  have hEC:E.length*i.size<=C.size:=by rw[hC];exact ap4 _ hl
  have uJ:(C.toList.take (E.length*i.size)).length=E.length*i.size:=by simp;omega
  have ZP:iD gh.S w i.size (C.toList.take (E.length*i.size)).toArray E:=by
   refine⟨by simp;omega,hr,fun k j r x hk hj=>?_⟩
   obtain⟨u,hu,hp⟩:=fF k j r x hk hj
   refine⟨u,?_,hp⟩
   have h1:=(apw.1 hk).1
   have h2:j<i.size:=by rw[<- hr k r hk];exact (apw.1 hj).1
   simp only[apW,apR,if_pos (tP h1 h2)]
   simpa using hu
  have Qo:∀ u∈C.toList.take (E.length*i.size),u.oneCell'=true:=by
   intro u hu
   obtain⟨k,hk⟩:=aqb hu
   have aU:k<E.length*i.size:=by rw[<- uJ];exact (apw.1 hk).1
   obtain⟨h1,h2,h3⟩:=rZ aU
   have Oq:=apy h1
   have rH:=apy (show k % i.size<E[k / i.size].length by rw[hr _ _ Oq];exact h2)
   obtain⟨u',Qw,hp⟩:=ZP.2.2 _ _ _ _ Oq rH
   rw[h3] at Qw
   simp only[apW] at Qw
   rw[hk] at Qw
   injection Qw with Qw
   subst Qw
   exact hp.fg
  have cP:∀ j u,(C.toList.take (E.length*i.size))[j]?=some u->w.cell? ((⟨b,0,none⟩:Addr).add j)=some u:=by
   intro j u hj
   rw[gI,Nat.zero_add,cell_of_row w b j C kP _ hb]
   rw[apR] at hj
   split at hj
   ·simpa using hj
   ·cases hj
  have Qt:Src P i.size t (.slice (some ⟨b,0,none⟩) E.length cap) E.length (C.toList.take (E.length*i.size)) w:=.ofSlice w hT.ht ⟨b,0,none⟩ E.length cap _ uJ cP Qo
  by_cases aU:cap<E.length+F.length
  ·exact new _ cap _ hV aU Qt ZP
  ·have nQ:E.length+F.length<=cap:=by omega
   have jm:E.length*i.size+news.length<=C.size:=by rw[hs.newsLen,hC,<- aqd];exact ap4 _ nQ
   have cE:=room (P:=P) (ty:=ty) hT hs hb (aqF _) nQ jm
   have lx:E.length*i.size+news.toArray.size<=C.size:=by simpa using jm
   have jI:∀ o,gh.S b o->(fj C (E.length*i.size) news.toArray)[o]?=C[o]?:=fun o ho=>(hS o ho).elim
   have st:=pI hW hb (cY lx) (fun _=>False) jI (HR d) s.H.length
   have hn:gh.κ b≠.none:=by rw[hk];simp
   have Zx:=xx hW hb (cY lx) (fun _=>False) jI hdo hn (by rw[hk];simp) s.H.length
   have lk:=LC hW hb (cY lx) (fun _=>False) jI (fun _ _ h=>h.elim) (HR d) hn (by rw[hk];simp)
   rw[hk] at st
   have Af:=hF.bu (t:=t0) (X:=.any) (H':=s.H) (lo':=s.lo) st (apz _) (fun i hi=>⟨by simpa using hi,by simp,by simp⟩) (.inr rfl) (fun _=>afZ)
   rw[hV]
   have dy:=ZP.append cS
   refine⟨_,_,_,cE,lk,Af,Zx,some ⟨b,0,none⟩,cap,by rw[apL],.inr ⟨b,_,kP,i.size,by simp[bC],rfl,by simp,?_,setRow_heap w b C _ kP _ hb,by rw[cY lx,hC],by rw[apL];exact nQ,dy.2.1,?_⟩⟩
   ·rintro o (ho|⟨_,ho⟩)
    ·exact hS o ho
    ·exact ho
   ·intro k j r x gm hj
    obtain⟨v,hv,hp⟩:=dy.2.2 k j r x gm hj
    refine⟨v,?_,hp.mono st.S st.cell st.mp⟩
    rw[jE lx]
    simp only[apW,aqX] at hv ⊢
    rw[aqB,uJ] at hv
    have H2:news.length=F.length*i.size:=hs.newsLen
    split at hv
    ·rename_i h1
     rw[if_neg (by omega)]
     rw[apR,if_pos h1] at hv
     simpa using hv
    ·rename_i h1
     have h2:=(apw.1 hv).1
     rw[if_pos (by omega)]
     exact hv
theorem sN(hW:aM G base s.H gh w)(hF:FR L nt gh w a s){x:Operand}{y:ar}(hc:ak nt x=some y){sz:Nat}{f:List (List AV)}(he:dW sz (y.eval G s.T)=some f)(hh:fM sz f=true){tx:TypeId}
  (hk:(∃ e',P.underlying tx=some (.slice e'))\/P.underlying tx=some .string):∃ news,Src P sz tx (a.eval x) f.length news w/\iD gh.S w sz news.toArray f:=by
 generalize hY:y.eval G s.T=Y at he
 cases Y<;>simp only[dW] at he<;>try (cases he;done)
 ·rename_i l
  obtain⟨h0,h1⟩:=ab he
  have h0:sz=1:=by simpa [dX] using h0
  subst h0
  injection h1 with h1
  subst h1
  obtain⟨q,hq,hl⟩:=(cc hW hF hc hY rfl).jS
  rw[hq,apQ]
  exact Y5 hl hk
 ·rename_i el own
  injection he with he
  subst he
  obtain⟨news,h1,h2,_⟩:=v8 (P:=P) (tx:=tx) (sz:=sz) (cc hW hF hc hY rfl).iK hk hh
  exact⟨news,h1,h2⟩
 ·injection he with he
  subst he
  rw[(cc hW hF hc hY rfl).kH]
  obtain⟨news,h1,h2,_⟩:=v8 (P:=P) (tx:=tx) (sz:=sz) (PR.cW (S:=gh.S) (w:=w)) hk hh
  exact⟨news,h1,h2⟩
theorem gl{o:Oper}{c:Call}{x y:Operand}{t u:TypeId}(ho:o.op=.call c)(gx:c.callee=.builtin .append)(dF:c.args.toList=[x,y])(jy:c.argTypes.toList=[t,u]){v:Value}
  (cE:(Builtin.append_ #[t,u] o.type #[a.eval x,a.eval y]).run P w=.ok v w'):(execOp a.eval o).run P w=.ok (.value v) w':=by
 have e1:c.args=#[x,y]:=by apply arF;simpa using dF
 have e2:c.argTypes=#[t,u]:=by apply arF;simpa using jy
 unfold execOp
 simp only[ho,resolve,gx,e1,e2,invoke,builtin,Sem.run_bind,Sem.run_pure,Result.andThen_ok,arG,apZ,aqe,cE]
theorem HG{S:Nat->Nat->Prop}{V:Value}{e:List (List AV)}(h:PR S w V (.slice e false)):∃ ao cap,V=.slice ao e.length cap/\e.length<=cap:=by
 cases h with
 | cW=>exact⟨none,0,rfl,apz _⟩
 | slice b o n cap sz _ _ hn jP=>subst hn;exact⟨_,cap,rfl,jP⟩
theorem ME(hW:aM G base s.H gh w)(hF:FR L nt gh w a s){o:Oper}{c:Call}{x y:Operand}{t u e:TypeId}{sz bytes:Nat}{yx yy:ar}{isB wr:Bool}{z:AV}{s' : Option AS}
  (ho:o.op=.call c) (gx:c.callee=.builtin .append) (dF:c.args.toList=[x,y]) (jy:c.argTypes.toList=[t,u]) (hT:wc P t e sz bytes) (Qe:isB=true->e=iS) (hu:(∃ e',P.underlying u=some (.slice e'))\/P.underlying u=some .string)
  (mR:ak nt x=some yx) (wC:ak nt y=some yy) (he:ft G s isB wr sz bytes yx yy=some (z,s')) (hd:∀ k,o.dst=some k->k<nt) (hL:wr=true->∀ k,o.dst=some k->k∈L) :
  ∃ v' aK w',sP P a o w v' w'/\Out G base nt L gh w a s o.dst z (s'.getD s) v' aK w':=by
 have dH:=fun b hb=>hW.bL (gh:=gh) b hb
 have core:∀ (s1:AS) (j4:Gh) (el:List (List AV)) (own:Bool),s1.H=s.H->aM G base s1.H j4 w->FR L nt j4 w a s1->Ext s.H.length gh w j4 w->(∀ b o,gh.S b o->j4.S b o) ->
   CR j4 s1.H.length w .ret (a.eval x) (.slice el own)->bt isB sz bytes (.slice el own) (yy.eval G s.T)=some z ->
   ∃ v' aK w',sP P a o w v' w'/\Out G base nt L gh w a s o.dst z s1 v' aK w':=by
  intro s1 j4 el own hH oZ wB A7 agz kQ jq
  simp only[bt,apu] at jq
  obtain⟨f,hf,jq⟩:=jq
  cases f with
  | nil =>
   simp only[apv] at jq
   subst jq
   obtain⟨news,hs,hr⟩:=sN (P:=P) hW hF wC hf rfl hu
   have hn:news=[]:=by have:=hs.newsLen;simp at this;exact this
   subst hn
   obtain⟨CX,CZ,Jn,yB,PV⟩:=kQ.given oZ wB (N7 o.dst) (ni _)
   obtain⟨ao,cap,hV,hle⟩:=HG (w:=w) (kQ.dropped).iK
   obtain⟨i,z,hi,_,rfl,_⟩:=hT.hi
   refine⟨a.eval x,CX,w,.inl (gl ho gx dF jy ?_),Out.of (s1:=s1) (gen':=s1.gen) CZ Jn (A7.trans yB (by rw[hH];exact apz _)) (apz _) hd (.inl rfl) (fun k hk=>?_)⟩
   ·rw[hV]
    exact run_append_nothing w t u o.type e i hT.ht hi ao _ cap hle _ hs
   ·rw[hk] at PV
    exact PV
  | cons f0 fr =>
   obtain⟨h0,jq⟩:=ab jq
   injection jq with jq
   subst jq
   simp only[Bool.and_eq_true] at h0
   obtain⟨⟨rfl,jm⟩,pa⟩:=h0
   have hh:fM sz (f0 :: fr)=true:=by simp only[cC,Bool.and_eq_true] at jm;exact jm.2
   obtain⟨news,hs,hr⟩:=sN (P:=P) hW hF wC hf hh hu
   have hr1:iD j4.S w sz news.toArray (f0 :: fr):=⟨hr.1,hr.2.1,fun i j r x hi hj=>by
    obtain⟨v,hv,hp⟩:=hr.2.2 i j r x hi hj
    exact⟨v,hv,hp.mono agz (fun _ _ _=>rfl) (fun _ _ _ _ h=>h)⟩⟩
   obtain⟨v',CX,w2,cE,CZ,Jn,yB,PV⟩:=Il (P:=P) (ty:=o.type) oZ wB hT kQ hs hr1 jm pa Qe (by simp) (N7 o.dst) (ni _)
   refine⟨v',CX,w2,.inl (gl ho gx dF jy cE),Out.of (s1:=s1) (gen':=s1.gen) CZ Jn (A7.trans yB (by rw[hH];exact apz _)) (apz _) hd (.inl rfl) (fun k hk=>?_)⟩
   rw[hk] at PV
   exact PV
 have Ug:∀ (t0:Nat) (el f:List (List AV)),x=.tmp t0->t0<nt->qY gh w (.bx t0) (fB a t0) el->dW sz (yy.eval G s.T)=some f->cC sz bytes el f=true->wr=true ->
   ∃ v' aK w',sP P a o w v' w'/\Out G base nt L gh w a s o.dst (.lsl s.gen (el++f)) { s.bu t0 .any with gen:=s.gen+1 } v' aK w':=by
  intro t0 el f hx ht bI hf jm D1
  have hh:fM sz f=true:=by simp only[cC,Bool.and_eq_true] at jm;exact jm.2
  obtain⟨news,hs,hr⟩:=sN (P:=P) hW hF wC hf hh hu
  obtain⟨v',CX,w2,cE,CZ,Jn,yB,ZR⟩:=LZ (P:=P) (ty:=o.type) hW hF hT bI hs hr jm o.dst
  have hxe:a.eval x=fB a t0:=by rw[hx];rfl
  refine⟨v',CX,w2,.inl (gl ho gx dF jy (by rw[hxe];exact cE)),Out.of (s1:=s.bu t0 .any) (gen':=s.gen+1) CZ Jn yB (aqo _) hd (.inr ⟨⟨s.gen,apz _,rfl⟩,hL D1⟩) (fun k hk=>⟨arq _,?_⟩)⟩
  rw[hk] at ZR
  exact ZR
 cases yx with
 | tmp t0 =>
  obtain⟨rfl,ht⟩:=gW mR
  simp only[ft] at he
  split at he
  ·rename_i g el Gl
   simp only[apu] at he
   obtain⟨f,hf,he⟩:=he
   obtain⟨h0,he⟩:=ab he
   simp only[apv,apx] at he
   obtain⟨rfl,rfl⟩:=he
   simp only[Bool.and_eq_true] at h0
   exact Ug t0 el f rfl ht (n4 hF ht Gl) hf h0.2 h0.1
  ·rename_i el own Gl
   cases D1:wr with
   | true =>
    rw[D1] at he
    simp only[cond_true,apu] at he
    obtain⟨f,hf,he⟩:=he
    obtain⟨h0,he⟩:=ab he
    simp only[apv,apx] at he
    obtain⟨rfl,rfl⟩:=he
    simp only[Bool.and_eq_true,List.isEmpty_iff] at h0
    obtain⟨⟨rfl,rfl⟩,jm⟩:=h0
    have kQ:=B0 hF ht Gl
    have bI:qY gh w (.bx t0) (fB a t0) []:=by
     rcases kQ with h|⟨e',heq,_,b,cap,C,ty,lo,hi,jj,gy,hk,bC,_⟩
     ·change VR gh s.H.length w (fB a t0) _ at h
      generalize fB a t0=V at h
      cases h with
      | plain _ _ h=>cases h
      | full ao k _ h hz =>
       cases h with
       | cW=>exact⟨none,0,rfl,.inl ⟨rfl,rfl,fun ad h=>by cases h⟩⟩
       | slice b o _ _ jj _ _ hn =>
        simp at hn
        subst hn
        exact⟨_,0,rfl,.inl ⟨rfl,rfl,fun ad h=>⟨by injection h with h;subst h;rfl,trivial⟩⟩⟩
     ·injection heq with h1;subst h1;exact absurd rfl bC
    exact Ug t0 [] f rfl ht bI hf jm D1
   | false =>
    rw[D1] at he
    simp only[apE,apt,apx] at he
    obtain⟨z',jq,rfl,rfl⟩:=he
    obtain⟨j4,oZ,wB,A7,LH,kQ⟩:=rT hW hF ht Gl .ret (by simp)
    exact core (s.bu t0 (.slice el false)) j4 el own rfl oZ wB A7 LH.S kQ jq
  ·rename_i Gl
   cases D1:wr with
   | true =>
    rw[D1] at he
    simp only[cond_true,apu] at he
    obtain⟨f,hf,he⟩:=he
    obtain⟨h0,he⟩:=ab he
    simp only[apv,apx] at he
    obtain⟨rfl,rfl⟩:=he
    have hv:=(cc hW hF mR (show (ar.tmp t0).eval G s.T=.ae from Gl) rfl).kH
    exact Ug t0 [] f rfl ht ⟨none,0,hv,.inl ⟨rfl,rfl,fun ad h=>by cases h⟩⟩ hf h0 D1
   | false =>
    rw[D1] at he
    simp only[apE,apt,apx] at he
    obtain⟨z',jq,rfl,rfl⟩:=he
    have hv:=(cc hW hF mR (show (ar.tmp t0).eval G s.T=.ae from Gl) rfl).kH
    exact core s gh [] true rfl hW hF (Ext.refl _ _ _ dH) (fun _ _ h=>h) (.inl (by rw[hv];exact .full none 0 [] .cW trivial)) jq
  ·cases he
 | cr v =>
  simp only[ft] at he
  cases D1:wr with
  | true=>rw[D1] at he;cases he
  | false =>
   rw[D1] at he
   simp only[apE,apt,apx] at he
   obtain⟨z',jq,rfl,rfl⟩:=he
   simp only[ar.eval] at jq
   cases v<;>simp only[bt] at jq<;>try (cases jq;done)
   rename_i el own
   have hv:VR gh s.H.length w (a.eval x) (.slice el own):=by
    cases x with
    | tmp k =>
     simp only[ak] at mR
     rcases aql (Nat.blt k nt) with hb|hb<;>rw[hb] at mR<;>simp at mR
    | const u =>
     simp only[ak,apt] at mR
     obtain⟨zz,hz,h⟩:=mR
     injection h with h
     subst h
     exact iQ hz
    | global g=>simp[ak] at mR
    | func f=>simp[ak] at mR
   exact core s gh el own rfl hW hF (Ext.refl _ _ _ dH) (fun _ _ h=>h) (.inl hv) jq
 | aO g =>
  simp only[ft] at he
  cases D1:wr with
  | true=>rw[D1] at he;cases he
  | false =>
   rw[D1] at he
   simp[ar.eval,bt] at he
 | fn f =>
  simp only[ft] at he
  cases D1:wr with
  | true=>rw[D1] at he;cases he
  | false =>
   rw[D1] at he
   simp[ar.eval,bt] at he
end
end
section
def clean(gh:Gh):Prop:=∀ b,gh.κ b=.none\/gh.κ b=.outer\/(∃ l,gh.κ b=.hb l)\/(∃ l j,gh.κ b=.hs l j)\/∃ j,gh.κ b=.par j
def gU(p:bc):Prop:=(∃ l,p=.hb l)\/(∃ l j,p=.hs l j)\/∃ j,p=.par j
def oV(H:ag):Option gk->ag
 | none=>H
 | some c=>c.heap
structure lW (G:Nat->List AV) (base:Nat) (H:ag) (gh:Gh) (w:World) (r:AV) (c:Option gk) (v:Value) (aK:Gh) (w' : World):Prop where
 len:H.length<=(oV H c).length
 W:aM G base (oV H c) aK w'
 st:Step gU H.length gh w aK w'
 out:∀ b,aK.κ b=.outer->gh.κ b=.outer
 val:CR aK (oV H c).length w' .ret v r
def jW(H:ag)(c:Option gk):Prop:=H.length<=(oV H c).length/\∀ c',c=some c'->c'.lo<=H.length/\∀ l,l<c'.lo->c'.heap[l]?=H[l]?
def cU(P:Program)(G:Nat->List AV)(cf:cA):Prop :=
 ∀ f args H r c,cf f args H=some (r,c)->(∃ fn,P.funcs[f]?=some fn/\fn.body.isSome=true/\fn.name≠ "runtime.NumGoroutine")/\jW H c /\
  ∀ (base:Nat) (gh:Gh) (w:World) (vs:Array Value),aM G base H gh w->clean gh->vs.size=args.length->(∀ (j:Nat) (v:Value) (x:AV),vs[j]?=some v->args[j]?=some x->CR gh H.length w (.par j) v x) ->
   Calls P f vs w fun e w'=>∃ v aK,e=.returned v/\lW G base H gh w r c v aK w'
section
variable {P:Program}{G:Nat->List AV}{base nt:Nat}{L:List Nat}{gh:Gh}{w w' : World}{a:Act}{s:AS}{H:ag}
def fe:bc->Bool
 | .bx _|.sl _|.sc ..|.ret=>true
 | _=>false
def Gh.rC(gh:Gh):Gh:={ gh with κ:=fun b=>bif fe (gh.κ b) then .outer else gh.κ b }
theorem Js(gh:Gh):clean gh.rC:=by
 intro b
 simp only[Gh.rC]
 cases h:gh.κ b<;>simp[fe]
theorem Bb(hW:aM G base H gh w)(n:Nat):Step (fun p=>fe p=true) n gh w gh.rC w:=by
 refine⟨fun _ _ h=>h,fun _ _ _=>rfl,apz _,rfl,rfl,rfl,fun b hb hn=>⟨.inl rfl,?_,fun _ h=>h⟩,fun b hb=>?_,fun _ _=>rfl,fun _ _ _ h=>h,fun _ _ _ _ h=>h⟩
 ·simp only[Gh.rC]
  cases h:fe (gh.κ b)
  ·rfl
  ·exact absurd h hn
 ·simp only[Gh.rC,hW.fresh b hb]
  simp[fe]
theorem abn(hW:aM G base H gh w):aM G base H gh.rC w:=by
 refine hW.step (Bb hW H.length) (fun l=>⟨by simp[fe],by simp[fe]⟩) hW.nB (fun b hb=>hW.oT b fun h=>hb ?_) (fun _ _ _ h=>.inl h)
 simp[Gh.rC,h,fe]
def Gh.back(gh aK:Gh):Gh:={ aK with κ:=fun b=>bif fe (gh.κ b) then gh.κ b else aK.κ b }
theorem OO(hW:aM G base H gh w){r:AV}{c:Option gk}{v:Value}{aK:Gh}(h:lW G base H gh.rC w r c v aK w') :
  aM G base (oV H c) (gh.back aK) w'/\Step gU H.length gh w (gh.back aK) w'/\Ext H.length gh w (gh.back aK) w'/\CR (gh.back aK) (oV H c).length w' .ret v r:=by
 have rF:∀ b,fe (gh.κ b)=true->aK.κ b=.outer:=by
  intro b hb
  have aU:b<w.heap.size:=(hW.oT b (by intro h0;rw[h0] at hb;cases hb)).2
  have:=(h.st.zS b aU (by simp[Gh.rC,hb,gU])).2.1
  rw[this]
  simp[Gh.rC,hb]
 have ah6:Step (fun p=>p=.outer) (oV H c).length aK w' (gh.back aK) w':=by
  refine⟨fun _ _ h=>h,fun _ _ _=>rfl,apz _,rfl,rfl,rfl,fun b hb hn=>⟨.inl rfl,?_,fun _ h=>h⟩,fun b hb=>?_,fun _ _=>rfl,fun _ _ _ h=>h,fun _ _ _ _ h=>h⟩
  ·simp only[Gh.back]
   cases hs:fe (gh.κ b)
   ·rfl
   ·exact absurd (rF b hs) hn
  ·simp only[Gh.back]
   have gb:w.heap.size<=b:=aqC h.st.size hb
   rw[hW.fresh b gb]
   simp only[fe,apE]
   exact h.st.fresh b gb
 have hlen:=h.len
 have pe:Step gU H.length gh w (gh.back aK) w':=by
  refine⟨h.st.S,h.st.cell,h.st.size,h.st.os,h.st.tape,h.st.output,fun b hb hn=>?_,fun b hb=>?_,h.st.ρ,h.st.len,h.st.mp⟩
  ·cases hs:fe (gh.κ b) with
   | true =>
    have:=h.st.zS b hb (by simp[Gh.rC,hs,gU])
    exact⟨this.1,by simp[Gh.back,hs],this.2.2⟩
   | false =>
    have e1:gh.rC.κ b=gh.κ b:=by simp[Gh.rC,hs]
    have:=h.st.zS b hb (by rw[e1];exact hn)
    exact⟨this.1,by simp only[Gh.back,hs,apE];rw[this.2.1,e1],this.2.2⟩
  ·simp only[Gh.back]
   rw[hW.fresh b hb]
   simp only[fe,apE]
   exact h.st.fresh b hb
 refine⟨h.W.step ah6 (fun l=>⟨by simp,by simp⟩) h.W.nB (fun b hb=>?_) (fun _ _ _ h=>.inl h),pe,⟨pe.mono (fun p hp=>?_),fun b hb=>?_⟩,h.val.mono ah6 (apz _) (by simp)⟩
 ·simp only[Gh.back] at hb
  cases hs:fe (gh.κ b) with
  | true =>
   have:=hW.oT b (by intro h0;rw[h0] at hs;cases hs)
   have:=h.st.size
   omega
  | false =>
   rw[hs] at hb
   exact h.W.oT b hb
 ·rcases hp with ⟨l,rfl⟩|⟨l,j,rfl⟩|⟨j,rfl⟩<;>simp[pM]
 ·simp only[Gh.back] at hb
  cases hs:fe (gh.κ b) with
  | true =>
   rw[hs] at hb
   simp only[cond_true] at hb
   rw[hb] at hs
   cases hs
  | false =>
   rw[hs] at hb
   have:=h.out b hb
   simpa [Gh.rC,hs] using this
theorem CR.aa0(hW:aM G base s.H gh w)(hF:FR L nt gh w a s){v:Value}{x:AV}(h:CR gh s.H.length w .ret v x)(p:bc)(hp:p≠.outer) :
  ∃ aK,aM G base s.H aK w/\FR L nt aK w a s/\Ext s.H.length gh w aK w/\CR aK s.H.length w p v x:=by
 rcases h with h|⟨e,rfl,h⟩
 ·exact⟨gh,hW,hF,Ext.refl _ _ _ (fun b hb=>hW.bL b hb),.inl h⟩
 ·exact CR.given hW hF (.inr ⟨e,rfl,h⟩) p hp
theorem jv{n:Nat}{v:Value}{x:AV}(h:VR gh n w v x.drop):VR gh n w v x.aX:=by
 cases x<;>first|exact h|skip
 rename_i cs
 exact VR.x4 (h:VR gh n w v (.agg cs))
theorem AD{cf:cA}(iI:cU P G cf)(hW:aM G base s.H gh w)(hF:FR L nt gh w a s){o:Oper}{f:FuncId}{vs:Array Value}{args:List AV}{r:AV}{ch:Option gk}
  (he:cf f args s.H=some (r,ch)) (pQ:vs.size=args.length) (cy:∀ (j:Nat) (v:Value) (x:AV),vs[j]?=some v->args[j]?=some x->CR gh s.H.length w (.par j) v x)
  (cE:(∃ fn,P.funcs[f]?=some fn/\fn.body.isSome=true/\fn.name≠ "runtime.NumGoroutine")->(execOp a.eval o).run P w=.ok (.enter f vs) w) (hd:∀ k,o.dst=some k->k<nt) (K:Act->World->Prop) (Q:Exit->Act->World->Prop)
  (hK:∀ v' aK w',Out G base nt L gh w a s o.dst r ((ch.map s.fC).getD s) v' aK w'->K (a.put o.dst v') w'):o.wp P a w K Q:=by
 obtain⟨sQ,_,Gm⟩:=iI f _ _ _ _ he
 have pe:=Bb hW s.H.length
 have hC:=Gm base gh.rC w vs (abn hW) (Js gh) pQ (fun j v x hv hx=>(cy j v x hv hx).mono pe (apz _) (by simp[fe]))
 unfold Oper.wp
 rw[cE sQ,Oper.upon_enter]
 refine hC.mono ?_
 rintro e w2 ⟨v,aK,rfl,hR⟩
 obtain⟨CZ,VI,yB,VL⟩:=OO hW hR
 have ZK:=hR.len
 have key:∀ s1:AS,s1.H=oV s.H ch->FR L nt (gh.back aK) w2 a s1->∃ gh3,Out G base nt L gh w a s o.dst r s1 v gh3 w2:=by
  intro s1 Bk wB
  obtain⟨gh3,hW3,hF3,hE3,hv3⟩:=CR.aa0 (by rw[Bk];exact CZ) wB (by rw[Bk];exact VL) (N7 o.dst) (ni _)
  refine⟨gh3,Out.of (s1:=s1) (gen':=s1.gen) hW3 hF3 (yB.trans hE3 (by rw[Bk];exact ZK)) (apz _) hd (.inl (iY hv3.aq)) (fun k hk=>?_)⟩
  rw[hk] at hv3
  exact lM hv3.aq hv3
 cases ch with
 | none =>
  obtain⟨gh3,hO⟩:=key s rfl (hF.grown (H':=s.H) (lo':=s.lo) VI (fun i=>⟨by simp[gU],by simp[gU],by simp[gU]⟩) (apz _))
  exact hK v gh3 w2 hO
 | some c' =>
  obtain⟨gh3,hO⟩:=key (s.fC c') rfl (hF.grown VI (fun i=>⟨by simp[gU],by simp[gU],by simp[gU]⟩) ZK)
  exact hK v gh3 w2 hO
theorem UZ{cf:cA}(iI:cU P G cf)(hW:aM G base s.H gh w)(hF:FR L nt gh w a s){o:Oper}{c:Call}{fx:Operand}{yf:ar}{ys:List ar}{f:FuncId}{fs cs:List AV}{r:AV}{ch:Option gk}
  (ho:o.op=.call c) (gx:c.callee=.value fx) (mR:ak nt fx=some yf) (wC:iX nt c.args.toList=some ys) (abm:yf.eval G s.T=.func (.func f) fs cs) (C1:(ys.map fun y=>y.addr G s.T).all aq=true)
  (he:cf f (fs++ys.map (fun y=>(y.addr G s.T).aX)++cs) s.H=some (r,ch)) (hd:∀ k,o.dst=some k->k<nt) (K:Act->World->Prop) (Q:Exit->Act->World->Prop)
  (hK:∀ v' aK w',Out G base nt L gh w a s o.dst r ((ch.map s.fC).getD s) v' aK w'->K (a.put o.dst v') w'):o.wp P a w K Q:=by
 have hfv:=cc hW hF mR abm rfl
 obtain⟨us,ts,hfe,pq,iw,h1,h2⟩:=hfv.rK
 have dF:=B1 hW hF wC C1
 have hlen:=(jL wC).1
 let vs:Array Value:=us++c.args.map a.eval++ts
 have pQ:vs.size=(fs++ys.map (fun y=>(y.addr G s.T).aX)++cs).length:=by
  simp[vs,pq,iw] at hlen ⊢
  omega
 have cy:∀ (j:Nat) (v:Value) (x:AV),vs[j]?=some v->(fs++ys.map (fun y=>(y.addr G s.T).aX)++cs)[j]?=some x->VR gh s.H.length w v x:=by
  intro j v x hv hx
  have Ur:(c.args.map a.eval).size=ys.length:=by simpa using hlen
  simp only[vs,Array.getElem?_append,Array.size_append] at hv
  simp only[aqB,apL,apQ] at hx
  rw[pq,Ur] at hv
  split at hv
  ·rename_i c1
   rw[if_pos c1] at hx
   split at hv
   ·rename_i c2
    rw[if_pos c2] at hx
    exact h1 j v x hv hx
   ·rename_i c2
    rw[if_neg c2] at hx
    simp only[apG,apt] at hx
    obtain⟨y,hy,rfl⟩:=hx
    refine jv (dF (j-fs.length) v _ ?_ ?_)
    ·rw[<- arS,ap7];exact hv
    ·simp only[apG,hy,Option.map_some]
  ·rename_i c1
   rw[if_neg c1] at hx
   exact h2 _ v x hv hx
 refine AD iI hW hF he pQ (fun j v x hv hx=>.inl (cy j v x hv hx)) ?_ hd K Q hK
 rintro ⟨fn,sQ,l9,Qj⟩
 unfold execOp
 cases hb:fn.body with
 | none=>rw[hb] at l9;cases l9
 | some code =>
  simp[ho,resolve,gx,hfe,Deferred.ofValue,invoke,callFunc,sQ,Qj,hb,vs]
theorem Pu{cf:cA}(iI:cU P G cf)(hW:aM G base s.H gh w)(hF:FR L nt gh w a s){o:Oper}{c:Call}{f:FuncId}{pre post:List ar}{x:ar}{r:AV}{ch:Option gk}{xv:AV}{s1:AS}
  (ho:o.op=.call c) (gx:c.callee=.value (.func f)) (wC:iX nt c.args.toList=some (pre++x :: post)) (ajQ:(pre.map fun y=>y.addr G s.T).all aq=true) (ajR:(post.map fun y=>y.addr G s.T).all aq=true)
  (hx:A6 s x=some (xv,s1)) (he:cf f (pre.map (fun y=>(y.addr G s.T).aX)++xv :: post.map (fun y=>(y.addr G s.T).aX)) s.H=some (r,ch)) (hd:∀ k,o.dst=some k->k<nt) (K:Act->World->Prop) (Q:Exit->Act->World->Prop)
  (hK:∀ v' aK w',Out G base nt L gh w a s o.dst r ((ch.map s1.fC).getD s1) v' aK w'->K (a.put o.dst v') w'):o.wp P a w K Q:=by
 obtain⟨hlen,ox⟩:=jL wC
 have dH:∀ b,w.heap.size<=b->gh.κ b≠.outer:=fun b hb=>hW.bL b hb
 have mG:∃ j4,s1.H=s.H/\aM G base s1.H j4 w/\FR L nt j4 w a s1/\Ext s.H.length gh w j4 w/\(∃ tc,Step tc s.H.length gh w j4 w)/\∀ y,ak nt y=some x->CR j4 s.H.length w (.par pre.length) (a.eval y) xv:=by
  unfold A6 at hx
  split at hx
  ·rename_i t
   split at hx
   ·rename_i el own hT
    simp only[apv,apx] at hx
    obtain⟨rfl,rfl⟩:=hx
    have anG:=ox pre.length
    have ht:t<nt:=by
     have hl:pre.length<c.args.toList.length:=by rw[hlen];simp
     have:=ox pre.length _ _ (apy hl) (by simp:(pre++ar.tmp t :: post)[pre.length]?=some (ar.tmp t))
     exact (gW this).2
    obtain⟨j4,oZ,wB,A7,LH,kQ⟩:=rT hW hF ht hT (.par pre.length) (by simp)
    refine⟨j4,rfl,oZ,wB,A7,⟨_,LH⟩,fun y hy=>?_⟩
    obtain⟨rfl,_⟩:=gW hy
    exact kQ
   ·cases hx
  ·split at hx
   ·simp only[apv,apx] at hx
    obtain⟨rfl,rfl⟩:=hx
    refine⟨gh,rfl,hW,hF,Ext.refl _ _ _ dH,⟨fun _=>False,Step.refl _ _ _ _ dH⟩,fun y hy=>?_⟩
    cases y with
    | tmp k =>
     simp only[ak] at hy
     rcases aql (Nat.blt k nt) with hb|hb<;>rw[hb] at hy<;>simp at hy
    | const u =>
     simp only[ak,apt] at hy
     obtain⟨zz,hz,h⟩:=hy
     injection h with h
     subst h
     exact .inl (iQ hz)
    | global g=>simp[ak] at hy
    | func f=>simp[ak] at hy
   ·cases hx
  ·cases hx
 obtain⟨j4,hsH,oZ,wB,A7,⟨tc,LH⟩,hxv⟩:=mG
 have al5:∀ (j:Nat) (y:Operand) (z:ar),c.args.toList[j]?=some y->(pre++x :: post)[j]?=some z->ak nt y=some z:=fun j y z h1 h2=>ox j y z h1 h2
 let vs:Array Value:=c.args.map a.eval
 have pQ:vs.size=(pre.map (fun y=>(y.addr G s.T).aX)++xv :: post.map (fun y=>(y.addr G s.T).aX)).length:=by
  have:c.args.size=(pre++x :: post).length:=by simpa using hlen
  simp[vs,this]
 have old:∀ (j:Nat) (y:Operand) (z:ar),c.args.toList[j]?=some y->(pre++x :: post)[j]?=some z->aq (z.addr G s.T)=true->VR j4 s.H.length w (a.eval y) (z.addr G s.T).aX:=by
  intro j y z h1 h2 h3
  have:=mV hW hF (ox j y z h1 h2) rfl h3
  exact (jv this).mono LH (apz _)
 have cy:∀ (j:Nat) (v:Value) (y:AV),vs[j]?=some v->(pre.map (fun y=>(y.addr G s.T).aX)++xv :: post.map (fun y=>(y.addr G s.T).aX))[j]?=some y->CR j4 s1.H.length w (.par j) v y:=by
  intro j v y hv hy
  rw[hsH]
  simp only[vs,ar1,apt] at hv
  obtain⟨op,cD,rfl⟩:=hv
  have abB:c.args.toList[j]?=some op:=by rw[ap7];exact cD
  rcases aq5 j pre.length with h|h|h
  ·rw[apN (by simpa using h)] at hy
   simp only[apG,apt] at hy
   obtain⟨z,hz,rfl⟩:=hy
   exact .inl (old j op z abB (by rw[apN h];exact hz) (apA.1 ajQ _ (ap9.2 ⟨z,apF hz,rfl⟩)))
  ·subst h
   rw[apM (by simp)] at hy
   simp only[apQ,aqD,apH,apv] at hy
   subst hy
   exact hxv op (ox pre.length op x abB (by simp))
  ·obtain⟨m,rfl⟩:∃ m,j=pre.length+1+m:=⟨j-(pre.length+1),by omega⟩
   rw[apM (by simp;omega)] at hy
   simp only[apQ,show pre.length+1+m-pre.length=m+1 by omega,apT,apG,apt] at hy
   obtain⟨z,hz,rfl⟩:=hy
   exact .inl (old _ op z abB (by rw[apM (by omega),show pre.length+1+m-pre.length=m+1 by omega];simpa using hz) (apA.1 ajR _ (ap9.2 ⟨z,apF hz,rfl⟩)))
 refine AD iI oZ wB (by rw[hsH];exact he) pQ cy ?_ hd K Q (fun v' aK w' hO=>hK v' aK w' ⟨hO.W,hO.F,by have:=hO.E;rw[hsH] at this;exact A7.trans this (apz _)⟩)
 rintro ⟨fn,sQ,l9,Qj⟩
 unfold execOp
 cases hb:fn.body with
 | none=>rw[hb] at l9;cases l9
 | some code =>
  simp[ho,resolve,gx,Act.eval,Deferred.ofValue,invoke,callFunc,sQ,Qj,hb,vs]
end
end
section
section
variable {P:Program}{G:Nat->List AV}{base nt:Nat}{L:List Nat}{gh:Gh}{w w' : World}{a:Act}{s:AS}{H:ag}
def D2(P:Program)(w:World)(d:Nat):Prop :=
 ∀ (t:TypeId) (ks:List CK),mQ P d t=some ks->∀ (D o:Nat) (cs:Array Value) (em:Bool),d<=D->o+ks.length<=cs.size->∃ v,(part t cs o).run P w=.ok v w/\(Instr.checkKey em D t v).run P w=.ok () w
theorem uk{t:TypeId}{D:Nat}{v:Value}{em:Bool}(h:P.underlying t=some .bool\/(∃ k,P.underlying t=some (.int k))\/P.underlying t=some .string):(Instr.checkKey em (D+1) t v).run P w=.ok () w:=by
 rcases h with h|⟨k,h⟩|h<;>simp[Instr.checkKey,run_underlying h]
theorem uj{d:Nat}(hd:D2 P w d){D:Nat}(hD:d<=D){cs:Array Value}{em:Bool} : ∀ (fs:List Go.Field) (q:Nat) (ks:List CK),ot (mQ P d) fs q=some ks->q+ks.length<=cs.size ->
  Sem.run P (forIn fs PUnit.unit fun (f:Go.Field) (_:PUnit) =>
   if f.name≠ "_" then do
    let v <- part f.type cs f.offset
    Instr.checkKey em D f.type v
    pure (ForInStep.yield PUnit.unit)
   else pure (ForInStep.yield PUnit.unit)) w=.ok PUnit.unit w:=by
 intro fs
 induction fs with
 | nil=>intro q ks h1 h2;rfl
 | cons f fs ih =>
  intro q ks h1 h2
  unfold ot at h1
  obtain⟨h3,h1⟩:=ab h1
  simp only[apu,apt] at h1
  obtain⟨kf,hkf,kr,hkr,rfl⟩:=h1
  simp only[Bool.and_eq_true,dX,apS,bne_iff_ne] at h3
  obtain⟨hof,uI⟩:=h3
  rw[apL] at h2
  obtain⟨v,p1,p2⟩:=hd f.type kf hkf D q cs em hD (by omega)
  have hr:=ih (q+kf.length) kr hkr (by omega)
  rw[List.forIn_cons,if_pos uI,hof]
  simp only[Sem.run_bind,p1,p2,Result.andThen_ok,Sem.run_pure]
  exact hr
theorem AH:∀ d,D2 P w d
 | 0=>fun t ks h=>by cases h
 | d+1=>by
  intro t ks h D o cs em hD fF
  have h0:=h
  unfold mQ at h
  cases hu:P.underlying t with
  | none=>rw[hu] at h;cases h
  | some dd =>
   rw[hu] at h
   obtain⟨D,rfl⟩:∃ m,D=m+1:=⟨D-1,by omega⟩
   have sc:ks.length=1->lj P t=some false->(dd=.bool\/(∃ k,dd=.int k)\/dd=.string)->∃ v,(part t cs o).run P w=.ok v w/\(Instr.checkKey em (D+1) t v).run P w=.ok () w:=by
    intro h1 h2 h3
    have hg:=h2
    have hv:cs[o]?=some cs[o]:=apJ (by omega)
    refine⟨cs[o],by simp[part,iu hg,hv],uk ?_⟩
    rcases h3 with h3|⟨k,h3⟩|h3<;>subst h3
    ·exact .inl hu
    ·exact .inr (.inl ⟨k,hu⟩)
    ·exact .inr (.inr hu)
   cases dd<;>try (cases h;done)
   case bool=>injection h with h;subst h;exact sc rfl (lX hu rfl) (.inl rfl)
   case int kk=>injection h with h;subst h;exact sc rfl (lX hu rfl) (.inr (.inl ⟨kk,rfl⟩))
   case string=>injection h with h;subst h;exact sc rfl (lX hu rfl) (.inr (.inr rfl))
   case struct fs =>
    obtain⟨_,HY,sz,gM,hlen⟩:=qI h0 hu
    have hg:lj P t=some true:=by unfold lj;rw[hu];rfl
    refine⟨.agg (cs.extract o (o+sz)),by simp[part,iu hg,dE gM],?_⟩
    have:=uj (AH d) (show d<=D by omega) (cs:=cs.extract o (o+sz)) (em:=em) fs.toList 0 ks HY (by simp;omega)
    unfold Instr.checkKey
    simp only[Sem.run_bind,run_underlying hu,Result.andThen_ok]
    rw[<- Array.forIn_toList,this]
    rfl
theorem sO{n:Nat}{v:Value}{k:AV}{kc:List AV}(h:VR gh n w v k)(hc:k.cells=some kc):(∃ C,v=.agg C/\k=.agg kc/\Row gh n w C kc)\/(kc=[k]/\v.oneCell'=true):=by
 have hr:=sh h hc
 cases k
 case agg xs =>
  obtain⟨C,rfl,hs,fX,h⟩:=h.jQ
  injection hc with hc
  subst hc
  exact .inl ⟨C,rfl,rfl,hs,h⟩
 case any=>cases hc
 case tuple=>cases hc
 case lbox=>cases hc
 case lref=>cases hc
 case lsl=>cases hc
 case lsr=>cases hc
 case eref=>cases hc
 case iter=>cases hc
 all_goals
  injection hc with hc
  subst hc
  exact .inr ⟨rfl,h.fg (by intro cs h;cases h) (by intro cs h;cases h)⟩
theorem vm{n:Nat}{v:Value}{k:AV}(h:VR gh n w v k)(ha:true=k.isAgg):∃ C,v=.agg C:=by
 cases k<;>first|(cases ha;done)|skip
 obtain⟨C,rfl,_⟩:=h.jQ
 exact⟨C,rfl⟩
structure BS (P:Program) (kt:TypeId) (ks:List CK) (ka:Bool):Prop where
 flat:mQ P 8 kt=some ks
 agg:lj P kt=some ka
theorem BS.cases{kt:TypeId}{ks:List CK}{ka:Bool}(h:BS P kt ks ka):(ka=false/\((P.underlying kt=some .bool/\ks=[.b])\/(∃ k,P.underlying kt=some (.int k)/\ks=[.i])\/(P.underlying kt=some .string/\ks=[.s]))) \/
  (ka=true/\∃ fs,P.underlying kt=some (.struct fs)):=by
 have hf:=h.flat
 have ha:=h.agg
 unfold mQ at hf
 unfold lj at ha
 cases hu:P.underlying kt with
 | none=>rw[hu] at hf;cases hf
 | some dd =>
  rw[hu] at hf ha
  cases dd<;>try (cases hf;done)
  case bool=>injection hf with hf;subst hf;simp at ha;exact .inl ⟨ha,.inl ⟨rfl,rfl⟩⟩
  case int k=>injection hf with hf;subst hf;simp at ha;exact .inl ⟨ha,.inr (.inl ⟨k,rfl,rfl⟩)⟩
  case string=>injection hf with hf;subst hf;simp at ha;exact .inl ⟨ha,.inr (.inr ⟨rfl,rfl⟩)⟩
  case struct fs=>simp at ha;exact .inr ⟨ha,fs,rfl⟩
theorem sI{kt:TypeId}{ks:List CK}{ka:Bool}(hK:BS P kt ks ka){n:Nat}{kv:Value}{k:AV}{kc:List AV}(hk:VR gh n w kv k)(pO:k.cells=some kc)(hl:kc.length=ks.length)(rD:ka=k.isAgg)(em:Bool) :
  (Instr.checkKey em 10000 kt kv).run P w=.ok () w:=by
 rcases hK.cases with ⟨rfl,h⟩|⟨rfl,fs,hu⟩
 ·refine uk ?_
  rcases h with ⟨h,_⟩|⟨k,h,_⟩|⟨h,_⟩
  ·exact .inl h
  ·exact .inr (.inl ⟨k,h⟩)
  ·exact .inr (.inr h)
 ·obtain⟨C,rfl⟩:=vm hk rD
  obtain⟨s7,HY,sz,gM,hlen⟩:=qI hK.flat hu
  have hC:C.size=kc.length:=by
   rcases sO hk pO with ⟨C',e,_,hr⟩|⟨_,h1⟩
   ·injection e with e;subst e;exact hr.1
   ·simp[Value.oneCell'] at h1
  have:=uj (AH (w:=w) (P:=P) 7) (show 7<=9999 by omega) (cs:=C) (em:=em) fs.toList 0 ks HY (by omega)
  unfold Instr.checkKey
  simp only[Sem.run_bind,run_underlying hu,Result.andThen_ok]
  rw[<- Array.forIn_toList,this]
  rfl
def Kw(S:Nat->Nat->Prop)(w:World)(kz:Nat)(ka:Bool)(v:Value)(r:List AV):Prop:=∃ f:Nat->Value,v=qR ka kz f/\∀ (j:Nat) (x:AV),r[j]?=some x->j<kz->PR S w (f j) x
theorem qc:∀ {k:List CK} {X Y:List AV} {b:Bool},bN k X Y=some b->k.length<=X.length/\k.length<=Y.length
 | [],X,Y,b,h=>⟨aqF _,aqF _⟩
 | c :: k,X,Y,b,h=>by
  cases c<;>cases X<;>try (cases h;done)
  all_goals (rename_i x X';cases x<;>try (cases h;done))
  all_goals (cases Y<;>try (cases h;done))
  all_goals (rename_i y Y';cases y<;>try (cases h;done))
  ·simp only[bN,apt] at h
   obtain⟨b',hb,_⟩:=h
   have:=qc hb
   simp;omega
  ·simp only[bN] at h
   obtain⟨_,h⟩:=ab h
   simp only[apt] at h
   obtain⟨b',hb,_⟩:=h
   have:=qc hb
   simp;omega
  ·simp only[bN,apt] at h
   obtain⟨b',hb,_⟩:=h
   have:=qc hb
   simp;omega
theorem Nq{kt:TypeId}{ks:List CK}{ka:Bool}(hK:BS P kt ks ka){n:Nat}{kv:Value}{k:AV}{kc:List AV}(hk:VR gh n w kv k)(pO:k.cells=some kc)(hl:kc.length=ks.length)(rD:ka=k.isAgg)
  {v:Value} {r:List AV} (hv:Kw gh.S w ks.length ka v r) {b:Bool} (he:bN ks kc r=some b) :
  (ka=true->(Op.equal kt kv v).run P w=.ok b w)/\(ka=false->∀ d,P.underlying kt=some d->Instr.sameNow d kv v=some b):=by
 obtain⟨f,rfl,hf⟩:=hv
 have Qs:=(qc he).2
 rcases hK.cases with ⟨rfl,h⟩|⟨rfl,fs,hu⟩
 ·refine⟨(fun h=>by cases h),fun _ d hd=>?_⟩
  have abq:kc=[k]:=by
   cases k<;>first|(cases rD;done)|(injection pO with pO;exact pO.symm)|(cases pO;done)
  subst abq
  have hv0:∀ x,r[0]?=some x->PR gh.S w (f 0) x:=fun x hx=>hf 0 x hx (by rcases h with ⟨_,h⟩|⟨_,_,h⟩|⟨_,h⟩<;>rw[h]<;>exact Nat.one_pos)
  show Instr.sameNow d kv (f 0)=some b
  cases r with
  | nil=>rcases h with ⟨_,h⟩|⟨_,_,h⟩|⟨_,h⟩<;>subst h<;>simp at Qs
  | cons x r =>
   have hx:=hv0 x rfl
   rcases h with ⟨h,rfl⟩|⟨q,h,rfl⟩|⟨h,rfl⟩
   ·rw[h] at hd;injection hd with hd;subst hd
    cases k<;>try (cases he;done)
    cases x<;>try (cases he;done)
    obtain rfl:=hk.jz
    generalize f 0=u at hx
    cases hx
    simp[bN] at he
    simp[Instr.sameNow,he]
   ·rw[h] at hd;injection hd with hd;subst hd
    cases k<;>try (cases he;done)
    cases x<;>try (cases he;done)
    obtain rfl:=hk.jR
    generalize f 0=u at hx
    cases hx
    simp only[bN] at he
    obtain⟨h0,he⟩:=ab he
    simp at he h0
    simp[Instr.sameNow,he,h0]
   ·rw[h] at hd;injection hd with hd;subst hd
    cases k<;>try (cases he;done)
    cases x<;>try (cases he;done)
    obtain⟨p,rfl,rfl⟩:=hk.jS
    generalize f 0=u at hx
    cases hx with
    | str q _ hq =>
     subst hq
     simp[bN] at he
     simp only[Instr.sameNow,apv]
     rw[<- he]
     first|rfl|(show (p.data==q.data)=_;simp)
 ·obtain⟨C,rfl⟩:=vm hk rD
  refine⟨fun _=>?_,fun h=>by cases h⟩
  have hC:Row gh n w C kc:=by
   rcases sO hk pO with ⟨C',e,_,hr⟩|⟨_,h1⟩
   ·injection e with e;subst e;exact hr
   ·simp[Value.oneCell'] at h1
  have hD:Row gh n w (((List.range ks.length).map f).toArray) (r.take ks.length):=by
   refine⟨by simp;omega,fun j u x hu hx=>?_⟩
   simp only[apW,apG,apt] at hu
   obtain⟨i,hi,rfl⟩:=hu
   obtain⟨aU,jn⟩:=apw.1 hi
   simp at aU jn
   subst jn
   rw[apR,if_pos aU] at hx
   exact .plain _ _ (hf _ x hx aU)
  have xt:bN ks kc (r.take ks.length)=some b:=by
   rw[<- he,<- om ks kc r ks.length (apz _),<- om ks kc (r.take ks.length) ks.length (apz _),List.take_take,Nat.min_self]
  exact tW (vF 7) hK.flat hu (D:=9999) (by omega) (n:=n) hC hD xt
theorem uB{d:TypeDesc}{kv:Value}{ks:List CK}{kc:List AV} : ∀ (l:List MapEntry) (es:List (List AV)) (i0:Nat) (o:Option Nat),l.length=es.length ->
  (∀ (i:Nat) (e:MapEntry) (r:List AV) (b:Bool),l[i]?=some e->es[i]?=some r->bN ks kc r=some b->Instr.sameNow d kv e.key=some b)->fH ks kc es=some o ->
  Instr.findNow d kv l i0=some (o.map fun i=>(i0+i,(l.getD i default).val))
 | [],[],i0,o,_,_,h=>by simp only[fH,apv] at h;subst h;rfl
 | [],_ :: _,_,_,hl,_,_=>by simp at hl
 | _ :: _,[],_,_,hl,_,_=>by simp at hl
 | e :: l,r :: es,i0,o,hl,hq,h=>by
  simp only[fH,apu] at h
  obtain⟨b,hb,h⟩:=h
  have h0:=hq 0 e r b rfl rfl hb
  cases b with
  | true =>
   simp only[cond_true,apv] at h
   subst h
   simp[Instr.findNow,h0]
  | false =>
   simp only[apE,apt] at h
   obtain⟨o',mY,rfl⟩:=h
   have ih:=uB l es (i0+1) o' (by simpa using hl) (fun i e r b h1 h2 h3=>hq (i+1) e r b (by simpa using h1) (by simpa using h2) h3) mY
   simp only[Instr.findNow,h0,ih,arl]
   cases o' with
   | none=>rfl
   | some i=>simp[aq',arM 1 i]
theorem qN{kt:TypeId}{kv:Value}{ks:List CK}{kc:List AV} : ∀ (l:List MapEntry) (es:List (List AV)) (i0:Nat) (o:Option Nat),l.length=es.length ->
  (∀ (i:Nat) (e:MapEntry) (r:List AV) (b:Bool),l[i]?=some e->es[i]?=some r->bN ks kc r=some b->(Op.equal kt kv e.key).run P w=.ok b w)->fH ks kc es=some o ->
  (Instr.findAsking kt kv l i0).run P w=.ok (o.map fun i=>(i0+i,(l.getD i default).val)) w
 | [],[],i0,o,_,_,h=>by simp only[fH,apv] at h;subst h;rfl
 | [],_ :: _,_,_,hl,_,_=>by simp at hl
 | _ :: _,[],_,_,hl,_,_=>by simp at hl
 | e :: l,r :: es,i0,o,hl,hq,h=>by
  simp only[fH,apu] at h
  obtain⟨b,hb,h⟩:=h
  have h0:=hq 0 e r b rfl rfl hb
  cases b with
  | true =>
   simp only[cond_true,apv] at h
   subst h
   simp[Instr.findAsking,h0]
  | false =>
   simp only[apE,apt] at h
   obtain⟨o',mY,rfl⟩:=h
   have ih:=qN l es (i0+1) o' (by simpa using hl) (fun i e r b h1 h2 h3=>hq (i+1) e r b (by simpa using h1) (by simpa using h2) h3) mY
   simp only[Instr.findAsking,Sem.run_bind,h0,Result.andThen_ok,aqf,aqG,ih]
   cases o' with
   | none=>rfl
   | some i=>simp[aq',arM 1 i]
theorem u5{kt:TypeId}{ks:List CK}{ka:Bool}(hK:BS P kt ks ka){n:Nat}{kv:Value}{k:AV}{kc:List AV}(hk:VR gh n w kv k)(pO:k.cells=some kc)(hl:kc.length=ks.length)(rD:ka=k.isAgg)
  {l:List MapEntry} {es:List (List AV)} (hlen:l.length=es.length) (bI:∀ (i:Nat) (e:MapEntry) (r:List AV),l[i]?=some e->es[i]?=some r->Kw gh.S w ks.length ka e.key r) {o:Option Nat} (hf:fH ks kc es=some o) :
  (Instr.findKey kt kv l).run P w=.ok (o.map fun i=>(i,(l.getD i default).val)) w:=by
 have hq:=fun (i:Nat) (e:MapEntry) (r:List AV) (b:Bool) (h1:l[i]?=some e) (h2:es[i]?=some r) (h3:bN ks kc r=some b)=>Nq hK hk pO hl rD (bI i e r h1 h2) h3
 rcases hK.cases with ⟨rfl,h⟩|⟨rfl,fs,hu⟩
 ·obtain⟨d,hd⟩:∃ d,P.underlying kt=some d:=by rcases h with ⟨h,_⟩|⟨_,h,_⟩|⟨h,_⟩<;>exact⟨_,h⟩
  have hn:=uB l es 0 o hlen (fun i e r b h1 h2 h3=>(hq i e r b h1 h2 h3).2 rfl d hd) hf
  simp only[Nat.zero_add] at hn
  simp[Instr.findKey,run_underlying hd,hn]
 ·cases l with
  | nil =>
   cases es with
   | cons _ _=>simp at hlen
   | nil =>
    simp only[fH,apv] at hf
    subst hf
    simp[Instr.findKey,run_underlying hu,Instr.findNow]
  | cons e l =>
   have hn:=qN (P:=P) (w:=w) (e :: l) es 0 o hlen (fun i e r b h1 h2 h3=>(hq i e r b h1 h2 h3).1 rfl) hf
   simp only[Nat.zero_add] at hn
   simp[Instr.findKey,run_underlying hu,Instr.findNow,Instr.sameNow,hn]
end
end
section
section
variable {P:Program}{G:Nat->List AV}{base nt:Nat}{L:List Nat}{gh:Gh}{w w' : World}{a:Act}{s:AS}{H:ag}
def tO(w:World)(b:Nat)(E:Array MapEntry)(ck:Nat):World:={ w with heap:=w.heap.setIfInBounds b (Obj.map E ck) }
theorem HE{b:Nat}{E E' : Array MapEntry}{ck ck' : Nat}(hb:w.heap[b]?=some (.map E ck)):(tO w b E' ck').heap[b]?=some (.map E' ck'):=by
 have aU:b<w.heap.size:=(apD.1 hb).1
 simp[tO,aU]
theorem nh{b b' : Nat}{E' : Array MapEntry}{ck' : Nat}(h:b'≠b):(tO w b E' ck').heap[b']?=w.heap[b']?:=by
 simp[tO,aqM h]
theorem zw{b:Nat}{E E' : Array MapEntry}{ck ck' : Nat}(hb:w.heap[b]?=some (.map E ck)):(setObj b (.map E' ck')).run P w=.ok () (tO w b E' ck'):=by
 simp[setObj,Sem.run,hb,tO]
theorem GX(hW:aM G base H gh w){b:Nat}{E E' : Array MapEntry}{ck ck' : Nat}(hb:w.heap[b]?=some (.map E ck))(hS:∀ o,¬ gh.S b o)(n:Nat):Step (fun r=>r=gh.κ b) n gh w gh (tO w b E' ck'):=by
 have bC:∀ b' o,gh.S b' o->b'≠b:=fun b' o h=>by rintro rfl;exact hS o h
 refine⟨fun _ _ h=>h,fun b' o h=>cell_of_heap (nh (bC b' o h)),by simp[tO],rfl,rfl,rfl,fun b' gb hn=>?_,fun b' gb=>?_,fun _ _=>rfl,fun b' ty m hm=>?_,fun b' E1 c1 hs hm=>?_⟩
 ·have Ag:b'≠b:=by rintro rfl;exact hn rfl
  exact⟨.inl (nh Ag),rfl,fun _ h=>h⟩
 ·have:w.heap.size<=b':=by simpa [tO] using gb
  exact hW.bL b' this
 ·obtain⟨C,fr,h1,h2⟩:=hm
  have Ag:b'≠b:=by rintro rfl;rw[hb] at h1;cases h1
  exact⟨C,fr,by rw[nh Ag];exact h1,h2⟩
 ·rw[nh (bC b' 0 hs)];exact hm
structure D3 (P:Program) (t kt et:TypeId) (ks:List CK) (ka va:Bool) (vz:Nat) (z:Value) (zero:List AV):Prop where
 ht:P.underlying t=some (.map kt et)
 key:BS P kt ks ka
 vz1:va=false->vz=1
 hz:∃ i,P.info? et=some i/\i.zero=some z
 cells:dv z.cells.toList=some zero
 agg:LX z=va
 len:zero.length=vz
theorem BS.kz{kt:TypeId}{ks:List CK}{ka:Bool}(h:BS P kt ks ka)(hf:ka=false):ks.length=1:=by
 rcases h.cases with ⟨_,⟨_,h⟩|⟨_,_,h⟩|⟨_,h⟩⟩|⟨rfl,_⟩
 ·rw[h];rfl
 ·rw[h];rfl
 ·rw[h];rfl
 ·cases hf
theorem uU{t:TypeId}{m:List CK × Bool × Bool × List AV}(h:Ny P t=some m):∃ kt et z,D3 P t kt et m.1 m.2.1 m.2.2.1 m.2.2.2.length z m.2.2.2:=by
 unfold Ny at h
 split at h
 ·rename_i kt et hu
  simp only[apu] at h
  obtain⟨ks,HY,ka,rD,i,hi,z,hz,zero,ZY,h⟩:=h
  obtain⟨h0,h⟩:=ab h
  injection h with h
  subst h
  refine⟨kt,et,z,hu,⟨HY,rD⟩,fun hv=>?_,⟨i,hi,hz⟩,ZY,rfl,rfl⟩
  simp only at hv ⊢
  rw[hv] at h0
  simpa [dX] using h0
 ·cases h
theorem PC(hW:aM G base s.H gh w)(hF:FR L nt gh w a s){o:Oper}{t:TypeId}(ho:o.op=.makeMap t none)(hd:∀ k,o.dst=some k->k<nt)(kz:Nat)(ka va:Bool) :
  ∃ v' aK w',sP P a o w v' w'/\Out G base nt L gh w a s o.dst (.mref s.H.length) (s.fC ⟨s.H++[.map kz ka va []],s.H.length⟩) v' aK w':=by
 have hp:=dP.alloc w (.map #[] 0)
 have hρ:(gh.bg w.heap.size s.H.length).ρ s.H.length=w.heap.size:=by simp[Gh.bg]
 have hv:VR (gh.bg w.heap.size s.H.length) (s.H++[ct.map kz ka va []]).length (w.alloc (.map #[] 0)) (.map (some w.heap.size)) (.mref s.H.length):=by
  have:=VR.mref (gh:=gh.bg w.heap.size s.H.length) (w:=w.alloc (.map #[] 0)) (n:=(s.H++[ct.map kz ka va []]).length) s.H.length (by simp)
  rw[hρ] at this;exact this
 have hM:tn (gh.bg w.heap.size s.H.length) (s.H.length+1) (w.alloc (.map #[] 0)) w.heap.size s.H.length (.map kz ka va []):=by
  refine⟨⟨by simp[Gh.bg,Gh.alloc],?_,#[],0,fun _ _=>undef,hp.new,⟨rfl,rfl,fun i e h=>by simp at h,fun i e h=>by simp at h,fun i j e e' h=>by simp at h,fun i e r h=>by simp at h⟩,fun i j r x h=>by simp at h,fun i j r x h=>by simp at h⟩,rfl⟩
  rintro o (ho|⟨_,ho⟩)
  ·have:=hW.nB _ o ho;omega
  ·exact ho
 refine⟨_,_,_,.inl ?_,hW.zo hp (fun _ _ h=>by cases h) hM,hF.put (fR hW hp) (fun i=>⟨id,id,fun _=>id⟩) (by simp) o.dst hd (.cK hv),jD hW hp⟩
 simp[execOp,ho,Instr.makeMap,newObj,Sem.run]
theorem S5{n:Nat}{va:Bool}{m:Nat}{g:Nat->Value}{cs:List AV}(hm:cs.length=m)(h1:va=false->m=1)(h:∀ (j:Nat) (x:AV),cs[j]?=some x->VR gh n w (g j) x.drop/\(g j).oneCell'=true) :
  VR gh n w (qR va m g) (cond va (.agg (cs.map AV.drop)) ((cs.headD .undef).drop)):=by
 cases va with
 | true =>
  refine .agg _ _ (by simp[hm]) (fun j v hv=>?_) (fun j v x hv hx=>?_)
  ·simp only[apW,apG,apt] at hv
   obtain⟨i,hi,rfl⟩:=hv
   obtain⟨aU,jn⟩:=apw.1 hi
   simp at aU jn
   subst jn
   exact (h _ _ (apy (by omega))).2
  ·simp only[apW,apG,apt] at hv hx
   obtain⟨i,hi,rfl⟩:=hv
   obtain⟨aU,jn⟩:=apw.1 hi
   simp at aU jn
   subst jn
   obtain⟨y,hy,rfl⟩:=hx
   exact (h _ y hy).1
 | false =>
  have:=h1 rfl
  cases cs with
  | nil=>simp at hm;omega
  | cons x cs=>exact (h 0 x rfl).1
theorem LM{n:Nat}{t kt et:TypeId}{ks:List CK}{ka va:Bool}{vz:Nat}{z:Value}{zero:List AV}(hT:D3 P t kt et ks ka va vz z zero):VR gh n w z (cond va (.agg (zero.map AV.drop)) ((zero.headD .undef).drop)):=by
 obtain⟨hl,hv⟩:=jb (gh:=gh) (n:=n) (w:=w) hT.cells
 have DV:=hT.agg
 cases z
 case agg C =>
  simp[LX] at DV
  subst DV
  refine .agg C _ (by simpa [Value.cells] using hl) (fun j v tZ=>?_) (fun j v x tZ hx=>?_)
  ·have aU:=(apD.1 tZ).1
   have hz:zero[j]?=some zero[j]:=apy (by
    have:C.toList.length=zero.length:=by simpa [Value.cells] using hl
    simp at this;omega)
   exact (hv j v _ (by simpa [Value.cells] using tZ) hz).2
  ·simp only[apG,apt] at hx
   obtain⟨y,hy,rfl⟩:=hx
   exact (hv j v y (by simpa [Value.cells] using tZ) hy).1.dropped
 all_goals
  simp[LX] at DV
  subst DV
  have h1:zero.length=1:=by rw[hT.len];exact hT.vz1 rfl
  obtain⟨x,rfl⟩:=aqQ.1 h1
  exact (hv 0 _ x rfl rfl).1.dropped
theorem y5{n:Nat}{ok va:Bool}{cs:List AV}{v:Value}(h:VR gh n w v (cond va (.agg (cs.map AV.drop)) ((cs.headD .undef).drop)))(found:Bool) :
  VR gh n w (if ok then .tuple #[v,.bool found] else v) (y4 ok va cs found):=by
 unfold y4
 simp only
 cases ok with
 | false=>exact h
 | true =>
  refine .tuple _ _ rfl (fun j u x hu hx=>?_)
  match j with
  | 0=>injection hu with hu;injection hx with hx;subst hu hx;exact h
  | 1=>injection hu with hu;injection hx with hx;subst hu hx;exact .plain _ _ (.bool _)
  | j+2=>simp at hx
structure Rows (gh:Gh) (n:Nat) (w:World) (E:Array MapEntry) (kz:Nat) (ka va:Bool) (es:List (List AV)):Prop where
 size:E.size=es.length
 key:∀ (i:Nat) (e:MapEntry) (r:List AV),E[i]?=some e->es[i]?=some r->Kw gh.S w kz ka e.key r
 val:∀ (i:Nat) (e:MapEntry) (r:List AV),E[i]?=some e->es[i]?=some r->kz<=r.length/\(va=false->r.length=kz+1)/\∃ g,e.val=qR va (r.length-kz) g/\∀ (j:Nat) (x:AV),(r.drop kz)[j]?=some x->VR gh n w (g j) x.drop/\(g j).oneCell'=true
theorem qE{n b kz:Nat}{ka va:Bool}{es:List (List AV)}{v:Value}(h:PR gh.S w v (.dR kz ka va es)):∃ b E ck,v=.map (some b)/\w.heap[b]?=some (.map E ck)/\Rows gh n w E kz ka va es:=by
 cases h with
 | dR b _ _ _ _ E ck f hS hb hE cy =>
  refine⟨b,E,ck,rfl,hb,hE.size,fun i e r h1 h2=>⟨f i,(hE.row i e r h1 h2).2.2.2.1,fun j x hj _=>cy i j r x h2 hj⟩,fun i e r h1 h2=>?_⟩
  obtain⟨k1,_,k2,_,k3⟩:=hE.row i e r h1 h2
  refine⟨k1,k2,fun j=>f i (kz+j),k3,fun j x hj=>?_⟩
  rw[ap'] at hj
  have:=cy i (kz+j) r x h2 hj
  exact⟨VR.dropped (.plain _ _ this),this.fg⟩
theorem qD{n b kz:Nat}{p:bc}{q:Nat->bc}{ka va:Bool}{es:List (List AV)}(h:we gh n w b p q kz ka va es):∃ E ck,w.heap[b]?=some (.map E ck)/\Rows gh n w E kz ka va es:=by
 obtain⟨_,_,E,ck,f,hb,hE,h1,h2⟩:=h
 refine⟨E,ck,hb,hE.size,fun i e r k1 k2=>⟨f i,(hE.row i e r k1 k2).2.2.2.1,fun j x hj hl=>h1 i j r x k2 hj hl⟩,fun i e r k1 k2=>?_⟩
 obtain⟨l1,_,l2,_,l3⟩:=hE.row i e r k1 k2
 refine⟨l1,l2,fun j=>f i (kz+j),l3,fun j x hj=>?_⟩
 rw[ap'] at hj
 obtain⟨m1,_,m2⟩:=h2 i (kz+j) r x k2 hj (by omega)
 exact⟨m2.dropped,m1⟩
theorem uC:∀ {ks:List CK} {kc:List AV} {es:List (List AV)} {i:Nat},fH ks kc es=some (some i)->i<es.length
 | ks,kc,[],i,h=>by simp[fH] at h
 | ks,kc,r :: es,i,h=>by
  simp only[fH,apu] at h
  obtain⟨b,_,h⟩:=h
  cases b with
  | true=>simp at h;subst h;simp
  | false =>
   simp only[apE,apt] at h
   obtain⟨o,ho,h⟩:=h
   cases o with
   | none=>simp at h
   | some j=>simp at h;subst h;have:=uC ho;simp;omega
theorem HC{n:Nat}{t kt et:TypeId}{ks:List CK}{ka va:Bool}{vz:Nat}{z:Value}{zero:List AV}(hT:D3 P t kt et ks ka va vz z zero){kv:Value}{k:AV}{kc:List AV}(hk:VR gh n w kv k)(pO:k.cells=some kc)(hl:kc.length=ks.length)(rD:ka=k.isAgg)
  {b:Nat} {E:Array MapEntry} {ck:Nat} {es:List (List AV)} (hb:w.heap[b]?=some (.map E ck)) (hR:Rows gh n w E ks.length ka va es) {o:Option Nat} (hf:fH ks kc es=some o) (ok:Bool) :
  ∃ v,(Instr.lookup t (.map (some b)) kv ok).run P w=.ok v w/\VR gh n w v (py ok va zero ks.length es o):=by
 have ql:=sI hT.key hk pO hl rD E.isEmpty
 have HW:=u5 hT.key hk pO hl rD (l:=E.toList) (by simpa using hR.size) (fun i e r h1 h2=>hR.key i e r (by simpa using h1) h2) hf
 obtain⟨i0,Gs,hz0⟩:=hT.hz
 have hzr:(zeroValue et).run P w=.ok z w:=by simp[zeroValue,typeInfo,Gs,hz0]
 cases o with
 | none =>
  refine⟨if ok then .tuple #[z,.bool false] else z,?_,y5 (LM hT) false⟩
  simp[Instr.lookup,run_underlying hT.ht,getObj,Sem.run,hb]
  simp[ql,HW,hzr]
 | some i =>
  have hi:=uC hf
  have hiE:i<E.size:=by rw[hR.size];exact hi
  have hE:E[i]?=some E[i]:=apJ hiE
  have he:es[i]?=some es[i]:=apy hi
  obtain⟨k1,k2,g,k3,k4⟩:=hR.val i _ _ hE he
  have jH:es.getD i []=es[i]:=by simp[List.getD,he]
  have M4:E.toList.getD i default=E[i]:=by
   have:E.toList[i]?=some E[i]:=by rw[ap7];exact hE
   simp[List.getD,this]
  have hv:=S5 (gh:=gh) (n:=n) (w:=w) (va:=va) (m:=es[i].length-ks.length) (g:=g) (cs:=es[i].drop ks.length) (by simp) (fun hva=>by have:=k2 hva;omega) k4
  rw[<- k3] at hv
  refine⟨if ok then .tuple #[E[i].val,.bool true] else E[i].val,?_,by simp only[py];rw[jH];exact y5 hv true⟩
  simp only[Option.map_some,M4] at HW
  simp[Instr.lookup,run_underlying hT.ht,getObj,Sem.run,hb]
  simp[ql,HW]
theorem DH{n:Nat}{t kt et:TypeId}{ks:List CK}{ka va:Bool}{vz:Nat}{z:Value}{zero:List AV}(hT:D3 P t kt et ks ka va vz z zero){kv:Value}{k:AV}{kc:List AV}(hk:VR gh n w kv k)(pO:k.cells=some kc)(hl:kc.length=ks.length)(rD:ka=k.isAgg)(ok:Bool) :
  ∃ v,(Instr.lookup t (.map none) kv ok).run P w=.ok v w/\VR gh n w v (y4 ok va zero false):=by
 have ql:=sI hT.key hk pO hl rD true
 have HW:=u5 hT.key hk pO hl rD (l:=[]) (es:=[]) rfl (fun i e r h1 h2=>by simp at h1) (o:=none) rfl
 obtain⟨i0,Gs,hz0⟩:=hT.hz
 have hzr:(zeroValue et).run P w=.ok z w:=by simp[zeroValue,typeInfo,Gs,hz0]
 refine⟨if ok then .tuple #[z,.bool false] else z,?_,y5 (LM hT) false⟩
 simp[Instr.lookup,run_underlying hT.ht]
 simp[ql,HW,hzr]
end
end
end Go.Abs
