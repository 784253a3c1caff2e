/-
  A part of the proof of PrintKept: AbsOps4, AbsOps5, AbsOps6, AbsStep, AbsOps7.
-/
import Derived.Test.YtaedakihpnghjaaGreatDoorP02
set_option linter.unusedSimpArgs false
set_option linter.unusedVariables false
section
namespace Go.Abs
set_option linter.unusedSimpArgs false
set_option linter.unusedVariables false
section
variable {P:Program} {G:Nat→List AV} {base nt:Nat} {L:List Nat} {gh:Gh} {w:World} {a:Act} {s:AS}
theorem bound_inv (hW:WRel G base s.H gh w) (hF:FR L nt gh w a s) {x:Option Operand} {ix:Option IArg} (hc:optArg nt x=some ix) {d most n:Nat} (hb:bound d (ix.map (·.eval G s.T)) most=some n) :
  (x.map a.eval=none∧ix=none∧n=d)∨(ix.isSome=true∧n≤most∧∃ k,x.map a.eval=some (.int k (n:Int))):=by
 cases x with
 | none=>simp[optArg] at hc;subst hc;simp[bound] at hb;exact .inl ⟨rfl,rfl,hb.symm⟩
 | some x =>
  simp only[optArg,Option.map_eq_some_iff] at hc
  obtain⟨y,hy,rfl⟩:=hc
  simp only[bound,Option.map_some,Option.bind_eq_some_iff] at hb
  obtain⟨m,hm,hb⟩:=hb
  obtain⟨h1,h2⟩:=cond_some hb
  injection h2 with h2
  subst h2
  obtain⟨k,hk⟩:=asNat_inv hW hF hy hm
  exact .inr ⟨rfl,by simpa [Nat.ble_eq] using h1,k,by simp[hk]⟩
theorem run_bounds {isSlice:Bool} {len cap l h m:Nat} {lo hi mx:Option Value}
  (hm:(mx=none∧m=cap)∨(m≤cap∧∃ k,mx=some (.int k (m:Int)))) (hh:(hi=none∧h=len∧mx=none)∨(h≤m∧∃ k,hi=some (.int k (h:Int))))
  (hl:(lo=none∧l=0)∨(l≤h∧∃ k,lo=some (.int k (l:Int)))) :
  (Instr.sliceBounds isSlice len cap lo hi mx).run P w=.ok (l,h,m) w:=by
 have sb:∀ (k:IntKind) (n y:Nat) (code:BoundsCode),n≤y→(Instr.sliceBound (.int k (n:Int)) y code).run P w=.ok n w:=by
  intro k n y code hn
  rw[run_sliceBound w k n y code (by omega) (by omega)];simp
 rcases hm with ⟨rfl,rfl⟩|⟨hm,km,rfl⟩<;>rcases hh with ⟨rfl,rfl,hx⟩|⟨hh,kh,rfl⟩<;>rcases hl with ⟨rfl,rfl⟩|⟨hl,kl,rfl⟩ <;>
  first|(cases hx;done)|simp[Instr.sliceBounds,sb, *]
theorem ev_slice_str (hW:WRel G base s.H gh w) (hF:FR L nt gh w a s) {o:Oper} {t:TypeId} {x:Operand} {lo hi mx:Option Operand} {ix:IArg} {ilo ihi imx:Option IArg} {z:AV}
  (ho:o.op=.slice t x lo hi mx) (hc:compArg nt x=some ix) (h1:optArg nt lo=some ilo) (h2:optArg nt hi=some ihi) (h3:optArg nt mx=some imx) (hu:P.underlying t=some .string)
  (he:sliceAV .str (ix.eval G s.T) (ilo.map (·.eval G s.T)) (ihi.map (·.eval G s.T)) (imx.map (·.eval G s.T))=some z) :
  ∃ v,(execOp a.eval o).run P w=.ok (.value v) w∧Val gh s.H.length nt w s.T s.gen (tmv a) v z:=by
 generalize hz:ix.eval G s.T=X at he
 cases X<;>simp only[sliceAV,reduceCtorEq,Option.bind_eq_some_iff] at he
 rename_i l
 obtain⟨h,hh,l0,hl,he⟩:=he
 obtain⟨hn,he⟩:=cond_some he
 injection he with he
 subst he
 obtain⟨q,hA,hq⟩:=(arg_VR hW hF hc hz rfl).inv_str
 have hsz:q.size=l.length:=by rw[← hq];simp
 have hmn:mx.map a.eval=none∧imx=none:=by
  cases mx with
  | none=>simp[optArg] at h3;subst h3;exact⟨rfl,rfl⟩
  | some m=>simp only[optArg,Option.map_eq_some_iff] at h3;obtain⟨_,_,rfl⟩:=h3;simp at hn
 have bh:=bound_inv hW hF h2 hh
 have bl:=bound_inv hW hF h1 hl
 have hb:(Instr.sliceBounds false q.size q.size (lo.map a.eval) (hi.map a.eval) none).run P w=.ok (l0,h,q.size) w:=by
  refine run_bounds (.inl ⟨rfl,rfl⟩) ?_ ?_
  ·rcases bh with ⟨e1,_,e2⟩|⟨_,e1,k,e2⟩
   ·exact .inl ⟨e1,by omega,rfl⟩
   ·exact .inr ⟨by omega,k,e2⟩
  ·rcases bl with ⟨e1,_,e2⟩|⟨_,e1,k,e2⟩
   ·exact .inl ⟨e1,e2⟩
   ·exact .inr ⟨e1,k,e2⟩
 refine⟨.string (q.extract l0 h),?_,.of_VR (.plain _ _ (.str _ _ ?_))⟩
 ·have hA':=hA
  have hsl:(Instr.slice t (.string q) (lo.map a.eval) (hi.map a.eval) none).run P w=.ok (.string (q.extract l0 h)) w:=by
   simp[Instr.slice,run_underlying hu,hb]
  simp only[execOp,ho,hA',hmn.1,Sem.run_bind,run_sliceAt_string w t (.string q) _ _ _ hu,hsl,Result.andThen_ok,Sem.run_pure]
 ·rw[← hq]
  rw[ByteArray.data_extract,Array.toList_extract,List.extract_eq_take_drop,List.drop_take]
theorem headOk_inv {sz sz' : Nat} {e:List (List AV)} (h:headOk sz e=true) (hr:∀ (i:Nat) (r:List AV),e[i]?=some r→r.length=sz') (hne:e≠[]):sz'=sz:=by
 cases e with
 | nil=>exact absurd rfl hne
 | cons r e =>
  simp[headOk,nbeq] at h
  rw[← hr 0 r rfl,h]
theorem PR.part {S:Nat→Nat→Prop} {b o n cap:Nat} {e:List (List AV)} (hv:PR S w (.slice (some ⟨b,o,none⟩) n cap) (.slice e false)) {sz:Nat} (hsz:e≠[]→∀ (i:Nat) (r:List AV),e[i]?=some r→r.length=sz)
  {l h c:Nat} (hl:l≤h) (hh:h≤n) (hc:h-l≤c):PR S w (.slice (some ⟨b,o+l*sz,none⟩) (h-l) c) (.slice ((e.take h).drop l) false):=by
 cases hv with
 | slice _ _ _ _ sz' _ f hn hcap hrow hcell hrel =>
  have idx:∀ (i:Nat) (r:List AV),((e.take h).drop l)[i]?=some r→e[l+i]?=some r:=by
   intro i r hi
   rw[List.getElem?_drop,List.getElem?_take] at hi
   split at hi
   ·exact hi
   ·cases hi
  have hz:∀ (i:Nat) (r:List AV),e[i]?=some r→sz'=sz:=by
   intro i r hi
   have hne:e≠[]:=by rintro rfl;simp at hi
   rw[← hrow i r hi,hsz hne i r hi]
  refine .slice b (o+l*sz) (h-l) c sz _ (fun i j=>f (l+i) j) (by simp;omega) hc ?_ ?_ ?_
  ·intro i r hi
   rw[hrow _ r (idx i r hi),hz _ r (idx i r hi)]
  ·intro i j r x hi hj
   have h1:=hcell (l+i) j r x (idx i r hi) hj
   rw[hz _ r (idx i r hi)] at h1
   rw[show o+l*sz+i*sz+j=o+(l+i)*sz+j by rw[Nat.add_mul];omega]
   exact h1
  ·intro i j r x hi hj
   exact hrel (l+i) j r x (idx i r hi) hj
theorem PR.none_part {S:Nat→Nat→Prop} {b o c:Nat} {e:List (List AV)} {l h:Nat} (hl:h≤l):PR S w (.slice (some ⟨b,o,none⟩) 0 c) (.slice ((e.take h).drop l) false):=by
 have:(e.take h).drop l=[]:=by simp;omega
 rw[this]
 exact .slice b o 0 c 0 [] (fun _ _=>undef) rfl (Nat.zero_le _) (fun i r h=>by simp at h) (fun i j r x h=>by simp at h) (fun i j r x h=>by simp at h)
theorem ev_slice_sref (hW:WRel G base s.H gh w) (hF:FR L nt gh w a s) {o:Oper} {t e0:TypeId} {x:Operand} {lo hi mx:Option Operand} {ix:IArg} {ilo ihi imx:Option IArg} {sz:Nat} {z:AV}
  (ho:o.op=.slice t x lo hi mx) (hc:compArg nt x=some ix) (h1:optArg nt lo=some ilo) (h2:optArg nt hi=some ihi) (h3:optArg nt mx=some imx) (hu:P.underlying t=some (.slice e0)) (hs:sizeT P e0=some sz)
  {ll o0 n zz:Nat} (hz:ix.eval G s.T=.sref ll o0 n zz) (he:∃ h,bound n (ihi.map (·.eval G s.T)) n=some h∧∃ l0,bound 0 (ilo.map (·.eval G s.T)) h=some l0 ∧
   cond ((imx.map (·.eval G s.T)).isNone&&Nat.beq zz sz) (some (cond (Nat.blt l0 n) (.sref ll (o0+l0*zz) (h-l0) zz) (.slice [] false))) none=some z) :
  ∃ v,(execOp a.eval o).run P w=.ok (.value v) w∧Val gh s.H.length nt w s.T s.gen (tmv a) v z:=by
 obtain⟨h,hh,l0,hl,he⟩:=he
 obtain⟨hn,he2⟩:=cond_some he
 clear he
 simp only[Bool.and_eq_true,Option.isNone_iff_eq_none,Option.map_eq_none_iff,nbeq,decide_eq_true_eq] at hn
 obtain⟨rfl,rfl⟩:=hn
 have hmx:mx.map a.eval=none:=by
  cases mx with
  | none=>rfl
  | some m=>simp only[optArg,Option.map_eq_some_iff,reduceCtorEq,and_false,exists_false] at h3
 obtain⟨hlt,cap,hk,hblk,hA⟩:=(arg_VR hW hF hc hz rfl).inv_sref
 have bh:=bound_inv hW hF h2 hh
 have bl:=bound_inv hW hF h1 hl
 have hhn:h≤n:=by rcases bh with ⟨_,_,e⟩|⟨_,e,_⟩<;>omega
 have hlh:l0≤h:=by rcases bl with ⟨_,_,e⟩|⟨_,e,_⟩<;>omega
 have hb:(Instr.sliceBounds true n cap (lo.map a.eval) (hi.map a.eval) (mx.map a.eval)).run P w=.ok (l0,h,cap) w:=by
  refine run_bounds (.inl ⟨hmx,rfl⟩) ?_ ?_
  ·rcases bh with ⟨e1,e2,e3⟩|⟨_,e1,k,e2⟩
   ·exact .inl ⟨e1,by omega,hmx⟩
   ·exact .inr ⟨by omega,k,e2⟩
  ·rcases bl with ⟨e1,_,e2⟩|⟨_,e1,k,e2⟩
   ·exact .inl ⟨e1,e2⟩
   ·exact .inr ⟨e1,k,e2⟩
 have hr:(Instr.sliceAt t (a.eval x) (lo.map a.eval) (hi.map a.eval) (mx.map a.eval)).run P w=.ok (.slice (if cap=l0 then some ⟨gh.ρ ll,o0,none⟩ else (some (⟨gh.ρ ll,o0,none⟩:Addr)).map (·.add (l0*zz))) (h-l0) (cap-l0)) w:=by
  rw[hA]
  simp[Instr.sliceAt,run_underlying hu,Instr.slice,hb,run_sizeOf' hs]
 refine⟨_,by simp only[execOp,ho,Sem.run_bind,hr,Result.andThen_ok,Sem.run_pure];rfl,?_⟩
 injection he2 with he2
 subst he2
 cases hq:Nat.blt l0 n with
 | true =>
  have hq' : l0<n:=by simpa [Nat.blt_eq] using hq
  rw[if_neg (by omega),Option.map_some,addr_add]
  refine .of_VR (.sref ll (o0+l0*zz) (h-l0) (cap-l0) zz hlt (by omega) (fun h0=>?_))
  obtain⟨ty,hbl⟩:=hblk h0
  refine⟨ty,?_⟩
  have:o0+l0*zz+(cap-l0)*zz=o0+cap*zz:=by
   have h3:(l0+(cap-l0))*zz=l0*zz+(cap-l0)*zz:=Nat.add_mul _ _ _
   rw[show l0+(cap-l0)=cap by omega] at h3
   omega
  rw[this];exact hbl
 | false =>
  have hq' : ¬ l0<n:=fun h=>by rw[← Nat.blt_eq] at h;rw[h] at hq;cases hq
  have e0:h-l0=0:=by omega
  rw[e0]
  have hp:∀ (b of c:Nat),PR gh.S w (.slice (some ⟨b,of,none⟩) 0 c) (.slice [] false):=fun b of c=>.slice b of 0 c 0 [] (fun _ _=>undef) rfl (Nat.zero_le _) (fun i r h=>by simp at h) (fun i j r x h=>by simp at h) (fun i j r x h=>by simp at h)
  split
  ·exact .of_VR (.plain _ _ (hp _ _ _))
  ·rw[Option.map_some,addr_add];exact .of_VR (.plain _ _ (hp _ _ _))
theorem ev_slice_sl (hW:WRel G base s.H gh w) (hF:FR L nt gh w a s) {o:Oper} {t e0:TypeId} {x:Operand} {lo hi mx:Option Operand} {ix:IArg} {ilo ihi imx:Option IArg} {sz:Nat} {z:AV}
  (ho:o.op=.slice t x lo hi mx) (hc:compArg nt x=some ix) (h1:optArg nt lo=some ilo) (h2:optArg nt hi=some ihi) (h3:optArg nt mx=some imx) (hu:P.underlying t=some (.slice e0)) (hs:sizeT P e0=some sz)
  (he:sliceAV (.sl sz) (ix.eval G s.T) (ilo.map (·.eval G s.T)) (ihi.map (·.eval G s.T)) (imx.map (·.eval G s.T))=some z) :
  ∃ v,(execOp a.eval o).run P w=.ok (.value v) w∧Val gh s.H.length nt w s.T s.gen (tmv a) v z:=by
 generalize hz:ix.eval G s.T=X at he
 cases X<;>simp only[sliceAV,reduceCtorEq,Option.bind_eq_some_iff] at he
 case sref=>exact ev_slice_sref hW hF ho hc h1 h2 h3 hu hs hz he
 rename_i e own
 obtain⟨m,hm,h,hh,l0,hl,he⟩:=he
 obtain⟨hn,he⟩:=cond_some he
 injection he with he
 subst he
 have hp:=VR.inv_slice (arg_VR hW hF hc hz rfl)
 have bm:=bound_inv hW hF h3 hm
 have bh:=bound_inv hW hF h2 hh
 have bl:=bound_inv hW hF h1 hl
 have hmx:imx=none→mx.map a.eval=none:=by
  rintro rfl
  cases mx with
  | none=>rfl
  | some m=>simp only[optArg,Option.map_eq_some_iff,reduceCtorEq,and_false,exists_false] at h3
 have hlo:lo.map a.eval=none→l0=0:=by
  intro hlo
  rcases bl with ⟨_,_,e2⟩|⟨_,_,k,e2⟩
  ·exact e2
  ·rw[hlo] at e2;cases e2
 simp only[Bool.and_eq_true,Bool.or_eq_true,Option.isNone_iff_eq_none,Option.map_eq_none_iff] at hn
 obtain⟨hn1,hn2⟩:=hn
 have hlh:l0≤h:=by rcases bl with ⟨_,_,e⟩|⟨_,e,_⟩<;>omega
 have hhm:h≤m:=by
  rcases bh with ⟨_,e1,e2⟩|⟨_,e,_⟩
  ·subst e1
   rcases hn1 with rfl|hx
   ·simp[bound] at hm;omega
   ·simp at hx
  ·exact e
 have hml:m≤e.length:=by rcases bm with ⟨_,_,e⟩|⟨_,e,_⟩<;>omega
 have key:∀ len cap:Nat,len=e.length→len≤cap→∀ ad,∃ m',(m'=if imx=none then cap else m) ∧
   (Instr.slice t (.slice ad len cap) (lo.map a.eval) (hi.map a.eval) (mx.map a.eval)).run P w=.ok (.slice (if m'=l0 then ad else ad.map (·.add (l0*sz))) (h-l0) (m' - l0)) w:=by
  intro len cap hlen hcap ad
  refine⟨_,rfl,?_⟩
  have hb:(Instr.sliceBounds true len cap (lo.map a.eval) (hi.map a.eval) (mx.map a.eval)).run P w=.ok (l0,h,if imx=none then cap else m) w:=by
   refine run_bounds ?_ ?_ ?_
   ·rcases bm with ⟨e1,e2,_⟩|⟨e1,e2,k,e3⟩
    ·exact .inl ⟨e1,by rw[if_pos e2]⟩
    ·have hne:imx≠none:=by rintro rfl;cases e1
     rw[if_neg hne]
     exact .inr ⟨by omega,k,e3⟩
   ·rcases bh with ⟨e1,e2,e3⟩|⟨_,e1,k,e2⟩
    ·refine .inl ⟨e1,by omega,?_⟩
     subst e2
     rcases hn1 with hx|hx
     ·exact hmx hx
     ·simp at hx
    ·refine .inr ⟨?_,k,e2⟩
     split<;>omega
   ·rcases bl with ⟨e1,_,e2⟩|⟨_,e1,k,e2⟩
    ·exact .inl ⟨e1,e2⟩
    ·exact .inr ⟨e1,k,e2⟩
  simp[Instr.slice,run_underlying hu,hb,run_sizeOf' hs]
 have fin:∀ {V:Value} {R:Value},a.eval x=V→(Instr.slice t V (lo.map a.eval) (hi.map a.eval) (mx.map a.eval)).run P w=.ok R w→(∃ ad n c,V=.slice ad n c) →
   (execOp a.eval o).run P w=.ok (.value R) w:=by
  rintro V R hA hR ⟨ad,n,c,rfl⟩
  have:(Instr.sliceAt t (.slice ad n c) (lo.map a.eval) (hi.map a.eval) (mx.map a.eval)).run P w=.ok R w:=by simp[Instr.sliceAt,run_underlying hu,hR]
  simp only[execOp,ho,hA,Sem.run_bind,this,Result.andThen_ok,Sem.run_pure]
 generalize hA:a.eval x=V at hp
 have hp0:=hp
 cases hp with
 | sliceNil =>
  have hlen:([]:List (List AV)).length=0:=rfl
  simp only[List.length_nil] at hml
  have e1:m=0:=by omega
  have e2:h=0:=by omega
  have e3:l0=0:=by omega
  subst e1 e2 e3
  obtain⟨m',hm',hr⟩:=key 0 0 rfl (Nat.le_refl _) none
  have:m'=0:=by rw[hm'];split<;>rfl
  subst this
  refine⟨_,fin hA hr ⟨_,_,_,rfl⟩,.of_VR ?_⟩
  simp
  generalize imx.isSome=q
  cases q<;>exact .plain _ _ .sliceNil
 | slice b of n cap sz' _ f hn' hcap hrow hcell hrel =>
  obtain⟨m',hm',hr⟩:=key n cap hn'.symm hcap (some ⟨b,of,none⟩)
  refine⟨_,fin hA hr ⟨_,_,_,rfl⟩,.of_VR ?_⟩
  have hm'h:h≤m':=by rw[hm'];split<;>omega
  have hpr:PR gh.S w (.slice (if m'=l0 then some ⟨b,of,none⟩ else (some (⟨b,of,none⟩:Addr)).map (·.add (l0*sz))) (h-l0) (m' - l0)) (.slice ((e.take h).drop l0) false):=by
   by_cases hml0:m'=l0
   ·rw[if_pos hml0]
    have:h-l0=0:=by omega
    rw[this]
    exact PR.none_part (by omega)
   ·rw[if_neg hml0,Option.map_some,addr_add]
    by_cases hl00:l0=0
    ·have:=PR.part hp0 (sz:=sz') (fun _=>hrow) hlh (c:=m' - l0) (by omega) (by omega)
     rw[hl00,Nat.zero_mul] at this ⊢
     exact this
    ·refine PR.part hp0 (fun hne i r hi=>?_) hlh (by omega) (by omega)
     have hloN:¬ (ilo=none):=by
      rintro rfl
      rcases bl with ⟨_,_,e2⟩|⟨e1,_⟩
      ·exact hl00 e2
      ·cases e1
     have:=headOk_inv (hn2.resolve_left hloN) hrow hne
     rw[hrow i r hi,this]
  generalize hq:((Option.map (fun x=>IArg.eval G s.T x) imx).isSome&&m.beq h&&solid e)=q
  cases q
  ·exact .plain _ _ hpr
  ·simp only[Bool.and_eq_true,Option.isSome_map,nbeq,decide_eq_true_eq] at hq
   have hne:imx≠none:=by rintro rfl;simp at hq
   have:m'=h:=by rw[hm',if_neg hne];exact hq.1.2
   subst this
   refine .full _ _ _ hpr (fun ad ha _=>?_)
   have hbk:ad.block=b:=by
    split at ha
    ·injection ha with ha;rw[← ha]
    ·rw[Option.map_some,addr_add] at ha;injection ha with ha;rw[← ha]
   rw[hbk]
   obtain⟨x,r,e2,rfl⟩:∃ x r e2,e=(x :: r) :: e2:=by
    have hs:=hq.2
    unfold solid at hs
    split at hs
    ·exact⟨_,_,_,rfl⟩
    ·cases hs
   exact hW.sLt b _ (hcell 0 0 _ x rfl rfl).1
theorem chunks_get (sz:Nat):∀ (n:Nat) (l:List AV) (i:Nat),(chunks sz n l)[i]?=if i<n then some ((l.drop (i*sz)).take sz) else none
 | 0,l,i=>by simp[chunks]
 | n+1,l,0=>by simp[chunks]
 | n+1,l,i+1=>by
  simp only[chunks,List.getElem?_cons_succ,chunks_get sz n,List.drop_drop,Nat.add_lt_add_iff_right]
  congr 3
  rw[Nat.add_mul,Nat.one_mul,Nat.add_comm]
theorem chunks_len (sz:Nat):∀ (n:Nat) (l:List AV),(chunks sz n l).length=n
 | 0,l=>rfl
 | n+1,l=>by simp[chunks,chunks_len sz n]
theorem PR.chunks {S:Nat→Nat→Prop} {b o n sz:Nat} {cs:List AV} (hv:PR S w (.pointer (some ⟨b,o,none⟩)) (.eptr cs)) (hl:cs.length=n*sz) :
  PR S w (.slice (some ⟨b,o,none⟩) n n) (.slice (chunks sz n cs) false):=by
 cases hv with
 | eptr _ _ _ f hcell hrel =>
  have idx:∀ (i j:Nat) (r:List AV) (x:AV),(Abs.chunks sz n cs)[i]?=some r→r[j]?=some x→cs[i*sz+j]?=some x:=by
   intro i j r x hi hj
   rw[chunks_get] at hi
   split at hi
   ·injection hi with hi
    subst hi
    rw[List.getElem?_take,List.getElem?_drop] at hj
    split at hj
    ·exact hj
    ·cases hj
   ·cases hi
  refine .slice b o n n sz _ (fun i j=>f (i*sz+j)) (chunks_len sz n cs) (Nat.le_refl _) ?_ ?_ ?_
  ·intro i r hi
   rw[chunks_get] at hi
   split at hi
   ·rename_i hlt
    injection hi with hi
    subst hi
    have:(i+1)*sz≤n*sz:=Nat.mul_le_mul_right _ hlt
    rw[Nat.add_mul] at this
    simp;omega
   ·cases hi
  ·intro i j r x hi hj
   rw[Nat.add_assoc]
   exact hcell _ x (idx i j r x hi hj)
  ·intro i j r x hi hj
   exact hrel _ x (idx i j r x hi hj)
theorem ev_slice_arr (hW:WRel G base s.H gh w) (hF:FR L nt gh w a s) {o:Oper} {t e0:TypeId} {x:Operand} {lo hi mx:Option Operand} {ix:IArg} {ilo ihi imx:Option IArg} {n sz:Nat} {z:AV}
  (ho:o.op=.slice t x lo hi mx) (hc:compArg nt x=some ix) (h1:optArg nt lo=some ilo) (h2:optArg nt hi=some ihi) (h3:optArg nt mx=some imx) (hu:P.underlying t=some (.array n e0)) (hs:sizeT P e0=some sz) (h0:0<sz)
  (he:sliceAV (.arr n sz) (ix.eval G s.T) (ilo.map (·.eval G s.T)) (ihi.map (·.eval G s.T)) (imx.map (·.eval G s.T))=some z) :
  ∃ v,(execOp a.eval o).run P w=.ok (.value v) w∧Val gh s.H.length nt w s.T s.gen (tmv a) v z:=by
 generalize hz:ix.eval G s.T=X at he
 cases X<;>simp only[sliceAV,reduceCtorEq] at he
 rename_i cs
 obtain⟨hlen,he⟩:=cond_some he
 simp only[Option.bind_eq_some_iff] at he
 obtain⟨h,hh,l0,hl,he⟩:=he
 obtain⟨hn,he⟩:=cond_some he
 injection he with he
 subst he
 have hlen' : cs.length=n*sz:=by simpa [nbeq] using hlen
 have hp:=VR.inv_eptr (arg_VR hW hF hc hz rfl)
 have hmn:mx.map a.eval=none:=by
  cases mx with
  | none=>rfl
  | some m=>simp only[optArg,Option.map_eq_some_iff] at h3;obtain⟨_,_,rfl⟩:=h3;simp at hn
 have bh:=bound_inv hW hF h2 hh
 have bl:=bound_inv hW hF h1 hl
 have hlh:l0≤h:=by rcases bl with ⟨_,_,e⟩|⟨_,e,_⟩<;>omega
 have hhn:h≤n:=by rcases bh with ⟨_,_,e⟩|⟨_,e,_⟩<;>omega
 have hb:(Instr.sliceBounds false n n (lo.map a.eval) (hi.map a.eval) none).run P w=.ok (l0,h,n) w:=by
  refine run_bounds (.inl ⟨rfl,rfl⟩) ?_ ?_
  ·rcases bh with ⟨e1,_,e2⟩|⟨_,e1,k,e2⟩
   ·exact .inl ⟨e1,by omega,rfl⟩
   ·exact .inr ⟨by omega,k,e2⟩
  ·rcases bl with ⟨e1,_,e2⟩|⟨_,e1,k,e2⟩
   ·exact .inl ⟨e1,e2⟩
   ·exact .inr ⟨e1,k,e2⟩
 generalize hA:a.eval x=V at hp
 have hp0:=hp
 cases hp with
 | eptr b of _ f hcell hrel =>
  refine⟨.slice (some (if n=l0 then ⟨b,of,none⟩ else (⟨b,of,none⟩:Addr).add (l0*sz))) (h-l0) (n-l0),?_,.of_VR (.plain _ _ ?_)⟩
  ·simp[execOp,ho,hA,hmn,Instr.sliceAt,run_underlying hu,Instr.sureAddr,hb,run_sizeOf' hs]
  ·have hc:=PR.chunks (sz:=sz) hp0 hlen'
   by_cases hnl:n=l0
   ·have:h-l0=0:=by omega
    rw[this]
    simp only[hnl,if_true]
    rw[← hnl]
    exact PR.none_part (by omega)
   ·rw[if_neg hnl,addr_add]
    refine PR.part hc (fun _ i r hi=>?_) hlh hhn (by omega)
    cases hc with
    | slice _ _ _ _ sz' _ f' hn' hcap hrow hcell' hrel' =>
     rw[chunks_get] at hi
     split at hi
     ·rename_i hlt
      injection hi with hi
      subst hi
      have:(i+1)*sz≤n*sz:=Nat.mul_le_mul_right _ hlt
      rw[Nat.add_mul] at this
      simp;omega
     ·cases hi
end
end Go.Abs
end
section
namespace Go.Abs
set_option linter.unusedSimpArgs false
set_option linter.unusedVariables false
section
variable {P:Program} {G:Nat→List AV} {base nt:Nat} {L:List Nat} {gh:Gh} {w:World} {a:Act} {s:AS}
theorem run_eqGuard_other {op:BinOp} {t:TypeId} {x y:Operand} {u v:Value} (h1:∀ c,u≠.agg c) (h2:u≠.nilIface∨v≠.nilIface):(eqGuard op t x y u v).run P w=.ok () w:=by
 have key:∀ (op:BinOp),op=.eql∨op=.neq∨(eqGuard op t x y u v)=pure ():=by
  intro op
  cases op<;>first|exact .inl rfl|exact .inr (.inl rfl)|exact .inr (.inr rfl)
 have k2:∀ op,op=BinOp.eql∨op=.neq→(eqGuard op t x y u v).run P w=.ok () w:=by
  rintro op (rfl|rfl)<;>simp only[eqGuard,Bool.not_true,Bool.false_eq_true,if_false] <;>
   (cases u<;>first|rfl|exact absurd rfl (h1 _)|skip)<;>(cases v<;>first|rfl|(simp at h2))
 rcases key op with h|h|h
 ·exact k2 op (.inl h)
 ·exact k2 op (.inr h)
 ·rw[h];rfl
theorem binInt_run {op:BinOp} {k:IntKind} {m n:Int} {z:AV} (h:binInt op k m n=some z) (t:TypeId):∃ v,(binOp op t (.int k m) (.int k n)).run P w=.ok v w∧PR gh.S w v z:=by
 unfold binInt at h
 cases op<;>simp only[reduceCtorEq,Option.some.injEq] at h
 case quo =>
  rcases Bool.eq_false_or_eq_true (decide (n=0)) with hb|hb<;>rw[hb] at h<;>simp at h
  subst h
  have hn:¬ n=0:=by simpa using hb
  exact⟨_,by simp[binOp,Op.intDiv,hn],.int _ _⟩
 case rem =>
  rcases Bool.eq_false_or_eq_true (decide (n=0)) with hb|hb<;>rw[hb] at h<;>simp at h
  subst h
  have hn:¬ n=0:=by simpa using hb
  exact⟨_,by simp[binOp,Op.intDiv,hn],.int _ _⟩
 all_goals
  subst h
  first
   | exact⟨_,by simp[binOp,Op.intArith],.int _ _⟩
   | exact⟨_,by simp[binOp,Op.intCmp],.bool _⟩
theorem binStr_run {op:BinOp} {x y:ByteArray} {z:AV} (h:binStr op x.data.toList y.data.toList=some z) (t:TypeId):∃ v,(binOp op t (.string x) (.string y)).run P w=.ok v w∧PR gh.S w v z:=by
 have hx:=ByteArray.toList_eq x
 have hy:=ByteArray.toList_eq y
 unfold binStr at h
 cases op<;>simp only[reduceCtorEq,Option.some.injEq] at h
 case add =>
  obtain⟨h1,h2⟩:=cond_some h
  injection h2 with h2
  subst h2
  have h1' : x.size+y.size≤4611686018427387904:=by simpa using h1
  have h3:¬ (((x.size+y.size:Nat):Int)>IntKind.i64.max):=by
   have:IntKind.i64.max=9223372036854775807:=by decide
   rw[this];omega
  exact⟨.string (x++y),by simp only[binOp,Op.stringOp];rw[if_neg h3];rfl,.str _ _ (by simp)⟩
 all_goals
  subst h
  exact⟨_,by simp[binOp,Op.stringOp,hx,hy],.bool _⟩
theorem eqFlat_append:∀ (k ks:List CK) (X Y:List AV) (b:Bool),eqFlat (k++ks) X Y=some b →
  ∃ b1 b2,eqFlat k X Y=some b1∧eqFlat ks (X.drop k.length) (Y.drop k.length)=some b2∧b=(b1&&b2)
 | [],ks,X,Y,b,h=>⟨true,b,rfl,by simpa using h,by simp⟩
 | c :: k,ks,X,Y,b,h=>by
  have step:∀ (e:Bool) (X' Y' : List AV),(eqFlat (k++ks) X' Y').map (e&&·)=some b→∃ b1 b2,(eqFlat k X' Y').map (e&&·)=some b1∧eqFlat ks (X'.drop k.length) (Y'.drop k.length)=some b2∧b=(b1&&b2):=by
   intro e X' Y' h
   simp only[Option.map_eq_some_iff] at h
   obtain⟨b',hb',rfl⟩:=h
   obtain⟨b1,b2,h1,h2,rfl⟩:=eqFlat_append k ks X' Y' b' hb'
   exact⟨e&&b1,b2,by simp[h1],h2,by rw[Bool.and_assoc]⟩
  cases c<;>cases X<;>try (cases h;done)
  all_goals (rename_i x X';cases x<;>try (cases h;done))
  all_goals (cases Y<;>try (cases h;done))
  all_goals (rename_i y Y';cases y<;>try (cases h;done))
  ·exact step _ _ _ h
  ·simp only[List.cons_append,eqFlat] at h
   obtain⟨h0,h⟩:=cond_some h
   obtain⟨b1,b2,h1,h2,h3⟩:=step _ _ _ h
   exact⟨b1,b2,by simp only[eqFlat];rw[h0];exact h1,h2,h3⟩
  ·exact step _ _ _ h
theorem eqFlat_take:∀ (k:List CK) (X Y:List AV) (n:Nat),k.length≤n→eqFlat k (X.take n) (Y.take n)=eqFlat k X Y
 | [],X,Y,n,_=>rfl
 | c :: k,[],Y,n,h=>by rw[List.take_nil];cases c<;>rfl
 | c :: k,x :: X,[],n,h=>by
  obtain⟨m,rfl⟩:∃ m,n=m+1:=⟨n-1,by simp at h;omega⟩
  rw[List.take_nil,List.take_succ_cons];cases c<;>cases x<;>rfl
 | c :: k,x :: X,y :: Y,n,h=>by
  obtain⟨m,rfl⟩:∃ m,n=m+1:=⟨n-1,by simp at h;omega⟩
  have ih:=eqFlat_take k X Y m (by simp at h;omega)
  rw[List.take_succ_cons,List.take_succ_cons]
  cases c<;>cases x<;>first|rfl|(cases y<;>first|rfl|simp only[eqFlat,ih])
def Row (gh:Gh) (n:Nat) (w:World) (cs:Array Value) (X:List AV):Prop :=
 cs.size=X.length∧∀ (j:Nat) (v:Value) (x:AV),cs[j]?=some v→X[j]?=some x→VR gh n w v x
theorem Row.extract {n:Nat} {cs:Array Value} {X:List AV} (h:Row gh n w cs X) (o k:Nat):Row gh n w (cs.extract o (o+k)) ((X.drop o).take k):=by
 refine⟨by have:=h.1;simp;omega,fun j v x hj hx=>?_⟩
 rw[Array.getElem?_extract] at hj
 rw[List.getElem?_take,List.getElem?_drop] at hx
 split at hj
 ·split at hx
  ·exact h.2 _ v x hj hx
  ·cases hx
 ·cases hj
theorem aggT_scalar {t:TypeId} {d:TypeDesc} (h:P.underlying t=some d) (hd:(match d with|.struct _=>true|.array _ _=>true|_=>false)=false):aggT P t=some false:=by
 unfold aggT;rw[h];simp[hd];cases d<;>simp_all
theorem eqFlat_cell {n:Nat} {c:CK} {t:TypeId} {D o:Nat} {cs ds:Array Value} {X Y:List AV} {b:Bool} (hX:Row gh n w cs X) (hY:Row gh n w ds Y) (hD:1≤D)
  (ht:match c with|.b=>P.underlying t=some .bool|.i=>∃ k,P.underlying t=some (.int k)|.s=>P.underlying t=some .string)
  (h:eqFlat [c] (X.drop o) (Y.drop o)=some b):∃ u v,(part t cs o).run P w=.ok u w∧(part t ds o).run P w=.ok v w∧(Op.equalIn D t u v).run P w=.ok b w:=by
 obtain⟨D,rfl⟩:∃ m,D=m+1:=⟨D-1,by omega⟩
 have hg:aggT P t=some false:=by cases c<;>first|exact aggT_scalar ht rfl|(obtain⟨k,ht⟩:=ht;exact aggT_scalar ht rfl)
 have get:∀ {cs:Array Value} {X:List AV} {x:AV} {X' : List AV},Row gh n w cs X→X.drop o=x :: X'→∃ u,(part t cs o).run P w=.ok u w∧VR gh n w u x:=by
  intro cs X x X' hR hd
  have hx:X[o]?=some x:=by
   have:(X.drop o)[0]?=some x:=by rw[hd];rfl
   rw[List.getElem?_drop] at this;simpa using this
  have hlt:o<cs.size:=by rw[hR.1];exact (List.getElem?_eq_some_iff.1 hx).1
  have hv:cs[o]?=some cs[o]:=Array.getElem?_eq_getElem hlt
  exact⟨cs[o],by simp[part,run_isAgg' hg,hv],hR.2 o _ x hv hx⟩
 generalize hXd:X.drop o=Xd at h
 generalize hYd:Y.drop o=Yd at h
 cases c<;>cases Xd<;>try (cases h;done)
 all_goals (rename_i x X';cases x<;>try (cases h;done))
 all_goals (cases Yd<;>try (cases h;done))
 all_goals (rename_i y Y';cases y<;>try (cases h;done))
 all_goals
  obtain⟨u,hu1,hu2⟩:=get hX hXd
  obtain⟨v,hv1,hv2⟩:=get hY hYd
 ·obtain rfl:=hu2.inv_bool
  obtain rfl:=hv2.inv_bool
  simp[eqFlat] at h
  exact⟨_,_,hu1,hv1,by rw[run_equalIn_bool' w D t _ _ ht,h]⟩
 ·obtain rfl:=hu2.inv_int
  obtain rfl:=hv2.inv_int
  obtain⟨k,ht⟩:=ht
  simp only[eqFlat] at h
  obtain⟨h0,h'⟩:=cond_some h
  simp at h' h0
  exact⟨_,_,hu1,hv1,by rw[h0,run_equalIn_int w D t _ _ _ _ ht,h']⟩
 ·obtain⟨p,rfl,rfl⟩:=hu2.inv_str
  obtain⟨q,rfl,rfl⟩:=hv2.inv_str
  simp[eqFlat] at h
  refine⟨_,_,hu1,hv1,?_⟩
  rw[run_equalIn_string w D t _ _ ht,ByteArray.toList_eq,ByteArray.toList_eq,← h]
  simp
def FlatRun (P:Program) (gh:Gh) (w:World) (d:Nat):Prop :=
 ∀ (t:TypeId) (k:List CK),flatK P d t=some k→∀ (n D o:Nat) (cs ds:Array Value) (X Y:List AV) (b:Bool),Row gh n w cs X→Row gh n w ds Y→d≤D →
  eqFlat k (X.drop o) (Y.drop o)=some b→∃ u v,(part t cs o).run P w=.ok u w∧(part t ds o).run P w=.ok v w∧(Op.equalIn D t u v).run P w=.ok b w
theorem fields_run {d:Nat} (hd:FlatRun P gh w d) {n D:Nat} (hD:d≤D) {cs ds:Array Value} {X Y:List AV} (hX:Row gh n w cs X) (hY:Row gh n w ds Y) :
  ∀ (fs:List Go.Field) (q:Nat) (ks:List CK) (b:Bool),fieldsK (flatK P d) fs q=some ks→eqFlat ks (X.drop q) (Y.drop q)=some b→(Op.eqFields D cs ds fs).run P w=.ok b w:=by
 intro fs
 induction fs with
 | nil=>intro q ks b h1 h2;simp[fieldsK] at h1;subst h1;simp[eqFlat] at h2;subst h2;rfl
 | cons f fs ih =>
  intro q ks b h1 h2
  unfold fieldsK at h1
  obtain⟨h3,h1⟩:=cond_some h1
  simp only[Option.bind_eq_some_iff,Option.map_eq_some_iff] at h1
  obtain⟨kf,hkf,kr,hkr,rfl⟩:=h1
  simp only[Bool.and_eq_true,nbeq,decide_eq_true_eq,bne_iff_ne] at h3
  obtain⟨hof,hnm⟩:=h3
  obtain⟨b1,b2,e1,e2,rfl⟩:=eqFlat_append kf kr _ _ b h2
  rw[List.drop_drop,List.drop_drop] at e2
  obtain⟨u,v,p1,p2,p3⟩:=hd f.type kf hkf n D q cs ds X Y b1 hX hY hD e1
  have hr:=ih (q+kf.length) kr b2 hkr e2
  unfold Op.eqFields
  rw[if_pos hnm,hof]
  simp only[Sem.run_bind,p1,p2,p3,Result.andThen_ok]
  cases b1
  ·simp
  ·simp only[Bool.not_true,Bool.false_eq_true,if_false,hr,Bool.true_and]
theorem struct_inv {d:Nat} {t:TypeId} {k:List CK} {fs:Array Go.Field} (h:flatK P (d+1) t=some k) (hu:P.underlying t=some (.struct fs)) :
  P.stoodInHeld t=false∧fieldsK (flatK P d) fs.toList 0=some k∧∃ sz,sizeT P t=some sz∧sz=k.length:=by
 unfold flatK at h
 rw[hu] at h
 obtain⟨h1,h⟩:=cond_some h
 simp only[Option.bind_eq_some_iff] at h
 obtain⟨ks,hks,h⟩:=h
 obtain⟨h2,h⟩:=cond_some h
 injection h with h
 subst h
 refine⟨by simpa using h1,hks,?_⟩
 cases hq:sizeT P t with
 | none=>rw[hq] at h2;cases h2
 | some m=>rw[hq] at h2;exact⟨m,rfl,by simpa [nbeq] using h2⟩
theorem struct_run {d:Nat} (hd:FlatRun P gh w d) {t:TypeId} {k:List CK} {fs:Array Go.Field} (h:flatK P (d+1) t=some k) (hu:P.underlying t=some (.struct fs))
  {n D:Nat} (hD:d≤D) {cs ds:Array Value} {X Y:List AV} {b:Bool} (hX:Row gh n w cs X) (hY:Row gh n w ds Y) (he:eqFlat k X Y=some b) :
  (Op.equalIn (D+1) t (.agg cs) (.agg ds)).run P w=.ok b w:=by
 obtain⟨hso,hks,_⟩:=struct_inv h hu
 have hf:P.fieldsOf t=fs:=by unfold Program.fieldsOf;rw[hu]
 rw[run_equalIn_struct w D t _ _ (by rw[hf];exact hu) hso,hf]
 exact fields_run hd hD hX hY fs.toList 0 k b hks (by simpa using he)
theorem flatK_run:∀ d:Nat,FlatRun P gh w d
 | 0=>fun t k h=>by cases h
 | d+1=>by
  intro t k h n D o cs ds X Y b hX hY hD he
  have h0:=h
  unfold flatK at h
  cases hu:P.underlying t with
  | none=>rw[hu] at h;cases h
  | some dd =>
   rw[hu] at h
   cases dd<;>try (cases h;done)
   case bool=>injection h with h;subst h;exact eqFlat_cell (c:=.b) hX hY (by omega) hu he
   case int kk=>injection h with h;subst h;exact eqFlat_cell (c:=.i) hX hY (by omega) ⟨kk,hu⟩ he
   case string=>injection h with h;subst h;exact eqFlat_cell (c:=.s) hX hY (by omega) hu he
   case struct fs =>
    obtain⟨_,_,sz,hsz,hlen⟩:=struct_inv h0 hu
    have hg:aggT P t=some true:=by unfold aggT;rw[hu];rfl
    refine⟨.agg (cs.extract o (o+sz)),.agg (ds.extract o (o+sz)),by simp[part,run_isAgg' hg,run_sizeOf' hsz],by simp[part,run_isAgg' hg,run_sizeOf' hsz],?_⟩
    obtain⟨D,rfl⟩:∃ m,D=m+1:=⟨D-1,by omega⟩
    rw[← eqFlat_take k _ _ sz (by omega)] at he
    exact struct_run (flatK_run d) h0 hu (by omega) (hX.extract o sz) (hY.extract o sz) he
theorem nilCmp_inv {op:BinOp} {b:Bool} {z:AV} (h:nilCmp op b=some z):(op=.eql∧z=.bool b)∨(op=.neq∧z=.bool !b):=by
 cases op<;>simp[nilCmp] at h
 ·exact .inl ⟨rfl,h.symm⟩
 ·exact .inr ⟨rfl,h.symm⟩
theorem equal_run {op:BinOp} {t:TypeId} {u v:Value} {b:Bool} {z:AV} (h:nilCmp op b=some z) (hr:(Op.equal t u v).run P w=.ok b w)
  (h1:∀ q,(binOp .eql t u v)=q→q=(do pure (.bool (← Op.equal t u v)))) (h2:(binOp .neq t u v)=(do pure (.bool (!(← Op.equal t u v))))) :
  ∃ r,(binOp op t u v).run P w=.ok r w∧PR gh.S w r z:=by
 rcases nilCmp_inv h with ⟨rfl,rfl⟩|⟨rfl,rfl⟩
 ·exact⟨.bool b,by rw[h1 _ rfl];simp[hr],.bool _⟩
 ·exact⟨.bool !b,by rw[h2];simp[hr],.bool _⟩
theorem ev_bin (hW:WRel G base s.H gh w) (hF:FR L nt gh w a s) {o:Oper} {op:BinOp} {t u:TypeId} {x y:Operand} {ix iy:IArg} {z:AV}
  (ho:o.op=.binOp op t x y u) (hx:compArg nt x=some ix) (hy:compArg nt y=some iy)
  (he:binAV op (eqKind P t) (isCon ix || isCon iy) (ix.eval G s.T) (iy.eval G s.T)=some z) :
  ∃ v,(execOp a.eval o).run P w=.ok (.value v) w∧Val gh s.H.length nt w s.T s.gen (tmv a) v z:=by
 generalize hX:ix.eval G s.T=X at he
 generalize hY:iy.eval G s.T=Y at he
 have fin:∀ {U V:Value},a.eval x=U→a.eval y=V→(eqGuard op t x y U V).run P w=.ok () w→(∃ r,(binOp op t U V).run P w=.ok r w∧PR gh.S w r z) →
   ∃ v,(execOp a.eval o).run P w=.ok (.value v) w∧Val gh s.H.length nt w s.T s.gen (tmv a) v z:=by
  rintro U V hU hV hg ⟨r,hr,hp⟩
  exact⟨r,by simp[execOp,ho,hU,hV,hg,hr],.of_VR (.plain _ _ hp)⟩
 have con_op:(isCon ix || isCon iy)=true→(∃ v,x=.const v)∨(∃ v,y=.const v):=by
  intro h
  rcases Bool.or_eq_true_iff.1 h with h|h
  ·left
   cases x<;>simp only[compArg] at hx
   ·have:=(cond_some hx).2;injection this with this;subst this;cases h
   ·exact⟨_,rfl⟩
   ·injection hx with hx;subst hx;cases h
   ·injection hx with hx;subst hx;cases h
  ·right
   cases y<;>simp only[compArg] at hy
   ·have:=(cond_some hy).2;injection this with this;subst this;cases h
   ·exact⟨_,rfl⟩
   ·injection hy with hy;subst hy;cases h
   ·injection hy with hy;subst hy;cases h
 unfold binAV at he
 split at he
 ·
  obtain⟨h0,he'⟩:=cond_some he
  have hk:=of_decide_eq_true h0
  have h1:=(arg_VR hW hF hx hX rfl).inv_int
  have h2:=(arg_VR hW hF hy hY rfl).inv_int
  rw[← hk] at h2
  exact fin h1 h2 (run_eqGuard_other (by intro c;simp) (.inl (by simp))) (binInt_run he' t)
 ·
  obtain⟨p,h1,hp⟩:=(arg_VR hW hF hx hX rfl).inv_str
  obtain⟨q,h2,hq⟩:=(arg_VR hW hF hy hY rfl).inv_str
  subst hp hq
  exact fin h1 h2 (run_eqGuard_other (by intro c;simp) (.inl (by simp))) (binStr_run he t)
 ·
  rename_i p q
  have h1:=(arg_VR hW hF hx hX rfl).inv_bool
  have h2:=(arg_VR hW hF hy hY rfl).inv_bool
  generalize hQ:eqKind P t=Q at he
  cases Q<;>simp only[reduceCtorEq] at he
  have ht:P.underlying t=some .bool:=by
   unfold eqKind at hQ
   split at hQ<;>first|assumption|(cases hQ)|skip
   cases hb:(!P.eqGuardType P.depth t)<;>rw[hb] at hQ<;>simp at hQ
   split at hQ<;>cases hQ
  exact fin h1 h2 (run_eqGuard_other (by intro c;simp) (.inl (by simp))) (equal_run he (run_equal_bool w t p q ht) (by rintro _ rfl;rfl) rfl)
 ·
  rename_i xs ys
  obtain⟨cs,h1,hs1,_,hr1⟩:=(arg_VR hW hF hx hX rfl).inv_agg
  obtain⟨ds,h2,hs2,_,hr2⟩:=(arg_VR hW hF hy hY rfl).inv_agg
  generalize hQ:eqKind P t=Q at he
  cases Q<;>simp only[reduceCtorEq,Option.bind_eq_some_iff] at he
  rename_i ks
  obtain⟨b,hb,he⟩:=he
  obtain⟨hg,hk⟩:P.eqGuardType P.depth t=false∧flatK P 8 t=some ks:=by
   unfold eqKind at hQ
   split at hQ<;>first|(cases hQ;done)|skip
   cases hb:(P.eqGuardType P.depth t)<;>rw[hb] at hQ<;>simp at hQ
   split at hQ<;>first|(cases hQ;done)|skip
   injection hQ with hQ
   subst hQ
   exact⟨rfl,by assumption⟩
  obtain⟨fs,hu⟩:∃ fs,P.underlying t=some (.struct fs):=by
   unfold eqKind at hQ
   cases hu:P.underlying t with
   | none=>rw[hu] at hQ;cases hQ
   | some d =>
    rw[hu] at hQ
    cases d<;>simp only[reduceCtorEq] at hQ
    exact⟨_,rfl⟩
  have hrun:(Op.equal t (.agg cs) (.agg ds)).run P w=.ok b w :=
   struct_run (flatK_run 7) hk hu (D:=9999) (by omega) (n:=s.H.length) ⟨hs1,hr1⟩ ⟨hs2,hr2⟩ hb
  exact fin h1 h2 (run_eqGuard_agg w op t x y cs ds hg) (equal_run he hrun (by rintro _ rfl;rfl) rfl)
 ·
  obtain⟨h0,he⟩:=cond_some he
  obtain⟨hcon,hq⟩:=Bool.and_eq_true_iff.1 h0
  simp only[Option.bind_eq_some_iff] at he
  obtain⟨b,hb,he⟩:=he
  have ht:∃ m,P.underlying t=some (.interface m):=by
   generalize hQ:eqKind P t=Q at hq
   cases Q<;>simp only[reduceCtorEq] at hq
   unfold eqKind at hQ
   split at hQ<;>first|exact⟨_,by assumption⟩|(cases hQ;done)|skip
   cases hb:(!P.eqGuardType P.depth t)<;>rw[hb] at hQ<;>simp at hQ
   split at hQ<;>cases hQ
  obtain⟨m,ht⟩:=ht
  have h2:=(arg_VR hW hF hy hY rfl).inv_niliface
  split at hb
  ·injection hb with hb
   subst hb
   have h1:=(arg_VR hW hF hx hX rfl).inv_niliface
   have hr:(Op.equal t .nilIface .nilIface).run P w=.ok true w:=(fun d=>(by simp[Op.equalIn,run_underlying ht]:(Op.equalIn (d+1) t .nilIface .nilIface).run P w=.ok true w)) 9999
   refine fin h1 h2 ?_ (equal_run he hr (by rintro _ rfl;rfl) rfl)
   rcases con_op hcon with ⟨v,rfl⟩|⟨v,rfl⟩
   ·cases op<;>simp[eqGuard]
   ·cases op<;>simp[eqGuard]
  ·injection hb with hb
   subst hb
   obtain⟨q,h1⟩:=(arg_VR hW hF hx hX rfl).inv_iface
   have hr:∀ ti,(Op.equal t (.iface ti q) .nilIface).run P w=.ok false w:=fun ti=>(fun d=>(by simp[Op.equalIn,run_underlying ht]:(Op.equalIn (d+1) t (.iface ti q) .nilIface).run P w=.ok false w)) 9999
   exact fin h1 h2 (run_eqGuard_other (by intro c;simp) (.inl (by simp))) (equal_run he (hr _) (by rintro _ rfl;rfl) rfl)
  ·cases hb
 ·
  obtain⟨h0,he⟩:=cond_some he
  simp only[Option.bind_eq_some_iff] at he
  obtain⟨b,hb,he⟩:=he
  have ht:∃ p q r,P.underlying t=some (.func p q r):=by
   generalize hQ:eqKind P t=Q at h0
   cases Q<;>simp only[reduceCtorEq] at h0
   unfold eqKind at hQ
   split at hQ<;>first|exact⟨_,_,_,by assumption⟩|(cases hQ;done)|skip
   cases hb:(!P.eqGuardType P.depth t)<;>rw[hb] at hQ<;>simp at hQ
   split at hQ<;>cases hQ
  obtain⟨p,q,r,ht⟩:=ht
  have h2:=(arg_VR hW hF hy hY rfl).inv_nilfunc
  split at hb
  ·injection hb with hb
   subst hb
   have h1:=(arg_VR hW hF hx hX rfl).inv_nilfunc
   have hr:(Op.equal t .nilFunc .nilFunc).run P w=.ok true w:=(fun d=>(by simp[Op.equalIn,run_underlying ht]:(Op.equalIn (d+1) t .nilFunc .nilFunc).run P w=.ok true w)) 9999
   exact fin h1 h2 (run_eqGuard_other (by intro c;simp) (.inl (by simp))) (equal_run he hr (by rintro _ rfl;rfl) rfl)
  ·injection hb with hb
   subst hb
   obtain⟨fs,cs,h1,_⟩:=(arg_VR hW hF hx hX rfl).inv_func
   have hr:∀ f,(Op.equal t (.func f fs cs) .nilFunc).run P w=.ok false w:=fun f=>(fun d=>(by simp[Op.equalIn,run_underlying ht]:(Op.equalIn (d+1) t (.func f fs cs) .nilFunc).run P w=.ok false w)) 9999
   exact fin h1 h2 (run_eqGuard_other (by intro c;simp) (.inl (by simp))) (equal_run he (hr _) (by rintro _ rfl;rfl) rfl)
  ·cases hb
 ·cases he
end
end Go.Abs
end
section
namespace Go.Abs
set_option linter.unusedSimpArgs false
set_option linter.unusedVariables false
section
variable {P:Program} {G:Nat→List AV} {base nt:Nat} {L:List Nat} {gh:Gh} {w:World} {a:Act} {s:AS}
def RowC (gh:Gh) (n:Nat) (w:World) (C:Array Value) (X:List AV):Prop :=
 C.size=X.length∧∀ (j:Nat) (v:Value) (x:AV),C[j]?=some v→X[j]?=some x→VR gh n w v x∧v.oneCell'=true
theorem VR.oneCell {n:Nat} {v:Value} {x:AV} (h:VR gh n w v x) (hx:∀ cs,x≠.agg cs) (hx' : ∀ cs,x≠.tuple cs):v.oneCell'=true:=by
 cases h with
 | plain _ _ h=>exact h.oneCell
 | full=>rfl
 | ref=>rfl
 | sref=>rfl
 | mref=>rfl
 | func=>rfl
 | iface=>rfl
 | agg _ xs=>exact absurd rfl (hx xs)
 | tuple _ xs=>exact absurd rfl (hx' xs)
theorem cells_rel {n:Nat} {v:Value} {x:AV} {cs:List AV} (h:VR gh n w v x) (hc:x.cells=some cs):RowC gh n w v.cells cs:=by
 have single:x.cells=some [x]→(∀ cs,x≠.agg cs)→(∀ cs,x≠.tuple cs)→RowC gh n w v.cells cs:=by
  intro h1 h2 h3
  rw[h1] at hc
  injection hc with hc
  subst hc
  have hone:=h.oneCell h2 h3
  have:v.cells=#[v]:=by cases v<;>first|rfl|(simp[Value.oneCell'] at hone)
  rw[this]
  refine⟨rfl,fun j u y hu hy=>?_⟩
  cases j with
  | zero=>simp at hu hy;subst hu hy;exact⟨h,hone⟩
  | succ j=>simp at hu
 cases x
 case agg xs =>
  obtain⟨C,rfl,hs,hone,h⟩:=h.inv_agg
  injection hc with hc
  subst hc
  exact⟨hs,fun j v x hv hx=>⟨h j v x hv hx,hone j v hv⟩⟩
 case any=>cases hc
 case tuple=>cases hc
 case lbox=>cases hc
 case lref=>cases hc
 case lsl=>cases hc
 case lsr=>cases hc
 case eref=>cases hc
 case iter=>cases hc
 all_goals exact single rfl (by intro cs h;cases h) (by intro cs h;cases h)
theorem RowC.dropped {n:Nat} {C:Array Value} {X:List AV} (h:RowC gh n w C X):RowC gh n w C (X.map AV.drop):=by
 refine⟨by simp[h.1],fun j v x hv hx=>?_⟩
 simp only[List.getElem?_map,Option.map_eq_some_iff] at hx
 obtain⟨y,hy,rfl⟩:=hx
 exact⟨VR.dropped (h.2 j v y hv hy).1,(h.2 j v y hv hy).2⟩
theorem foldl_set_get:∀ (l:List Value) (off k:Nat) (C:Array Value) (j:Nat),off+k+l.length≤C.size →
  ((l.zipIdx k).foldl (fun cs (c,i)=>cs.setIfInBounds (off+i) c) C)[j]?=if off+k≤j∧j<off+k+l.length then l[j-(off+k)]? else C[j]?
 | [],off,k,C,j,h=>by simp;omega
 | v :: l,off,k,C,j,h=>by
  have h' : off+(k+1)+l.length≤(C.setIfInBounds (off+k) v).size:=by simp at h ⊢;omega
  rw[List.zipIdx_cons,List.foldl_cons,foldl_set_get l off (k+1) _ j h']
  by_cases h1:j=off+k
  ·subst h1
   have hlt:off+k<C.size:=by simp at h;omega
   rw[if_neg (by omega),if_pos (by simp)]
   simp[hlt]
  ·by_cases h2:off+(k+1)≤j∧j<off+(k+1)+l.length
   ·rw[if_pos h2,if_pos (by simp;omega)]
    have:j-(off+k)=j-(off+(k+1))+1:=by omega
    rw[this,List.getElem?_cons_succ]
   ·rw[if_neg h2,if_neg (by simp;omega),Array.getElem?_setIfInBounds_ne (by omega)]
theorem foldl_set_size:∀ (l:List (Value × Nat)) (off:Nat) (C:Array Value),(l.foldl (fun cs (c,i)=>cs.setIfInBounds (off+i) c) C).size=C.size
 | [],off,C=>rfl
 | v :: l,off,C=>by rw[List.foldl_cons,foldl_set_size l off];simp
theorem putAt_get {l cs:List AV} {off:Nat} (h:off+cs.length≤l.length) (j:Nat):(putAt l off cs)[j]?=if off≤j∧j<off+cs.length then cs[j-off]? else l[j]?:=by
 have hmin:min off l.length=off:=by omega
 unfold putAt
 simp only[List.getElem?_append,List.length_append,List.length_take,hmin,List.getElem?_take,List.getElem?_drop]
 by_cases h1:j<off
 ·have e1:j<off+cs.length:=by omega
  rw[if_pos e1,if_pos h1,if_pos h1,if_neg (by omega)]
 ·by_cases h2:j<off+cs.length
  ·rw[if_pos h2,if_neg h1,if_pos ⟨by omega,h2⟩]
  ·rw[if_neg h2,if_neg (by omega)]
   congr 1;omega
theorem putAt_len {l cs:List AV} {off:Nat} (h:off+cs.length≤l.length):(putAt l off cs).length=l.length:=by
 unfold putAt;simp;omega
theorem RowC.put {n:Nat} {C D:Array Value} {X Y:List AV} (h:RowC gh n w C X) (hd:RowC gh n w D Y) {off:Nat} (hl:off+Y.length≤X.length) :
  RowC gh n w (D.zipIdx.foldl (fun cs (c,i)=>cs.setIfInBounds (off+i) c) C) (putAt X off Y):=by
 have e:D.zipIdx.foldl (fun cs (c,i)=>cs.setIfInBounds (off+i) c) C=(D.toList.zipIdx 0).foldl (fun cs (c,i)=>cs.setIfInBounds (off+i) c) C:=by
  rw[← Array.foldl_toList,Array.toList_zipIdx]
 rw[e]
 refine⟨by rw[foldl_set_size,putAt_len hl,h.1],fun j v x hv hx=>?_⟩
 have hD:D.toList.length=Y.length:=by simpa using hd.1
 rw[foldl_set_get _ _ _ _ _ (by rw[hD,h.1];omega)] at hv
 rw[putAt_get hl] at hx
 simp only[Nat.add_zero,hD] at hv
 by_cases hc:off≤j∧j<off+Y.length
 ·rw[if_pos hc] at hv hx
  exact hd.2 _ v x (by simpa using hv) hx
 ·rw[if_neg hc] at hv hx
  exact h.2 j v x hv hx
theorem fill_rel {n:Nat} {place:Nat→Option (Nat × Nat)} : ∀ (parts:List (Nat × Value)) (ip:List (Nat × Nat × AV)) (C:Array Value) (Z Z' : List AV),RowC gh n w C Z→buildParts Z ip=some Z'→parts.length=ip.length →
  (∀ (j:Nat) (p:Nat × Value) (q:Nat × Nat × AV),parts[j]?=some p→ip[j]?=some q→place p.1=some (q.1,q.2.1)∧(∀ cs,q.2.2.cells=some cs→RowC gh n w p.2.cells cs)) →
  ∃ C',Instr.fill place C parts=some C'∧RowC gh n w C' Z'
 | [],[],C,Z,Z',h,hb,_,_=>by simp[buildParts] at hb;subst hb;exact⟨C,rfl,h⟩
 | p :: parts,q :: ip,C,Z,Z',h,hb,hl,hp=>by
  obtain⟨h1,h2⟩:=hp 0 p q rfl rfl
  obtain⟨i,v⟩:=p
  obtain⟨off,sz,x⟩:=q
  simp only[buildParts] at hb
  split at hb
  ·cases hb
  ·rename_i cs hcs
   obtain⟨h3,hb'⟩:=cond_some hb
   simp only[Bool.and_eq_true,nbeq,decide_eq_true_eq,Nat.ble_eq] at h3
   have hr:=h2 cs hcs
   have hsz:v.cells.size=sz:=by rw[hr.1];exact h3.1
   have hlen:(cs.map AV.drop).length=cs.length:=by simp
   obtain⟨C',hf,hrow⟩:=fill_rel parts ip _ _ Z' (h.put hr.dropped (off:=off) (by rw[hlen];exact h3.2)) hb' (by simpa using hl) (fun j p q hp' hq'=>hp (j+1) p q (by simpa using hp') (by simpa using hq'))
   refine⟨C',?_,hrow⟩
   simp only at h1
   unfold Instr.fill
   rw[h1]
   have hno:¬ (decide (v.cells.size≠sz) || decide (off+v.cells.size>C.size))=true:=by
    have:=hr.1;have:=h.1
    simp;omega
   simp only
   rw[if_neg hno]
   exact hf
 | [],_ :: _,_,_,_,_,_,hl,_=>by simp at hl
 | _ :: _,[],_,_,_,_,_,hl,_=>by simp at hl
theorem zero_row {n:Nat} {t:TypeId} {z:List AV} (h:zeroT P t=some z):∃ i zv,P.info? t=some i∧i.zero=some zv∧RowC gh n w zv.cells z:=by
 simp only[zeroT,Option.bind_eq_some_iff] at h
 obtain⟨zv,⟨i,hi,hz⟩,hc⟩:=h
 obtain⟨h1,h2⟩:=constCells_VR (gh:=gh) (n:=n) (w:=w) hc
 exact⟨i,zv,hi,hz,by simpa using h1,fun j v x hv hx=>h2 j v x (by simpa using hv) hx⟩
theorem const_nil {n:Nat} {v:Value} {x:AV} (h:constAV v=some x):VR gh n w v (nilOf x):=by
 have hv:VR gh n w v x:=const_VR h
 unfold nilOf
 split
 ·unfold constAV at h
  split at h<;>first|(cases h;done)|(injection h with h;cases h;done)|exact .plain _ _ .nilsl
 ·exact hv
theorem constArg_nil {n:Nat} {v:Value} {x:AV} (h:constArg v=some x):VR gh n w v (nilOf x):=by
 have h0:=constArg_VR (gh:=gh) (n:=n) (w:=w) h
 unfold constArg at h
 split at h
 ·simp only[Option.map_eq_some_iff] at h
  obtain⟨l,_,rfl⟩:=h
  exact h0
 ·exact const_nil h
theorem constCells_nth:∀ {vs:List Value} {xs:List AV},constCells vs=some xs→∀ (j:Nat) (v:Value) (x:AV),vs[j]?=some v→xs[j]?=some x→constAV v=some x
 | [],xs,h,j,v,x,hv,hx=>by simp at hv
 | u :: vs,xs,h,j,v,x,hv,hx=>by
  simp only[constCells,Option.bind_eq_some_iff,Option.map_eq_some_iff] at h
  obtain⟨y,hy,ys,hys,rfl⟩:=h
  cases j with
  | zero=>simp at hv hx;subst hv hx;exact hy
  | succ j=>exact constCells_nth hys j v x (by simpa using hv) (by simpa using hx)
theorem zero_rowN {n:Nat} {t:TypeId} {b:Bool} {z:List AV} (h:(zeroT P t).map (fun z=>cond b (z.map nilOf) z)=some z):∃ i zv,P.info? t=some i∧i.zero=some zv∧RowC gh n w zv.cells z:=by
 simp only[Option.map_eq_some_iff] at h
 obtain⟨z0,h0,rfl⟩:=h
 obtain⟨i,zv,h1,h2,h3⟩:=zero_row (gh:=gh) (n:=n) (w:=w) h0
 refine⟨i,zv,h1,h2,?_⟩
 cases b with
 | false=>exact h3
 | true =>
  refine⟨by simpa using h3.1,fun j v x hv hx=>?_⟩
  simp only[cond_true,List.getElem?_map,Option.map_eq_some_iff] at hx
  obtain⟨y,hy,rfl⟩:=hx
  simp only[zeroT,Option.bind_eq_some_iff] at h0
  obtain⟨zv',⟨i',hi',hz'⟩,hc⟩:=h0
  rw[h1] at hi'
  injection hi' with hi'
  subst hi'
  rw[h2] at hz'
  injection hz' with hz'
  subst hz'
  exact⟨const_nil (constCells_nth hc j v y (by simpa using hv) hy),(h3.2 j v y hv hy).2⟩
theorem part_rel (hW:WRel G base s.H gh w) (hF:FR L nt gh w a s) {x:Operand} {y:IArg} (hc:compArg nt x=some y):∀ cs,(y.eval G s.T).drop.cells=some cs→RowC gh s.H.length w (a.eval x).cells cs:=by
 intro cs hcs
 have hf:frameCell (y.eval G s.T)=true:=by
  rw[← frameCell_drop]
  generalize (y.eval G s.T).drop=Y at hcs
  cases Y<;>first|rfl|cases hcs
 exact cells_rel (arg_VR hW hF hc rfl hf) hcs
theorem ev_build_struct (hW:WRel G base s.H gh w) (hF:FR L nt gh w a s) {o:Oper} {t:TypeId} {parts:Array (Nat × Operand)} {fs:Array Go.Field} {z Z:List AV} {ps:List (Nat × Nat × IArg)}
  (ho:o.op=.build t parts) {kp:Bool} (hz:(zeroT P t).map (fun z=>cond kp (z.map nilOf) z)=some z) (hu:P.underlying t=some (.struct fs)) (hp:compParts P nt fs.toList parts.toList=some ps)
  (hall:∃ pl,fs.toList.mapM (fun f=>(P.info? f.type).map fun i=>(f.offset,i.size))=some pl)
  (he:buildParts z (ps.map fun p=>(p.1,p.2.1,(p.2.2.eval G s.T).drop))=some Z) :
  ∃ v,(execOp a.eval o).run P w=.ok (.value v) w∧Val gh s.H.length nt w s.T s.gen (tmv a) v (.agg Z):=by
 obtain⟨i,zv,hi,hzv,hrow⟩:=zero_rowN (gh:=gh) (n:=s.H.length) (w:=w) hz
 obtain⟨pl,hpl⟩:=hall
 have inv:∀ (l:List (Nat × Operand)) (ps:List (Nat × Nat × IArg)),compParts P nt fs.toList l=some ps→l.length=ps.length ∧
   ∀ (j:Nat) (p:Nat × Operand) (q:Nat × Nat × IArg),l[j]?=some p→ps[j]?=some q→(∃ f,fs.toList[p.1]?=some f∧sizeT P f.type=some q.2.1∧f.offset=q.1)∧compArg nt p.2=some q.2.2:=by
  intro l
  induction l with
  | nil=>intro ps h;simp[compParts] at h;subst h;exact⟨rfl,fun j p q h=>by simp at h⟩
  | cons p l ih =>
   intro ps h
   obtain⟨k,x⟩:=p
   simp only[compParts,Option.bind_eq_some_iff,Option.map_eq_some_iff] at h
   obtain⟨f,hf,sz,hsz,y,hy,rest,hr,rfl⟩:=h
   obtain⟨h1,h2⟩:=ih rest hr
   refine⟨by simp[h1],fun j p q hp hq=>?_⟩
   cases j with
   | zero=>simp at hp hq;subst hp hq;exact⟨⟨f,hf,hsz,rfl⟩,hy⟩
   | succ j=>exact h2 j p q (by simpa using hp) (by simpa using hq)
 obtain⟨hl,hinv⟩:=inv _ _ hp
 have hplace:∀ (k:Nat) (f:Go.Field) (sz:Nat),fs.toList[k]?=some f→sizeT P f.type=some sz→pl.toArray[k]?=some (f.offset,sz):=by
  have gen:∀ (l:List Go.Field) (pl:List (Nat × Nat)),l.mapM (fun f=>(P.info? f.type).map fun i=>(f.offset,i.size))=some pl→∀ (k:Nat) (f:Go.Field) (sz:Nat),l[k]?=some f→sizeT P f.type=some sz→pl[k]?=some (f.offset,sz):=by
   intro l
   induction l with
   | nil=>intro pl _ k f sz h;simp at h
   | cons g l ih =>
    intro pl h k f sz hk hs
    simp only[List.mapM_cons,Option.bind_eq_bind,Option.pure_def,Option.bind_eq_some_iff,Option.map_eq_some_iff] at h
    obtain⟨q,⟨ii,hii,rfl⟩,rest,hr,h⟩:=h
    injection h with h
    subst h
    cases k with
    | zero =>
     simp at hk;subst hk
     obtain⟨i',hi',hs'⟩:=info_of_size hs
     rw[hi'] at hii;injection hii with hii;subst hii;simp[hs']
    | succ k=>simpa using ih rest hr k f sz (by simpa using hk) hs
  intro k f sz hk hs
  simpa using gen _ _ hpl k f sz hk hs
 obtain⟨C',hf,hrow'⟩:=fill_rel (gh:=gh) (w:=w) (n:=s.H.length) (place:=fun x=>pl.toArray[x]?) ((parts.map fun p=>(p.1,a.eval p.2)).toList) (ps.map fun p=>(p.1,p.2.1,(p.2.2.eval G s.T).drop)) zv.cells z Z hrow he (by simpa using hl) (by
  intro j p q hp hq
  simp only[Array.toList_map,List.getElem?_map,Option.map_eq_some_iff] at hp hq
  obtain⟨p0,hp0,rfl⟩:=hp
  obtain⟨q0,hq0,rfl⟩:=hq
  obtain⟨⟨f,hf,hs,ho'⟩,hc⟩:=hinv j p0 q0 hp0 hq0
  exact⟨by rw[hplace _ f _ hf hs,ho'],part_rel hW hF hc⟩)
 have hb:P.built t (parts.map fun p=>(p.1,a.eval p.2)).toList=some C':=by
  unfold Program.built
  rw[hi,hu]
  simp only[hzv,hpl]
  exact hf
 refine⟨.agg C',by simp[execOp,ho,run_build w t _ C' hb],.of_VR (.agg _ _ hrow'.1 (fun j v hj=>?_) (fun j v x hv hx=>(hrow'.2 j v x hv hx).1))⟩
 have hlt:j<Z.length:=by rw[← hrow'.1];exact (Array.getElem?_eq_some_iff.1 hj).1
 exact (hrow'.2 j v _ hj (List.getElem?_eq_getElem hlt)).2
end
end Go.Abs
end
section
namespace Go.Abs
set_option linter.unusedSimpArgs false
set_option linter.unusedVariables false
section
variable {G:Nat→List AV} {base nt:Nat} {L:List Nat} {gh:Gh} {w w' : World} {a:Act} {s:AS} {H:AHeap}
def Gh.alloc (gh:Gh) (b:Nat) (p:Owner) (q:Nat→Prop):Gh:={ S:=fun b' o=>gh.S b' o∨(b'=b∧q o),κ:=fun b'=>if b'=b then p else gh.κ b',ρ:=gh.ρ }
structure Pushed (w w' : World) (o:Obj):Prop where
 heap:w'.heap=w.heap.push o
 os:w'.os=w.os
 tape:w'.tape=w.tape
 output:w'.output=w.output
theorem Pushed.alloc (w:World) (o:Obj):Pushed w (w.alloc o) o:=⟨rfl,rfl,rfl,rfl⟩
theorem Pushed.drew (w:World) (o:Obj):Pushed w (w.drew.alloc o) o:=⟨rfl,rfl,rfl,rfl⟩
theorem Pushed.old {o:Obj} (h:Pushed w w' o) (b:Nat) (hb:b<w.heap.size):w'.heap[b]?=w.heap[b]?:=by
 rw[h.heap,Array.getElem?_push,if_neg (by omega)]
theorem Pushed.new {o:Obj} (h:Pushed w w' o):w'.heap[w.heap.size]?=some o:=by
 rw[h.heap,Array.getElem?_push,if_pos rfl]
theorem Pushed.size {o:Obj} (h:Pushed w w' o):w'.heap.size=w.heap.size+1:=by rw[h.heap];simp
theorem cell_of_heap {b o:Nat} (h:w'.heap[b]?=w.heap[b]?):w'.cell? ⟨b,o,none⟩=w.cell? ⟨b,o,none⟩:=by simp[World.cell?,h]
theorem WRel.not_outer (hW:WRel G base H gh w) (b:Nat) (hb:w.heap.size≤b):gh.κ b≠.outer:=by rw[hW.fresh b hb];simp
theorem alloc_step (hW:WRel G base H gh w) {o:Obj} (hp:Pushed w w' o) {p:Owner} (hne:p≠.outer) (q:Nat→Prop) (n:Nat):Step (fun _=>False) n gh w (gh.alloc w.heap.size p q) w':=by
 refine⟨fun b o h=>.inl h,fun b o h=>cell_of_heap (hp.old b (hW.sLt b o h)),by rw[hp.size];omega,hp.os,hp.tape,hp.output,?_,?_,fun _ _=>rfl,fun b ty m hb=>by
  obtain⟨C,fr,h1,h2⟩:=hb
  exact⟨C,fr,by rw[hp.old b (Array.getElem?_eq_some_iff.1 h1).1];exact h1,h2⟩,fun b E ck hs hb=>by rw[hp.old b (hW.sLt b 0 hs)];exact hb⟩
 ·intro b hb _
  have hne' : b≠w.heap.size:=by omega
  refine⟨.inl (hp.old b hb),by simp[Gh.alloc,hne'],fun o ho=>?_⟩
  rcases ho with ho|⟨e,_⟩
  ·exact ho
  ·exact absurd e hne'
 ·intro b hb
  show (if b=w.heap.size then p else gh.κ b)≠.outer
  split
  ·exact hne
  ·exact hW.not_outer b hb
theorem alloc_ext (hW:WRel G base H gh w) {o:Obj} (hp:Pushed w w' o) {p:Owner} (hne:p≠.outer) (q:Nat→Prop) (n:Nat):Ext n gh w (gh.alloc w.heap.size p q) w':=by
 refine⟨(alloc_step hW hp hne q n).mono (fun _ h=>h.elim),fun b hb=>?_⟩
 have hb' : (if b=w.heap.size then p else gh.κ b)=.outer:=hb
 split at hb'
 ·exact absurd hb' hne
 ·exact hb'
theorem WRel.step {touch:Owner→Prop} {gh' : Gh} (hW:WRel G base H gh w) (st:Step touch H.length gh w gh' w') (ht:∀ l,¬ touch (.hb l)∧∀ j,¬ touch (.hs l j))
  (hs:∀ b o,gh'.S b o→b<w'.heap.size) (hk:∀ b,gh'.κ b≠.none→base≤b∧b<w'.heap.size)
  (hnew:∀ b o m,gh'.S b o→gh.S b o∨(w'.cell? ⟨b,o,none⟩=some (.int .u8 m)→∃ C fr,w'.heap[b]?=some (.cells C byteTy fr))):WRel G base H gh' w':=by
 refine⟨Nat.le_trans hW.size st.size,hs,hk,fun g j x hx=>?_,fun loc ty cs hl=>?_,hW.refs,fun g hg=>(hW.tabs g hg).imp fun ty h=>st.len g ty _ h,hW.bytes_step st hnew,fun loc o hl=>?_,fun loc ty cs hl=>?_⟩
 ·obtain⟨v,h1,h2,h3⟩:=hW.glob g j x hx
  exact⟨v,(st.cell g j h3).trans h1,h2.mono st.S st.cell st.mp,st.S g j h3⟩
 ·have hlt:loc<H.length:=(List.getElem?_eq_some_iff.1 hl).1
  have h:=(hW.boxes loc ty cs hl).mono st (Nat.le_refl _) (ht loc).1 (ht loc).2
  rw[st.ρ loc hlt];exact h
 ·rw[st.ρ loc (List.getElem?_eq_some_iff.1 hl).1]
  exact (hW.more loc o hl).mono st (Nat.le_refl _) (ht loc).1 (ht loc).2
 ·rw[st.ρ loc (List.getElem?_eq_some_iff.1 hl).1]
  exact fun hf=>st.len _ _ _ (hW.types loc ty cs hl hf)
theorem WRel.alloc (hW:WRel G base H gh w) {o:Obj} (hp:Pushed w w' o) {p:Owner} (hne:p≠.outer) (q:Nat→Prop)
  (hq:∀ k m,q k→w'.cell? ⟨w.heap.size,k,none⟩=some (.int .u8 m)→∃ C fr,w'.heap[w.heap.size]?=some (.cells C byteTy fr)):WRel G base H (gh.alloc w.heap.size p q) w':=by
 refine hW.step (alloc_step hW hp hne q H.length) (fun l=>⟨id,fun _=>id⟩) ?_ ?_ (fun b k m h=>h.elim .inl (fun ⟨e,hk⟩=>.inr (by subst e;exact hq k m hk)))
 ·intro b o ho
  rw[hp.size]
  rcases ho with ho|⟨rfl,_⟩
  ·have:=hW.sLt b o ho;omega
  ·omega
 ·intro b hb
  rw[hp.size]
  have hb' : (if b=w.heap.size then p else gh.κ b)≠.none:=hb
  split at hb'
  ·rename_i e
   have:=hW.size
   omega
  ·have:=hW.kLt b hb';omega
def Gh.give (gh:Gh) (b:Nat) (p:Owner):Gh:={ gh with κ:=fun b'=>if b'=b then p else gh.κ b' }
theorem give_step (hW:WRel G base H gh w) {b:Nat} (hb:b<w.heap.size) (p:Owner) (n:Nat):Step (fun r=>r=gh.κ b) n gh w (gh.give b p) w:=by
 refine⟨fun _ _ h=>h,fun _ _ _=>rfl,Nat.le_refl _,rfl,rfl,rfl,fun b' hb' hn=>⟨.inl rfl,?_,fun _ h=>h⟩,fun b' hb'=>?_,fun _ _=>rfl,fun _ _ _ h=>h,fun _ _ _ _ h=>h⟩
 ·have hne:b'≠b:=by rintro rfl;exact hn rfl
  simp[Gh.give,hne]
 ·have hne:b'≠b:=by omega
  simp only[Gh.give,if_neg hne]
  exact hW.not_outer b' hb'
theorem give_ext (hW:WRel G base H gh w) {b:Nat} (hb:b<w.heap.size) {p:Owner} (hp:p≠.outer) (h0:gh.κ b≠.none) (h1:gh.κ b≠.outer) (n:Nat):Ext n gh w (gh.give b p) w:=by
 refine⟨(give_step hW hb p n).mono (fun r h=>by rw[h];exact⟨h0,h1⟩),fun b' hb'=>?_⟩
 have hb2:(if b'=b then p else gh.κ b')=.outer:=hb'
 split at hb2
 ·exact absurd hb2 hp
 ·exact hb2
theorem give_W (hW:WRel G base H gh w) {b:Nat} (hb:b<w.heap.size) (p:Owner) (h0:gh.κ b≠.none) (ht:∀ l,gh.κ b≠.hb l∧∀ j,gh.κ b≠.hs l j):WRel G base H (gh.give b p) w:=by
 refine hW.step (give_step hW hb p H.length) (fun l=>⟨fun h=>(ht l).1 h.symm,fun j h=>(ht l).2 j h.symm⟩) hW.sLt ?_ (fun _ _ _ h=>.inl h)
 intro b' hb'
 have hb2:(if b'=b then p else gh.κ b')≠.none:=hb'
 split at hb2
 ·rename_i e;rw[e];exact hW.kLt b h0
 ·exact hW.kLt b' hb2
theorem row_step (hW:WRel G base H gh w) {b:Nat} {C C' : Array Value} {ty:TypeId} {fr:Nat × Nat} (hb:w.heap[b]?=some (.cells C ty fr)) (hsz:C'.size=C.size) (q:Nat→Prop)
  (hcell:∀ o,gh.S b o→C'[o]?=C[o]?) (p:Owner) (n:Nat) :
  Step (fun r=>r=gh.κ b) n gh w { gh with S:=fun b' o=>gh.S b' o∨(b'=b∧q o),κ:=fun b'=>if b'=b then p else gh.κ b' } (w.setRow b C'):=by
 have hlt:b<w.heap.size:=(Array.getElem?_eq_some_iff.1 hb).1
 refine⟨fun b o h=>.inl h,fun b' o h=>?_,by simp,rfl,rfl,rfl,fun b' hb' hn=>?_,fun b' hb'=>?_,fun _ _=>rfl,fun b' ty' m hm=>by
  obtain⟨D,fr',h1,h2⟩:=hm
  by_cases e:b'=b
  ·subst e
   rw[hb] at h1
   injection h1 with h1
   injection h1 with h1 h3 h4
   subst h1 h3
   exact⟨C',fr,setRow_heap w b' C C' ty fr hb,by rw[hsz,h2]⟩
  ·exact⟨D,fr',by rw[setRow_other w b b' C' e];exact h1,h2⟩,fun b' E ck hs hm=>by
  have e:b'≠b:=by rintro rfl;rw[hb] at hm;cases hm
  rw[setRow_other w b b' C' e];exact hm⟩
 ·by_cases e:b'=b
  ·subst e
   rw[cell_setRow_same w b' o C C' ty fr hb,hcell o h]
   simp[World.cell?,hb]
  ·exact cell_of_heap (setRow_other w b b' C' e)
 ·have hne:b'≠b:=by rintro rfl;exact hn rfl
  refine⟨.inl (setRow_other w b b' C' hne),by simp[hne],fun o ho=>?_⟩
  rcases ho with ho|⟨e,_⟩
  ·exact ho
  ·exact absurd e hne
 ·have hne:b'≠b:=by omega
  simp only[if_neg hne]
  exact hW.not_outer b' hb'
theorem row_ext (hW:WRel G base H gh w) {b:Nat} {C C' : Array Value} {ty:TypeId} {fr:Nat × Nat} (hb:w.heap[b]?=some (.cells C ty fr)) (hsz:C'.size=C.size) (q:Nat→Prop)
  (hcell:∀ o,gh.S b o→C'[o]?=C[o]?) {p:Owner} (hp:p≠.outer) (h0:gh.κ b≠.none) (h1:gh.κ b≠.outer) (n:Nat) :
  Ext n gh w { gh with S:=fun b' o=>gh.S b' o∨(b'=b∧q o),κ:=fun b'=>if b'=b then p else gh.κ b' } (w.setRow b C'):=by
 refine⟨(row_step hW hb hsz q hcell p n).mono (fun r h=>by rw[h];exact⟨h0,h1⟩),fun b' hb'=>?_⟩
 have hb2:(if b'=b then p else gh.κ b')=.outer:=hb'
 split at hb2
 ·exact absurd hb2 hp
 ·exact hb2
theorem row_W (hW:WRel G base H gh w) {b:Nat} {C C' : Array Value} {ty:TypeId} {fr:Nat × Nat} (hb:w.heap[b]?=some (.cells C ty fr)) (hsz:C'.size=C.size) (q:Nat→Prop)
  (hcell:∀ o,gh.S b o→C'[o]?=C[o]?) (hq:∀ k m,q k→C'[k]?=some (.int .u8 m)→ty=byteTy) (p:Owner) (h0:gh.κ b≠.none) (ht:∀ l,gh.κ b≠.hb l∧∀ j,gh.κ b≠.hs l j) :
  WRel G base H { gh with S:=fun b' o=>gh.S b' o∨(b'=b∧q o),κ:=fun b'=>if b'=b then p else gh.κ b' } (w.setRow b C'):=by
 have hlt:b<w.heap.size:=(Array.getElem?_eq_some_iff.1 hb).1
 refine hW.step (row_step hW hb hsz q hcell p H.length) (fun l=>⟨fun h=>(ht l).1 h.symm,fun j h=>(ht l).2 j h.symm⟩) ?_ ?_ (fun b' k m h=>h.elim .inl (fun ⟨e,hk⟩=>.inr (fun hc=>by
   subst e
   rw[cell_setRow_same w b' k C C' ty fr hb] at hc
   have:=hq k m hk hc
   subst this
   exact⟨C',fr,setRow_heap w b' C C' _ fr hb⟩)))
 ·intro b' o ho
  simp
  rcases ho with ho|⟨rfl,_⟩
  ·exact hW.sLt b' o ho
  ·exact hlt
 ·intro b' hb'
  simp
  have hb2:(if b'=b then p else gh.κ b')≠.none:=hb'
  split at hb2
  ·rename_i e;rw[e];exact hW.kLt b h0
  ·exact hW.kLt b' hb2
theorem FR.setT {gh' : Gh} {touch:Owner→Prop} (h:FR L nt gh w a s) (st:Step touch s.H.length gh w gh' w') {t:Nat} {X:AV} {H' : AHeap} {lo' : Nat} (hH:s.H.length≤H'.length)
  (ht:∀ i,i≠t→¬ touch (.bx i)∧¬ touch (.sl i)∧∀ j,¬ touch (.sc i j))
  (hX:(t<nt∧genOf X=genOf (s.T t))∨genOf X=none) (hsr:t<nt→SR gh' H'.length nt w' s.T s.gen (tmv a) t (tmv a t) X) :
  FR L nt gh' w' a (({ s with H:=H',lo:=lo' } : AS).setT t X):=by
 refine h.update st h.defers h.size hH (Nat.le_refl _) (fun i=>i=t) ?_ ?_ ?_
 ·intro i hi
  exact⟨by simp[AS.setT,put_T,hi],fun _=>⟨rfl,ht i hi⟩⟩
 ·rintro i rfl
  simp only[AS.setT,put_T,if_true]
  rcases hX with ⟨h1,h2⟩|h1
  ·exact .inl ⟨h1,h2,trivial⟩
  ·exact .inr (.inl h1)
 ·rintro i rfl hi
  simp only[AS.setT,put_T,if_true]
  refine SR.mono (touch:=fun _=>False) (n:=H'.length) (gh:=gh') (w:=w') (Step.refl _ _ _ _ (fun b hb=>st.fresh b (Nat.le_trans st.size hb))) (Nat.le_refl _) (Nat.le_refl _) id id (fun _=>id) ?_ (hsr hi)
  intro k hk
  by_cases hki:k=i
  ·subst hki
   rcases hX with ⟨h1,h2⟩|h1
   ·exact .inl (by rw[put_T,if_pos rfl];exact⟨h2,rfl⟩)
   ·exact .inr (.inl (by simp[put_T,h1]))
  ·exact .inl ⟨by simp[put_T,hki],rfl⟩
theorem FR.putG (h:FR L nt gh w a s) {gen' : Nat} (hg:s.gen≤gen') (hfresh:∀ b,w.heap.size≤b→gh.κ b≠.outer) (d:Option Nat) (hd:∀ k,d=some k→k<nt) {v:Value} {x:AV}
  (hx:genOf x=none∨((∃ g,s.gen≤g∧genOf x=some g)∧∀ k,d=some k→k∈L))
  (hv:∀ k,d=some k→SR gh s.H.length nt w s.T gen' (tmv a) k v x):FR L nt gh w (a.put d v) (({ s with gen:=gen' } : AS).putD d x):=by
 have st:Step (fun _=>False) s.H.length gh w gh w:=Step.refl _ _ _ _ hfresh
 cases d with
 | none=>exact h.update st h.defers h.size (Nat.le_refl _) hg (fun _=>False) (fun i _=>⟨rfl,fun _=>⟨rfl,id,id,fun _=>id⟩⟩) (fun _ h=>h.elim) (fun _ h=>h.elim)
 | some d =>
  have hlt:=hd d rfl
  have hsz:d<a.tmps.size:=by rw[h.size];exact hlt
  refine h.update (s':=({ s with gen:=gen' } : AS).putD (some d) x) st ((put_defers' a (some d) v).trans h.defers) ((put_size a (some d) v).trans h.size) (Nat.le_refl _) hg (fun i=>i=d) ?_ ?_ ?_
  ·intro i hi
   exact⟨by simp[AS.putD,AS.setT,put_T,hi],fun _=>⟨by rw[tmv_put a d v i hsz,if_neg hi],id,id,fun _=>id⟩⟩
  ·rintro i rfl
   simp only[AS.putD,AS.setT,put_T,if_true]
   rcases hx with hx|⟨⟨g,hg1,hg2⟩,hl⟩
   ·exact .inr (.inl hx)
   ·exact .inr (.inr ⟨hl i rfl,g,hg1,hg2⟩)
  ·rintro i rfl hi
   simp only[AS.putD,AS.setT,put_T,if_true]
   rw[tmv_put a i v i hsz,if_pos rfl]
   have hv':=hv i rfl
   cases x
   case lref b g off =>
    obtain⟨h1,h2,h3⟩:=hv'
    refine⟨h1,h2,fun hgs b' hb'=>?_⟩
    by_cases hbi:b=i
    ·subst hbi;simp[put_T,genOf] at hgs
    ·simp only[put_T,if_neg hbi] at hgs
     rw[tmv_put a i v b hsz,if_neg hbi] at hb'
     exact h3 hgs b' hb'
   case lsr b g =>
    obtain⟨h1,h2,h3⟩:=hv'
    refine⟨h1,h2,fun hgs=>?_⟩
    by_cases hbi:b=i
    ·subst hbi;simp[put_T,genOf] at hgs
    ·simp only[put_T,if_neg hbi] at hgs
     rw[tmv_put a i v b hsz,if_neg hbi]
     exact h3 hgs
   case eref b g r z off =>
    obtain⟨h1,h2,h3⟩:=hv'
    refine⟨h1,h2,fun hgs b' k cap hb'=>?_⟩
    by_cases hbi:b=i
    ·subst hbi;simp[put_T,genOf] at hgs
    ·simp only[put_T,if_neg hbi] at hgs
     rw[tmv_put a i v b hsz,if_neg hbi] at hb'
     exact h3 hgs b' k cap hb'
   all_goals exact hv'
end
end Go.Abs
end
section
namespace Go.Abs
set_option linter.unusedSimpArgs false
set_option linter.unusedVariables false
section
variable {P:Program} {G:Nat→List AV} {base nt:Nat} {L:List Nat} {gh:Gh} {w:World} {a:Act} {s:AS}
structure Out (G:Nat→List AV) (base nt:Nat) (L:List Nat) (gh:Gh) (w:World) (a:Act) (s:AS) (d:Option Nat) (x:AV) (s' : AS) (v' : Value) (gh' : Gh) (w' : World):Prop where
 W:WRel G base s'.H gh' w'
 F:FR L nt gh' w' (a.put d v') (s'.putD d x)
 E:Ext s.H.length gh w gh' w'
def Ran (P:Program) (a:Act) (o:Oper) (w:World) (v' : Value) (w' : World):Prop :=
 (execOp a.eval o).run P w=.ok (.value v') w'∨((execOp a.eval o).run P w=.ok .skip w'∧v'=undef)
theorem Ran.wp {o:Oper} {v' : Value} {w' : World} {K:Act→World→Prop} {Q:Exit→Act→World→Prop} (h:Ran P a o w v' w') (hK:K (a.put o.dst v') w'):o.wp P a w K Q:=by
 unfold Oper.wp
 rcases h with h|⟨h,rfl⟩
 ·rw[h];exact hK
 ·rw[h];exact hK
theorem Out.pure (hW:WRel G base s.H gh w) (hF:FR L nt gh w a s) {d:Option Nat} (hd:∀ k,d=some k→k<nt) {v:Value} {x:AV} (hv:Val gh s.H.length nt w s.T s.gen (tmv a) v x) :
  Out G base nt L gh w a s d x s v gh w:=by
 refine⟨hW,?_,Ext.refl _ _ _ (fun b hb=>hW.not_outer b hb)⟩
 have:=hF.put (touch:=fun _=>False) (H':=s.H) (lo':=s.lo) (Step.refl _ _ _ _ (fun b hb=>hW.not_outer b hb)) (fun i=>⟨id,id,fun _=>id⟩) (Nat.le_refl _) d hd hv
 exact this
theorem sr_of_CR {n:Nat} {T:AFrame} {gen:Nat} {tm:Nat→Value} {i:Nat} {v:Value} {e:List (List AV)} {own:Bool} (h:CR gh n w (.sl i) v (.slice e own)):SR gh n nt w T gen tm i v (.slice e own):=h
def RowsP (S:Nat→Nat→Prop) (w:World) (sz:Nat) (C:Array Value) (E:List (List AV)):Prop :=
 C.size=E.length*sz∧(∀ (i:Nat) (r:List AV),E[i]?=some r→r.length=sz) ∧
  ∀ (i j:Nat) (r:List AV) (x:AV),E[i]?=some r→r[j]?=some x→∃ v,C[i*sz+j]?=some v∧PR S w v x
theorem VR.plain_PR {n:Nat} {v:Value} {x:AV} (h:VR gh n w v x) (hp:x.plain=true):PR gh.S w v x:=by
 cases h with
 | plain _ _ h=>exact h
 | full=>simp[AV.plain] at hp
 | ref=>simp[AV.plain] at hp
 | sref=>simp[AV.plain] at hp
 | mref=>simp[AV.plain] at hp
 | func f fs cs xs ys hf hc h1 h2 =>
  cases xs<;>cases ys<;>simp[AV.plain] at hp
  have e1:fs=#[]:=Array.eq_empty_of_size_eq_zero hf
  have e2:cs=#[]:=Array.eq_empty_of_size_eq_zero hc
  subst e1 e2
  exact .func f
 | iface t v x h =>
  cases x<;>simp[AV.plain] at hp
  all_goals
   cases h with
   | plain _ _ h=>exact .iface _ _ _ h
 | agg=>simp[AV.plain] at hp
 | tuple=>simp[AV.plain] at hp
theorem elem_rel {n:Nat} {v:Value} {x:AV} {sz:Nat} {cs:List AV} (hx:∀ ds,x.cells=some ds→RowC gh n w v.cells ds) (he:x.elem sz=some cs) :
  v.cells.size=sz∧cs.length=sz∧∀ (j:Nat) (y:AV),cs[j]?=some y→∃ u,v.cells[j]?=some u∧PR gh.S w u y:=by
 unfold AV.elem at he
 split at he
 ·cases he
 ·rename_i ds hds
  obtain⟨h1,h2⟩:=cond_some he
  injection h2 with h2
  subst h2
  simp only[Bool.and_eq_true,nbeq,decide_eq_true_eq] at h1
  have hr:=(hx ds hds).dropped
  refine⟨by rw[hr.1];exact h1.1,h1.1,fun j y hy=>?_⟩
  have hj:j<v.cells.size:=by rw[hr.1];exact (List.getElem?_eq_some_iff.1 hy).1
  have hv:v.cells[j]?=some v.cells[j]:=Array.getElem?_eq_getElem hj
  exact⟨_,hv,((hr.2 j _ y hv hy).1).plain_PR (List.all_eq_true.1 h1.2 y (List.mem_of_getElem? hy))⟩
theorem mul_lt {i n sz j:Nat} (hi:i<n) (hj:j<sz):i*sz+j<n*sz:=by
 have:(i+1)*sz≤n*sz:=Nat.mul_le_mul_right _ hi
 rw[Nat.add_mul] at this
 omega
theorem RowsP.put {S:Nat→Nat→Prop} {sz:Nat} {C D:Array Value} {E:List (List AV)} {cs:List AV} {i:Nat} (h:RowsP S w sz C E) (hi:i<E.length) (hD:D.size=sz) (hcs:cs.length=sz)
  (hrel:∀ (j:Nat) (y:AV),cs[j]?=some y→∃ u,D[j]?=some u∧PR S w u y):RowsP S w sz (D.zipIdx.foldl (fun q (c,k)=>q.setIfInBounds (i*sz+k) c) C) (E.set i cs):=by
 have e:D.zipIdx.foldl (fun q (c,k)=>q.setIfInBounds (i*sz+k) c) C=(D.toList.zipIdx 0).foldl (fun q (c,k)=>q.setIfInBounds (i*sz+k) c) C:=by
  rw[← Array.foldl_toList,Array.toList_zipIdx]
 have hDl:D.toList.length=sz:=by simpa using hD
 have hle:i*sz+sz≤C.size:=by
  have:(i+1)*sz≤E.length*sz:=Nat.mul_le_mul_right _ hi
  rw[Nat.add_mul] at this
  rw[h.1];omega
 rw[e]
 refine⟨by rw[foldl_set_size,h.1];simp,fun k r hk=>?_,fun k j r x hk hj=>?_⟩
 ·rw[List.getElem?_set] at hk
  split at hk
  ·rename_i hki
   subst hki
   injection hk with hk;subst hk;exact hcs
  ·exact h.2.1 k r hk
 ·rw[foldl_set_get _ _ _ _ _ (by rw[hDl];omega)]
  simp only[Nat.add_zero,hDl]
  rw[List.getElem?_set] at hk
  split at hk
  ·rename_i hki
   subst hki
   ·injection hk with hk
    subst hk
    have hjl:j<sz:=by rw[← hcs];exact (List.getElem?_eq_some_iff.1 hj).1
    rw[if_pos ⟨by omega,by omega⟩]
    obtain⟨u,hu,hp⟩:=hrel j x hj
    refine⟨u,?_,hp⟩
    rw[show i*sz+j-i*sz=j by omega]
    simpa using hu
  ·rename_i hki
   have hjl:j<sz:=by rw[← h.2.1 k r hk];exact (List.getElem?_eq_some_iff.1 hj).1
   have hno:¬ (i*sz≤k*sz+j∧k*sz+j<i*sz+sz):=by
    rintro ⟨c1,c2⟩
    have:i=k:=by
     rcases Nat.lt_trichotomy i k with h'|h'|h'
     ·have:(i+1)*sz≤k*sz:=Nat.mul_le_mul_right _ h'
      rw[Nat.add_mul] at this;omega
     ·exact h'
     ·have:(k+1)*sz≤i*sz:=Nat.mul_le_mul_right _ h'
      rw[Nat.add_mul] at this;omega
    exact hki this
   rw[if_neg hno]
   exact h.2.2 k j r x hk hj
theorem fill_rows {S:Nat→Nat→Prop} {sz:Nat} : ∀ (parts:List (Nat × Value)) (ip:List (Nat × AV)) (C:Array Value) (E E' : List (List AV)),RowsP S w sz C E→sliceParts sz E ip=some E'→parts.length=ip.length →
  (∀ (j:Nat) (p:Nat × Value) (q:Nat × AV),parts[j]?=some p→ip[j]?=some q→p.1=q.1∧∀ cs,q.2.elem sz=some cs→p.2.cells.size=sz∧cs.length=sz∧∀ (j:Nat) (y:AV),cs[j]?=some y→∃ u,p.2.cells[j]?=some u∧PR S w u y) →
  ∃ C',Instr.fill (fun i=>some (i*sz,sz)) C parts=some C'∧RowsP S w sz C' E'
 | [],[],C,E,E',h,hb,_,_=>by simp[sliceParts] at hb;subst hb;exact⟨C,rfl,h⟩
 | p :: parts,q :: ip,C,E,E',h,hb,hl,hp=>by
  obtain⟨h1,h2⟩:=hp 0 p q rfl rfl
  obtain⟨i,v⟩:=p
  obtain⟨i',x⟩:=q
  simp only at h1
  subst h1
  simp only[sliceParts] at hb
  split at hb
  ·cases hb
  ·rename_i cs hcs
   obtain⟨h3,hb'⟩:=cond_some hb
   have hi:i<E.length:=by simpa [Nat.blt_eq] using h3
   obtain⟨c1,c2,c3⟩:=h2 cs hcs
   obtain⟨C',hf,hrow⟩:=fill_rows parts ip _ _ E' (h.put hi c1 c2 c3) hb' (by simpa using hl) (fun j p q hp' hq'=>hp (j+1) p q (by simpa using hp') (by simpa using hq'))
   refine⟨C',?_,hrow⟩
   unfold Instr.fill
   simp only
   have hle:i*sz+sz≤C.size:=by
    have:(i+1)*sz≤E.length*sz:=Nat.mul_le_mul_right _ hi
    rw[Nat.add_mul] at this
    rw[h.1];omega
   have hno:¬ (decide (v.cells.size≠sz) || decide (i*sz+v.cells.size>C.size))=true:=by
    simp at c1;simp;omega
   rw[if_neg hno]
   exact hf
 | [],_ :: _,_,_,_,_,_,hl,_=>by simp at hl
 | _ :: _,[],_,_,_,_,_,hl,_=>by simp at hl
theorem RowsP.slice {S:Nat→Nat→Prop} {sz:Nat} {C:Array Value} {E:List (List AV)} {w' : World} {ty:TypeId} (h:RowsP S w sz C E) {gh:Gh} (hS:gh.S=S) {C' : Array Value} {p:Owner} (hp:Pushed w w' (.cells C' ty))
  (hW:∀ b o,S b o→b<w.heap.size) (hC:∀ j,j<C.size→C'[j]?=C[j]?) {q:Nat→Prop} (hq:∀ j,j<E.length*sz→q j) (cap:Nat) (hcap:E.length≤cap) :
  PR (gh.alloc w.heap.size p q).S w' (.slice (some ⟨w.heap.size,0,none⟩) E.length cap) (.slice E false):=by
 subst hS
 have key:∀ (i j:Nat) (r:List AV) (x:AV),E[i]?=some r→r[j]?=some x→∃ v,C[i*sz+j]?=some v∧PR gh.S w v x∧i*sz+j<E.length*sz:=by
  intro i j r x hi hj
  obtain⟨v,hv,hpr⟩:=h.2.2 i j r x hi hj
  exact⟨v,hv,hpr,by rw[← h.1];exact (Array.getElem?_eq_some_iff.1 hv).1⟩
 refine .slice w.heap.size 0 E.length cap sz E (fun i j=>C.getD (i*sz+j) undef) rfl hcap h.2.1 ?_ ?_
 ·intro i j r x hi hj
  obtain⟨v,hv,hpr,hlt⟩:=key i j r x hi hj
  have hlt' : i*sz+j<C.size:=by rw[h.1];exact hlt
  have hg:C.getD (i*sz+j) undef=v:=by
   rw[Array.getElem?_eq_getElem hlt'] at hv
   injection hv with hv
   simp[hlt',hv]
  refine⟨.inr ⟨rfl,by simpa using hq _ hlt⟩,?_,by rw[hg];exact hpr.oneCell⟩
  rw[hg,Nat.zero_add]
  simp only[World.cell?,hp.new]
  simpa [hC _ hlt'] using hv
 ·intro i j r x hi hj
  obtain⟨v,hv,hpr,hlt⟩:=key i j r x hi hj
  have hlt' : i*sz+j<C.size:=by rw[h.1];exact hlt
  have hg:C.getD (i*sz+j) undef=v:=by
   rw[Array.getElem?_eq_getElem hlt'] at hv
   injection hv with hv
   simp[hlt',hv]
  rw[hg]
  exact hpr.mono (fun b o ho=>.inl ho) (fun b o ho=>cell_of_heap (hp.old b (hW b o ho))) (fun b E ck hs hb=>by rw[hp.old b (hW b 0 hs)];exact hb)
end
end Go.Abs
end
