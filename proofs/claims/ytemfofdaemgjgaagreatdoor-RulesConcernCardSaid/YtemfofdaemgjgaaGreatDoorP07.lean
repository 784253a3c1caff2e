/-
  A part of the proof of RulesConcern: AbsEvOp, AbsRun.
-/
import Derived.LoopN
import Derived.Scope
import Derived.Tactics
import Derived.Test.YtemfofdaemgjgaaGreatDoorP06
set_option linter.unusedSimpArgs false
set_option linter.unusedVariables false
section
namespace Go.Abs
set_option linter.unusedSimpArgs false
set_option linter.unusedVariables false
theorem compGive_inv (takes:List Nat) (d:Option Nat) (g:IArg) (ys:List IArg):compGive takes d g ys=.call g ys∨∃ n pre x post,g=.fn n∧ys=pre++x :: post∧compGive takes d g ys=.callT n pre x post:=by
 unfold compGive
 split
 ·rename_i n
  split
  ·rename_i k hk
   split
   ·rename_i x post hd
    exact .inr ⟨n,ys.take k,x,post,rfl,by rw[← hd,List.take_append_drop],rfl⟩
   ·exact .inl rfl
  ·exact .inl rfl
 ·exact .inl rfl
section
variable {P:Program} {G:Nat→List AV} {base nt:Nat} {L:List Nat} {gh:Gh} {w w' : World} {a:Act} {s:AS} {H:AHeap}
theorem isLocal_mem {locals:List Nat} {d:Option Nat} (h:isLocal locals d=true):∃ k,d=some k∧k∈locals:=by
 cases d with
 | none=>cases h
 | some k=>exact⟨k,rfl,by simpa [isLocal] using h⟩
theorem isTake_mem {l:List Nat} {d:Option Nat} (h:isTake l d=true):∃ k,d=some k∧k∈l:=by
 cases d with
 | none=>cases h
 | some k=>exact⟨k,rfl,by simpa [isTake] using h⟩
theorem len_slice {k:LenKind} {V:Value} {e:List (List AV)} {z:AV} {t:TypeId} {ao:Option Addr} {cap:Nat} (hV:V=.slice ao e.length cap) (ht:match k with|.str=>P.underlying t=some .string|.sl=>∃ e,P.underlying t=some (.slice e)|.arr m=>∃ e,P.underlying t=some (.array m e))
  (he:lenAV k (.slice e false)=some z) (ty:TypeId) {n:Nat} : ∃ v,(Builtin.len_ #[t] ty #[V]).run P w=.ok v w∧VR gh n w v z:=by
 subst hV
 cases k<;>simp only[lenAV,Option.some.injEq,reduceCtorEq] at he<;>subst he
 ·obtain⟨e',ht⟩:=ht
  exact⟨.int .i64 e.length,by simp[Builtin.len_,run_underlying ht,goInt],.plain _ _ (.int _ _)⟩
 ·obtain⟨e',ht⟩:=ht
  exact⟨.int .i64 _,by simp[Builtin.len_,run_underlying ht,goInt],.plain _ _ (.int _ _)⟩
theorem ev_mm (hW:WRel G base s.H gh w) (hF:FR L nt gh w a s) {o:Oper} {c:Call} {x y:Operand} {ix iy:IArg} {mx:Bool} {z:AV} (ho:o.op=.call c) (hcal:c.callee=.builtin (cond mx .max .min)) (hargs:c.args.toList=[x,y])
  (hx:compArg nt x=some ix) (hy:compArg nt y=some iy) (he:mmAV mx (ix.eval G s.T) (iy.eval G s.T)=some z):∃ v,(execOp a.eval o).run P w=.ok (.value v) w∧Val gh s.H.length nt w s.T s.gen (tmv a) v z:=by
 generalize hX:ix.eval G s.T=X at he
 generalize hY:iy.eval G s.T=Y at he
 unfold mmAV at he
 split at he
 ·obtain⟨h0,he⟩:=cond_some he
  injection he with he
  subst he
  have h1:=(arg_VR hW hF hx hX rfl).inv_int
  have h2:=(arg_VR hW hF hy hY rfl).inv_int
  have e1:c.args=#[x,y]:=by apply Array.ext';simpa using hargs
  cases mx
  ·refine⟨_,?_,.of_VR (.plain _ _ (.int _ _))⟩
   unfold execOp
   simp only[ho,resolve,hcal,e1,invoke,builtin,Sem.run_bind,Sem.run_pure,Result.andThen_ok,List.map_toArray,List.map_cons,List.map_nil,cond_false,h1,h2,Builtin.min_,Builtin.min2,List.foldlM_cons,List.foldlM_nil]
  ·refine⟨_,?_,.of_VR (.plain _ _ (.int _ _))⟩
   unfold execOp
   simp only[ho,resolve,hcal,e1,invoke,builtin,Sem.run_bind,Sem.run_pure,Result.andThen_ok,List.map_toArray,List.map_cons,List.map_nil,cond_true,h1,h2,Builtin.max_,Builtin.max2,List.foldlM_cons,List.foldlM_nil]
 ·cases he
theorem len_arr {m:Nat} {V:Value} {t e:TypeId} (ht:P.underlying t=some (.array m e)) (ty:TypeId) {n:Nat} : ∃ v,(Builtin.len_ #[t] ty #[V]).run P w=.ok v w∧VR gh n w v (.int .i64 m) :=
 ⟨.int .i64 _,by simp[Builtin.len_,run_underlying ht,goInt],.plain _ _ (.int _ _)⟩
theorem ev_len (hW:WRel G base s.H gh w) (hF:FR L nt gh w a s) {o:Oper} {c:Call} {x:Operand} {t:TypeId} {y:IArg} {k:LenKind} {z:AV} {s' : Option AS} {cf:CallF}
  (ho:o.op=.call c) (hcal:c.callee=.builtin .len) (hargs:c.args.toList=[x]) (htys:c.argTypes.toList=[t]) (hc:compArg nt x=some y)
  (ht:match k with|.str=>P.underlying t=some .string|.sl=>∃ e,P.underlying t=some (.slice e)|.arr m=>∃ e,P.underlying t=some (.array m e))
  (he:evOp G cf s (.len k y)=some (z,s')):s'=none∧∃ v,(execOp a.eval o).run P w=.ok (.value v) w∧Val gh s.H.length nt w s.T s.gen (tmv a) v z:=by
 simp only[evOp] at he
 have fin:∀ {zz:AV},(∃ v,(Builtin.len_ #[t] o.type #[a.eval x]).run P w=.ok v w∧VR gh s.H.length w v zz)→∃ v,(execOp a.eval o).run P w=.ok (.value v) w∧Val gh s.H.length nt w s.T s.gen (tmv a) v zz :=
  fun ⟨v,h1,h2⟩=>⟨v,run_call_len ho hcal hargs htys h1,.of_VR h2⟩
 split at he
 ·rename_i tt g hy
  split at he
  ·rename_i g' e hT
   obtain⟨h0,he⟩:=cond_some he
   have hgg:g=g':=by simpa [nbeq] using h0
   simp only[Option.map_eq_some_iff,Prod.mk.injEq] at he
   obtain⟨z',hz,rfl,rfl⟩:=he
   refine⟨rfl,fin ?_⟩
   have hv:=arg_val hW hF hc
   rw[hy] at hv
   obtain⟨hb,_,hr⟩:=(hv:_∧_∧_)
   have hax:=hr (by rw[hT,← hgg];rfl)
   obtain⟨ad,cap,hV,_⟩:=sr_lsl hF hb hT
   exact len_slice (hax.trans hV) ht hz o.type
  ·cases he
 ·simp only[Option.map_eq_some_iff,Prod.mk.injEq] at he
  obtain⟨z',hz,rfl,rfl⟩:=he
  refine⟨rfl,fin ?_⟩
  cases k with
  | arr m =>
   obtain⟨e,ht⟩:=ht
   simp only[lenAV,Option.some.injEq] at hz
   subst hz
   exact len_arr ht o.type
  | _ =>
   have hfr:frameCell (y.addr G s.T)=true:=by
    generalize y.addr G s.T=Y at hz
    cases Y<;>first|rfl|(simp[lenAV] at hz)
   exact ev_lenV (arg_VR' hW hF hc rfl hfr) ht hz o.type
theorem evOp_sound {cf:CallF} (hcf:CallsSound P G cf) (hW:WRel G base s.H gh w) (hF:FR L nt gh w a s) {takes locals muts:List Nat} {o:Oper} {io:IOp} (hco:compOp P takes locals muts nt o.dst o.op=some io)
  (hLl:∀ x,x∈locals→x∈L) (hLm:∀ x,x∈muts→x∈L) {z:AV} {s' : Option AS} (he:evOp G cf s io=some (z,s')) (hd:∀ k,o.dst=some k→k<nt) (K:Act→World→Prop) (Q:Exit→Act→World→Prop)
  (hK:∀ v' gh' w',Out G base nt L gh w a s o.dst z (s'.getD s) v' gh' w'→K (a.put o.dst v') w'):o.wp P a w K Q:=by
 have fin:s'=none→(∃ v,(execOp a.eval o).run P w=.ok (.value v) w∧Val gh s.H.length nt w s.T s.gen (tmv a) v z)→o.wp P a w K Q:=by
  rintro rfl ⟨v,h1,h2⟩
  exact Ran.wp (.inl h1) (hK v gh w (Out.pure hW hF hd h2))
 have fin2:(∃ v' gh' w',Ran P a o w v' w'∧Out G base nt L gh w a s o.dst z (s'.getD s) v' gh' w')→o.wp P a w K Q:=by
  rintro ⟨v',gh',w',h1,h2⟩
  exact Ran.wp h1 (hK v' gh' w' h2)
 have hmov:∀ x y,(o.op=.move x∨o.op=.assign x)→compArg nt x=some y→io=.mov (isTake takes o.dst) (isTake muts o.dst) (cond (isTake muts o.dst) (nilArg y) y)→o.wp P a w K Q:=by
  intro x y ho hc hio
  subst hio
  simp only[evOp] at he
  by_cases hnil:∃ v,y=.con v∧isTake muts o.dst=true
  ·obtain⟨v,rfl,hm⟩:=hnil
   rw[hm] at he
   simp only[cond_true,nilArg,evMov,Option.some.injEq,Prod.mk.injEq,IArg.eval] at he
   obtain⟨rfl,rfl⟩:=he
   refine fin rfl ⟨a.eval x,?_,.of_VR ?_⟩
   ·rcases ho with ho|ho<;>simp[execOp,ho]
   ·cases x with
    | tmp k =>
     simp only[compArg] at hc
     rcases Bool.eq_false_or_eq_true (Nat.blt k nt) with hb|hb<;>rw[hb] at hc<;>simp at hc
    | const u =>
     simp only[compArg,Option.map_eq_some_iff] at hc
     obtain⟨zz,hz,h⟩:=hc
     injection h with h
     subst h
     exact const_nil hz
    | global g=>simp[compArg] at hc
    | func f=>simp[compArg] at hc
  have hsame:cond (isTake muts o.dst) (nilArg y) y=y:=by
   cases hm:isTake muts o.dst with
   | false=>rfl
   | true=>cases y<;>first|rfl|exact absurd ⟨_,rfl,hm⟩ hnil
  rw[hsame] at he
  cases s' with
  | none =>
   refine fin rfl ⟨a.eval x,?_,ev_mov hW hF hc he⟩
   rcases ho with ho|ho<;>simp[execOp,ho]
  | some s' =>
   refine fin2 (ev_mov_state hW hF ho hc he hd (fun h k hk=>?_))
   obtain⟨k',h1,h2⟩:=isTake_mem h
   rw[h1] at hk;injection hk with hk;subst hk
   exact hLm _ h2
 cases hop:o.op with
 | move x =>
  rw[hop] at hco
  simp only[compOp,Option.map_eq_some_iff] at hco
  obtain⟨y,hc,rfl⟩:=hco
  exact hmov x y (.inl hop) hc rfl
 | assign x =>
  rw[hop] at hco
  simp only[compOp,Option.map_eq_some_iff] at hco
  obtain⟨y,hc,rfl⟩:=hco
  exact hmov x y (.inr hop) hc rfl
 | pick c x y =>
  rw[hop] at hco
  simp only[compOp,Option.bind_eq_some_iff,Option.map_eq_some_iff] at hco
  obtain⟨ic,hc,ix,hx,iy,hy,rfl⟩:=hco
  simp only[evOp] at he
  split at he
  ·rename_i t ht
   simp only[Option.some.injEq,Prod.mk.injEq] at he
   obtain⟨rfl,rfl⟩:=he
   exact fin rfl (ev_pick hW hF hop hc hx hy ht)
  ·cases he
 | alloc t =>
  rw[hop] at hco
  simp only[compOp,Option.bind_eq_some_iff] at hco
  obtain⟨zz,hz,hco⟩:=hco
  cases hl:isLocal locals o.dst with
  | true =>
   rw[hl] at hco
   simp only[cond_true,Option.some.injEq] at hco
   subst hco
   simp only[evOp,Option.some.injEq,Prod.mk.injEq] at he
   obtain⟨rfl,rfl⟩:=he
   obtain⟨k,hk,hkl⟩:=isLocal_mem hl
   exact fin2 (ev_allocL hW hF hop hz (fun k' hk'=>⟨hd k' hk',by rw[hk] at hk';injection hk' with e;subst e;exact hLl _ hkl⟩))
  | false =>
   rw[hl] at hco
   simp only[cond_false,Option.some.injEq] at hco
   subst hco
   simp only[evOp,Option.some.injEq,Prod.mk.injEq] at he
   obtain⟨rfl,rfl⟩:=he
   exact fin2 (ev_allocH hW hF hop hz hd)
 | box t x =>
  rw[hop] at hco
  simp only[compOp,Option.map_eq_some_iff] at hco
  obtain⟨y,hc,rfl⟩:=hco
  cases hl:isLocal locals o.dst with
  | true =>
   rw[hl] at he
   simp only[cond_true,evOp,Option.map_eq_some_iff,Prod.mk.injEq] at he
   obtain⟨cs,hcs,rfl,rfl⟩:=he
   obtain⟨k,hk,hkl⟩:=isLocal_mem hl
   exact fin2 (ev_boxL hW hF hop hc hcs (fun k' hk'=>⟨hd k' hk',by rw[hk] at hk';injection hk' with e;subst e;exact hLl _ hkl⟩))
  | false =>
  rw[hl] at he
  simp only[cond_false,evOp,Option.bind_eq_some_iff] at he
  obtain⟨cs,hcs,he⟩:=he
  obtain⟨h0,he⟩:=cond_some he
  simp only[Option.some.injEq,Prod.mk.injEq] at he
  obtain⟨rfl,rfl⟩:=he
  exact fin2 (ev_box hW hF hop hc hcs h0 hd)
 | build t parts =>
  rw[hop] at hco
  simp only[compOp,Option.bind_eq_some_iff] at hco
  obtain⟨zz,hz,hco⟩:=hco
  split at hco
  ·rename_i fs hu
   obtain⟨h0,hco⟩:=cond_some hco
   simp only[Option.map_eq_some_iff] at hco
   obtain⟨ps,hp,rfl⟩:=hco
   simp only[evOp,Option.map_eq_some_iff,Prod.mk.injEq] at he
   obtain⟨Z,hZ,rfl,rfl⟩:=he
   exact fin rfl (ev_build_struct hW hF hop hz hu hp (Option.isSome_iff_exists.1 h0) hZ)
  ·rename_i n e hu
   simp only[Option.bind_eq_some_iff,Option.map_eq_some_iff] at hco
   obtain⟨sz,hs,ps,hp,rfl⟩:=hco
   simp only[evOp,Option.map_eq_some_iff,Prod.mk.injEq] at he
   obtain⟨Z,hZ,rfl,rfl⟩:=he
   exact fin rfl (ev_build_array hW hF hop hz hu hs hp hZ)
  ·cases hco
 | buildSlice t len parts =>
  rw[hop] at hco
  simp only[compOp] at hco
  split at hco
  ·rename_i e hu
   simp only[Option.bind_eq_some_iff] at hco
   obtain⟨sz,hs,zz,hz,ps,hp,hco⟩:=hco
   obtain⟨h0,hco⟩:=cond_some hco
   injection hco with hco
   subst hco
   simp only[Bool.and_eq_true,Nat.ble_eq,nbeq,decide_eq_true_eq,Nat.blt_eq] at h0
   cases hl:isLocal locals o.dst with
   | true =>
    rw[hl] at he
    simp only[cond_true,evOp,Option.bind_eq_some_iff] at he
    obtain⟨E,hE,he⟩:=he
    obtain⟨hok,he⟩:=cond_some he
    simp only[Option.some.injEq,Prod.mk.injEq] at he
    obtain⟨rfl,rfl⟩:=he
    exact fin2 (ev_mksliceO hW hF hop hu hs hz hp h0.1.1 h0.1.2 h0.2 hok hE hd)
   | false =>
   rw[hl] at he
   simp only[cond_false,evOp,Option.bind_eq_some_iff] at he
   obtain⟨E,hE,he⟩:=he
   obtain⟨hok,he⟩:=cond_some he
   simp only[Option.some.injEq,Prod.mk.injEq] at he
   obtain⟨rfl,rfl⟩:=he
   exact fin2 (ev_mkslice hW hF hop hu hs hz hp hok (fun h=>Nat.eq_of_beq_eq_true h) h0.1.1 h0.1.2 h0.2 hE hd)
  ·cases hco
 | load t x =>
  rw[hop] at hco
  simp only[compOp,Option.bind_eq_some_iff,Option.map_eq_some_iff] at hco
  obtain⟨y,hc,g,hg,sz,hs,rfl⟩:=hco
  simp only[evOp] at he
  cases s' with
  | none =>
   obtain⟨v,h1,h2⟩:=ev_load (P:=P) hW hF hc hg hs he
   exact fin rfl ⟨v,by simp[execOp,hop,h1],h2⟩
  | some s'=>exact fin2 (ev_load_take hW hF hop hc hg hs he hd)
 | store t x y =>
  rw[hop] at hco
  simp only[compOp,Option.bind_eq_some_iff,Option.map_eq_some_iff] at hco
  obtain⟨ya,hca,yv,hcv,sz,hs,rfl⟩:=hco
  simp only[evOp,Option.map_eq_some_iff,Prod.mk.injEq] at he
  obtain⟨s1,he,rfl,rfl⟩:=he
  exact fin2 (ev_store hW hF hop hca hcv hs he hd)
 | nilCheck x =>
  rw[hop] at hco
  simp only[compOp,Option.map_eq_some_iff] at hco
  obtain⟨y,hc,rfl⟩:=hco
  simp only[evOp] at he
  obtain⟨h0,he⟩:=cond_some he
  simp only[Option.some.injEq,Prod.mk.injEq] at he
  obtain⟨rfl,rfl⟩:=he
  exact fin rfl (ev_nilCheck hW hF hop hc h0)
 | binOp op t x y u =>
  rw[hop] at hco
  simp only[compOp,Option.bind_eq_some_iff,Option.map_eq_some_iff] at hco
  obtain⟨ix,hx,iy,hy,rfl⟩:=hco
  simp only[evOp,Option.map_eq_some_iff,Prod.mk.injEq] at he
  obtain⟨z',hz,rfl,rfl⟩:=he
  exact fin rfl (ev_bin hW hF hop hx hy hz)
 | unOp op t x =>
  rw[hop] at hco
  simp only[compOp,Option.map_eq_some_iff] at hco
  obtain⟨y,hc,rfl⟩:=hco
  simp only[evOp,Option.map_eq_some_iff,Prod.mk.injEq] at he
  obtain⟨z',hz,rfl,rfl⟩:=he
  exact fin rfl (ev_un hW hF hop hc hz)
 | convert st dt x =>
  rw[hop] at hco
  simp only[compOp,Option.bind_eq_some_iff] at hco
  obtain⟨y,hc,hco⟩:=hco
  split at hco
  ·rename_i k' k h1 h2
   injection hco with hco
   subst hco
   simp only[evOp,Option.map_eq_some_iff,Prod.mk.injEq] at he
   obtain⟨z',hz,rfl,rfl⟩:=he
   exact fin rfl (ev_toInt hW hF hop hc h1 h2 hz)
  ·rename_i h1 h2
   injection hco with hco
   subst hco
   simp only[evOp,Option.map_eq_some_iff,Prod.mk.injEq] at he
   obtain⟨z',hz,rfl,rfl⟩:=he
   exact fin rfl (ev_strSame hW hF hop hc h1 h2 hz)
  ·rename_i e h1 h2
   split at hco
   ·rename_i hE
    injection hco with hco
    subst hco
    simp only[evOp,Option.map_eq_some_iff,Prod.mk.injEq] at he
    obtain⟨z',hz,rfl,rfl⟩:=he
    exact fin rfl (ev_bytesStr hW hF hop hc h1 hE h2 hz)
   ·cases hco
  ·cases hco
 | makeInterface t x =>
  rw[hop] at hco
  simp only[compOp,Option.bind_eq_some_iff] at hco
  obtain⟨y,hc,hco⟩:=hco
  split at hco
  ·cases hco
  ·rename_i d hn hu
   injection hco with hco
   subst hco
   simp only[evOp,Option.map_eq_some_iff,Prod.mk.injEq] at he
   obtain⟨z',hz,rfl,rfl⟩:=he
   exact fin rfl (ev_mkiface hW hF hop hc ⟨_,hu,fun m h=>hn m h⟩ hz)
  ·cases hco
 | makeFunc f first captured =>
  rw[hop] at hco
  simp only[compOp,Option.bind_eq_some_iff,Option.map_eq_some_iff] at hco
  obtain⟨fs,h1,cs,h2,rfl⟩:=hco
  simp only[evOp] at he
  obtain⟨h0,he⟩:=cond_some he
  simp only[Option.some.injEq,Prod.mk.injEq] at he
  obtain⟨rfl,rfl⟩:=he
  simp only[Bool.and_eq_true] at h0
  exact fin rfl (ev_mkfunc hW hF hop h1 h2 h0.1 h0.2)
 | slice t x lo hi mx =>
  rw[hop] at hco
  simp only[compOp,Option.bind_eq_some_iff] at hco
  obtain⟨ix,hc,ilo,h1,ihi,h2,imx,h3,hco⟩:=hco
  split at hco
  ·rename_i hu
   injection hco with hco
   subst hco
   simp only[evOp,Option.map_eq_some_iff,Prod.mk.injEq] at he
   obtain⟨z',hz,rfl,rfl⟩:=he
   exact fin rfl (ev_slice_str hW hF hop hc h1 h2 h3 hu hz)
  ·rename_i e hu
   simp only[Option.map_eq_some_iff] at hco
   obtain⟨sz,hs,rfl⟩:=hco
   simp only[evOp,Option.map_eq_some_iff,Prod.mk.injEq] at he
   obtain⟨z',hz,rfl,rfl⟩:=he
   exact fin rfl (ev_slice_sl hW hF hop hc h1 h2 h3 hu hs hz)
  ·rename_i n e hu
   simp only[Option.bind_eq_some_iff] at hco
   obtain⟨sz,hs,hco⟩:=hco
   obtain⟨h0,hco⟩:=cond_some hco
   injection hco with hco
   subst hco
   simp only[evOp,Option.map_eq_some_iff,Prod.mk.injEq] at he
   obtain⟨z',hz,rfl,rfl⟩:=he
   exact fin rfl (ev_slice_arr hW hF hop hc h1 h2 h3 hu hs (by simpa [Nat.blt_eq] using h0) hz)
  ·cases hco
 | fieldAddr t x f =>
  rw[hop] at hco
  simp only[compOp,Option.bind_eq_some_iff] at hco
  obtain⟨ix,hc,hco⟩:=hco
  split at hco
  ·rename_i fs hu
   simp only[Option.bind_eq_some_iff] at hco
   obtain⟨q,hq,sz,hs,hco⟩:=hco
   obtain⟨h0,hco⟩:=cond_some hco
   injection hco with hco
   subst hco
   simp only[evOp] at he
   obtain⟨hl,he⟩:=cond_some he
   simp only[Option.map_eq_some_iff,Prod.mk.injEq] at he
   obtain⟨z',hz,rfl,rfl⟩:=he
   exact fin rfl (ev_fieldAddr hW hF hop hc hu hq hs (by simpa [Nat.blt_eq] using h0) hl hz)
  ·cases hco
 | field t x f =>
  rw[hop] at hco
  simp only[compOp,Option.bind_eq_some_iff] at hco
  obtain⟨ix,hc,hco⟩:=hco
  split at hco
  ·rename_i fs hu
   simp only[Option.bind_eq_some_iff,Option.map_eq_some_iff] at hco
   obtain⟨q,hq,sz,hs,g,hg,rfl⟩:=hco
   simp only[evOp] at he
   split at he
   ·rename_i cs hz
    simp only[Option.map_eq_some_iff,Prod.mk.injEq] at he
    obtain⟨z',hl,rfl,rfl⟩:=he
    exact fin rfl (ev_field hW hF hop hc hu hq hs hg hz hl)
   ·cases he
  ·cases hco
 | indexAddr t x i =>
  rw[hop] at hco
  simp only[compOp,Option.bind_eq_some_iff] at hco
  obtain⟨ix,hc,ii,hi,hco⟩:=hco
  split at hco
  ·rename_i e hu
   simp only[Option.map_eq_some_iff] at hco
   obtain⟨sz,hs,rfl⟩:=hco
   simp only[evOp] at he
   split at he
   ·rename_i el own hy
    simp only[Option.bind_eq_some_iff] at he
    obtain⟨k,hk,r,hr,he⟩:=he
    obtain⟨h0,he⟩:=cond_some he
    simp only[Option.some.injEq,Prod.mk.injEq] at he
    obtain⟨rfl,rfl⟩:=he
    exact fin rfl (ev_ixSl hW hF hop hc hi hu hs hk hy hr (by simpa [nbeq] using h0))
   ·rename_i l of m hy
    simp only[Option.bind_eq_some_iff] at he
    obtain⟨k,hk,he⟩:=he
    obtain⟨h0,he⟩:=cond_some he
    simp only[Option.some.injEq,Prod.mk.injEq] at he
    obtain⟨rfl,rfl⟩:=he
    exact fin rfl (ev_ixSref hW hF hop hc hi hu hs hk hy (by simpa [Nat.blt_eq] using h0))
   ·rename_i b g hy
    split at he
    ·rename_i g' el hT
     obtain⟨h0,he⟩:=cond_some he
     have hgg:g=g':=by simpa [nbeq] using h0
     simp only[Option.bind_eq_some_iff] at he
     obtain⟨k,hk,r,hr,he⟩:=he
     obtain⟨h0,he⟩:=cond_some he
     simp only[Option.some.injEq,Prod.mk.injEq] at he
     obtain⟨rfl,rfl⟩:=he
     exact fin rfl (ev_ixLsr hW hF hop hc hi hu hs hk hy (by rw[hT,hgg]) hr (by simpa [nbeq] using h0))
    ·cases he
   ·cases he
  ·rename_i n e hu
   simp only[Option.map_eq_some_iff] at hco
   obtain⟨sz,hs,rfl⟩:=hco
   simp only[evOp,Option.bind_eq_some_iff] at he
   obtain⟨k,hk,he⟩:=he
   obtain⟨h0,he⟩:=cond_some he
   simp only[Bool.and_eq_true,Nat.blt_eq] at h0
   simp only[Option.map_eq_some_iff,Prod.mk.injEq] at he
   obtain⟨z',hz,rfl,rfl⟩:=he
   exact fin rfl (ev_ixArr hW hF hop hc hi hu hs hk h0.1 h0.2 hz)
  ·cases hco
 | index t x i =>
  rw[hop] at hco
  simp only[compOp,Option.bind_eq_some_iff] at hco
  obtain⟨ix,hc,ii,hi,hco⟩:=hco
  split at hco
  ·rename_i hu
   injection hco with hco
   subst hco
   simp only[evOp] at he
   split at he
   ·rename_i l hz
    simp only[Option.bind_eq_some_iff,Option.map_eq_some_iff,Prod.mk.injEq] at he
    obtain⟨k,hk,b,hb,rfl,rfl⟩:=he
    exact fin rfl (ev_indexStr hW hF hop hc hi hu hk hz hb)
   ·cases he
  ·rename_i n e hu
   simp only[Option.bind_eq_some_iff,Option.map_eq_some_iff] at hco
   obtain⟨sz,hs,g,hg,rfl⟩:=hco
   simp only[evOp,Option.bind_eq_some_iff] at he
   obtain⟨k,hk,he⟩:=he
   obtain⟨h0,he⟩:=cond_some he
   split at he
   ·rename_i cs hz
    simp only[Option.map_eq_some_iff,Prod.mk.injEq] at he
    obtain⟨z',hl,rfl,rfl⟩:=he
    exact fin rfl (ev_index hW hF hop hc hi hu hs hg hk (by simpa [Nat.blt_eq] using h0) hz hl)
   ·cases he
  ·cases hco
 | extract x i =>
  rw[hop] at hco
  simp only[compOp,Option.map_eq_some_iff] at hco
  obtain⟨y,hc,rfl⟩:=hco
  simp only[evOp] at he
  split at he
  ·rename_i vs hz
   simp only[Option.map_eq_some_iff,Prod.mk.injEq] at he
   obtain⟨z',hz',rfl,rfl⟩:=he
   exact fin rfl (ev_extract hW hF hop hc hz hz')
  ·cases he
 | call c =>
  rw[hop] at hco
  simp only[compOp,compCall] at hco
  split at hco
  ·rename_i fx hcal
   simp only[Option.bind_eq_some_iff,Option.map_eq_some_iff] at hco
   obtain⟨yf,hcx,ys,hcy,hgo⟩:=hco
   rcases compGive_inv takes o.dst yf ys with hcg|⟨n,pre,x,post,hyf,hys,hcg⟩
   ·rw[hcg] at hgo
    subst hgo
    simp only[evOp] at he
    split at he
    ·rename_i f fs cs hfun
     obtain⟨h0,he⟩:=cond_some he
     simp only[Option.map_eq_some_iff,Prod.mk.injEq] at he
     obtain⟨⟨r,ch⟩,hr,rfl,rfl⟩:=he
     exact ev_call hcf hW hF hop hcal hcx hcy hfun h0 hr hd K Q hK
    ·cases he
   ·rw[hcg] at hgo
    subst hgo hyf hys
    simp only[evOp] at he
    obtain⟨h0,he⟩:=cond_some he
    simp only[Bool.and_eq_true,Option.bind_eq_some_iff,Option.map_eq_some_iff,Prod.mk.injEq] at h0 he
    obtain⟨⟨xv,s1⟩,hx,⟨r,ch⟩,hr,rfl,rfl⟩:=he
    have hfn:fx=.func n:=by
     cases fx<;>simp[compArg] at hcx
     ·rename_i t
      rcases Bool.eq_false_or_eq_true (Nat.blt t nt) with hb|hb<;>rw[hb] at hcx<;>simp at hcx
     ·rw[hcx]
    subst hfn
    exact ev_callT hcf hW hF hop hcal hcy h0.1 h0.2 hx hr hd K Q hK
  ·rename_i hcal
   split at hco
   ·rename_i x t hargs htys
    simp only[Option.bind_eq_some_iff] at hco
    obtain⟨y,hc,hco⟩:=hco
    split at hco
    ·rename_i hu
     injection hco with hco
     subst hco
     obtain⟨h1,h2⟩:=ev_len (P:=P) hW hF hop hcal hargs htys hc (k:=.str) hu he
     exact fin h1 h2
    ·rename_i e hu
     injection hco with hco
     subst hco
     obtain⟨h1,h2⟩:=ev_len (P:=P) hW hF hop hcal hargs htys hc (k:=.sl) ⟨_,hu⟩ he
     exact fin h1 h2
    ·rename_i n e hu
     injection hco with hco
     subst hco
     obtain⟨h1,h2⟩:=ev_len (P:=P) hW hF hop hcal hargs htys hc (k:=.arr n) ⟨_,hu⟩ he
     exact fin h1 h2
    ·rename_i hu
     injection hco with hco
     subst hco
     obtain⟨h1,h2⟩:=ev_mlen (P:=P) hW hF hop hcal hargs htys hc hu he
     exact fin h1 h2
    ·cases hco
   ·cases hco
  ·rename_i hcal
   split at hco
   ·rename_i x y t u hargs htys
    simp only[Option.bind_eq_some_iff] at hco
    obtain⟨yx,hcx,yy,hcy,hco⟩:=hco
    have go:∀ e,P.underlying t=some (.slice e)→((∃ e',P.underlying u=some (.slice e'))∨P.underlying u=some .string) →
      ((P.info? e).bind fun i=>cond (Nat.blt 0 i.size&&(i.zero.map fun z=>Nat.beq z.cells.size i.size).getD false) (some (cond (isLocal locals o.dst) (IOp.appendO i.size i.bytes yx yy) (IOp.append (Nat.beq e byteTy) (isTake muts o.dst) i.size i.bytes yx yy))) none)=some io→o.wp P a w K Q:=by
     intro e ht hu hco
     simp only[Option.bind_eq_some_iff] at hco
     obtain⟨i,hi,hco⟩:=hco
     obtain⟨h0,hco⟩:=cond_some hco
     injection hco with hco
     subst hco
     simp only[Bool.and_eq_true,Nat.blt_eq] at h0
     obtain⟨h0,h1⟩:=h0
     have hT:ElemT P t e i.size i.bytes:=by
      cases hz:i.zero with
      | none=>rw[hz] at h1;cases h1
      | some zv=>rw[hz] at h1;exact⟨ht,⟨i,zv,hi,hz,rfl,rfl,by simpa [nbeq] using h1⟩,h0⟩
     cases hob:isLocal locals o.dst with
     | true =>
      rw[hob] at he
      simp only[cond_true,evOp] at he
      exact fin2 (ev_appendO hW hF hop hcal hargs htys hT hu hcx hcy he hd)
     | false =>
     rw[hob] at he
     simp only[cond_false,evOp] at he
     refine fin2 (ev_append hW hF hop hcal hargs htys hT (fun h=>Nat.eq_of_beq_eq_true h) hu hcx hcy he hd (fun h k hk=>?_))
     obtain⟨k',h1,h2⟩:=isTake_mem h
     rw[h1] at hk;injection hk with hk;subst hk
     exact hLm _ h2
    split at hco
    ·rename_i e e' ht hu
     exact go e ht (.inl ⟨_,hu⟩) hco
    ·rename_i e ht hu
     exact go e ht (.inr hu) hco
    ·cases hco
   ·cases hco
  ·rename_i hcal
   split at hco
   ·rename_i x y hargs
    simp only[Option.bind_eq_some_iff,Option.map_eq_some_iff] at hco
    obtain⟨ix,hx,iy,hy,rfl⟩:=hco
    simp only[evOp,Option.map_eq_some_iff,Prod.mk.injEq] at he
    obtain⟨z',hz,rfl,rfl⟩:=he
    exact fin rfl (ev_mm (mx:=true) hW hF hop hcal hargs hx hy hz)
   ·cases hco
  ·rename_i hcal
   split at hco
   ·rename_i x y hargs
    simp only[Option.bind_eq_some_iff,Option.map_eq_some_iff] at hco
    obtain⟨ix,hx,iy,hy,rfl⟩:=hco
    simp only[evOp,Option.map_eq_some_iff,Prod.mk.injEq] at he
    obtain⟨z',hz,rfl,rfl⟩:=he
    exact fin rfl (ev_mm (mx:=false) hW hF hop hcal hargs hx hy hz)
   ·cases hco
  ·cases hco
 | makeSlice t x y =>
  rw[hop] at hco
  simp only[compOp,Option.bind_eq_some_iff] at hco
  obtain⟨yx,hcx,hco⟩:=hco
  obtain⟨hxy,hco⟩:=cond_some hco
  split at hco
  ·rename_i e ht
   simp only[Option.bind_eq_some_iff] at hco
   obtain⟨i,hi,zv,hz,zero,hzc,hco⟩:=hco
   obtain⟨h0,hco⟩:=cond_some hco
   injection hco with hco
   subst hco
   simp only[Bool.and_eq_true,Nat.blt_eq,nbeq,decide_eq_true_eq] at h0
   simp only[evOp] at he
   exact fin2 (ev_mkarr hW hF hop hxy ht hi hz hzc h0.2 h0.1 hcx he hd)
  ·cases hco
 | makeMap t r =>
  rw[hop] at hco
  cases r with
  | some r=>simp[compOp] at hco
  | none =>
   simp only[compOp,Option.map_eq_some_iff] at hco
   obtain⟨m,hm,rfl⟩:=hco
   simp only[evOp,Option.some.injEq,Prod.mk.injEq] at he
   obtain⟨rfl,rfl⟩:=he
   exact fin2 (ev_mkmap hW hF hop hd _ _ _)
 | lookup t x i ok =>
  rw[hop] at hco
  simp only[compOp,Option.bind_eq_some_iff,Option.map_eq_some_iff] at hco
  obtain⟨ya,hca,yb,hcb,m,hm,rfl⟩:=hco
  obtain⟨kt,et,z,hT⟩:=mapK_inv hm
  cases hb:(!ok&&!m.2.2.1&&isTake takes o.dst) with
  | false =>
   rw[hb] at he
   simp only[cond_false,evOp] at he
   obtain⟨h1,h2⟩:=ev_look hW hF hT hop hca hcb he
   exact fin h1 h2
  | true =>
   rw[hb] at he
   simp only[cond_true,evOp] at he
   simp only[Bool.and_eq_true,Bool.not_eq_true'] at hb
   obtain⟨⟨hok,hva⟩,_⟩:=hb
   subst hok
   rw[hva] at hT
   exact fin2 (ev_lookT hW hF hT hop hca hcb he hd)
 | mapUpdate t x i v =>
  rw[hop] at hco
  simp only[compOp,Option.bind_eq_some_iff,Option.map_eq_some_iff] at hco
  obtain⟨ya,hca,yb,hcb,yc,hcc,m,hm,rfl⟩:=hco
  obtain⟨kt,et,z,hT⟩:=mapK_inv hm
  simp only[evOp,Option.map_eq_some_iff,Prod.mk.injEq] at he
  obtain⟨s1,he,rfl,rfl⟩:=he
  exact fin2 (ev_mset hW hF hT (.inl hop) hca hcb hcc he hd)
 | insert t x i v =>
  rw[hop] at hco
  simp only[compOp,Option.bind_eq_some_iff,Option.map_eq_some_iff] at hco
  obtain⟨ya,hca,yb,hcb,yc,hcc,m,hm,rfl⟩:=hco
  obtain⟨kt,et,z,hT⟩:=mapK_inv hm
  simp only[evOp,Option.map_eq_some_iff,Prod.mk.injEq] at he
  obtain⟨s1,he,rfl,rfl⟩:=he
  exact fin2 (ev_mset hW hF hT (.inr hop) hca hcb hcc he hd)
 | range t x =>
  rw[hop] at hco
  simp only[compOp] at hco
  obtain⟨h0,hco⟩:=cond_some hco
  simp only[Option.bind_eq_some_iff,Option.map_eq_some_iff] at hco
  obtain⟨ya,hca,m,hm,rfl⟩:=hco
  obtain⟨kt,et,z,hT⟩:=mapK_inv hm
  obtain⟨k',h1,h2⟩:=isTake_mem h0
  exact fin2 (ev_rng hW hF hop hca hT.ht he (fun k hk=>⟨hd k hk,by rw[h1] at hk;injection hk with hk;subst hk;exact hLm _ h2⟩))
 | next x b =>
  rw[hop] at hco
  cases b with
  | true=>simp[compOp] at hco
  | false =>
   simp only[compOp,Option.map_eq_some_iff] at hco
   obtain⟨ya,hca,rfl⟩:=hco
   simp[evOp] at he
 | entry x =>
  rw[hop] at hco
  simp only[compOp,Option.map_eq_some_iff] at hco
  obtain⟨ya,hca,rfl⟩:=hco
  obtain⟨h1,h2⟩:=ev_ent hW hF hop hca he
  exact fin h1 h2
 | _=>rw[hop] at hco;simp[compOp] at hco
end
end Go.Abs
end
section
namespace Go.Abs
set_option linter.unusedSimpArgs false
set_option linter.unusedVariables false
structure LoInv (H0:AHeap) (s:AS):Prop where
 lo:s.lo≤H0.length
 len:H0.length≤s.H.length
 same:∀ l,l<s.lo→s.H[l]?=H0[l]?
def ChgGood (s:AS) (c:Chg):Prop:=s.H.length≤c.heap.length∧∀ l,l<c.lo→c.heap[l]?=s.H[l]?
theorem LoInv.chg {H0:AHeap} {s:AS} (h:LoInv H0 s) {c:Chg} (hc:ChgGood s c):LoInv H0 (s.chg c):=by
 have e:(s.chg c).lo=if c.lo<s.lo then c.lo else s.lo:=by
  simp only[AS.chg]
  by_cases hb:c.lo<s.lo
  ·rw[if_pos hb,show Nat.blt c.lo s.lo=true by simpa [Nat.blt_eq] using hb];rfl
  ·rw[if_neg hb,show Nat.blt c.lo s.lo=false by simpa [← Bool.not_eq_true,Nat.blt_eq] using hb];rfl
 have:=h.lo
 refine⟨?_,Nat.le_trans h.len hc.1,fun l hl=>?_⟩
 ·rw[e];split<;>omega
 ·rw[e] at hl
  have h1:l<c.lo∧l<s.lo:=by split at hl<;>omega
  exact (hc.2 l h1.1).trans (h.same l h1.2)
theorem LoInv.same_HL {H0:AHeap} {s s' : AS} (h:LoInv H0 s) (hH:s'.H=s.H) (hl:s'.lo=s.lo):LoInv H0 s' :=
 ⟨by rw[hl];exact h.lo,by rw[hH];exact h.len,fun l hl'=>by rw[hH];exact h.same l (by rw[← hl];exact hl')⟩
theorem good_set (s:AS) (loc:Nat) (o:AObj):ChgGood s ⟨s.H.set loc o,loc⟩:=⟨by simp,fun l hl=>by simp only at hl ⊢;rw[List.getElem?_set_ne (by omega)]⟩
theorem good_dead (s:AS) (loc:Nat) (hl:loc<s.H.length) (o:AObj):ChgGood s ⟨s.H.set loc .dead++[o],loc⟩:=⟨by simp,fun l hl'=>by
 simp only at hl' ⊢
 rw[List.getElem?_append_left (by simp;omega),List.getElem?_set_ne (by omega)]⟩
theorem good_push (s:AS) (o:AObj):ChgGood s ⟨s.H++[o],s.H.length⟩:=⟨by simp,fun l hl=>by simp only at hl ⊢;rw[List.getElem?_append_left hl]⟩
theorem evOp_lo {G:Nat→List AV} {cf:CallF} (hcf:∀ f args H r c,cf f args H=some (r,c)→ChgOK H c) {H0:AHeap} {s s' : AS} {o:IOp} {z:AV} (he:evOp G cf s o=some (z,some s')) (h:LoInv H0 s):LoInv H0 s':=by
 have sT:∀ t X,LoInv H0 (s.setT t X):=fun t X=>h.same_HL rfl rfl
 cases o with
 | mov take obj x =>
  cases x<;>simp only[evOp,evMov] at he<;>try (cases he;done)
  split at he
  ·cases he
  ·cases take
   ·cases he
   ·obtain⟨_,he⟩:=cond_some he
    simp only[Option.some.injEq,Prod.mk.injEq] at he
    rw[← he.2];exact h.same_HL rfl rfl
  ·simp only[Option.some.injEq,Prod.mk.injEq] at he
   obtain⟨_,he⟩:=he
   obtain⟨_,he⟩:=cond_some he
   injection he with he
   rw[← he];exact sT _ _
  ·cases he
  ·cases he
 | chk c x=>simp only[evOp] at he;obtain⟨_,he⟩:=cond_some he;simp at he
 | boxL x =>
  simp only[evOp,Option.map_eq_some_iff,Prod.mk.injEq,Option.some.injEq] at he
  obtain⟨cs,_,_,rfl⟩:=he
  exact h.same_HL rfl rfl
 | allocL z0 =>
  simp only[evOp,Option.some.injEq,Prod.mk.injEq] at he
  rw[← he.2];exact h.same_HL rfl rfl
 | allocH ty z0 =>
  simp only[evOp,Option.some.injEq,Prod.mk.injEq] at he
  rw[← he.2];exact h.chg (good_push s _)
 | box ty x =>
  simp only[evOp,Option.bind_eq_some_iff] at he
  obtain⟨cs,_,he⟩:=he
  obtain⟨_,he⟩:=cond_some he
  simp only[Option.some.injEq,Prod.mk.injEq] at he
  rw[← he.2];exact h.chg (good_push s _)
 | load take agg sz x =>
  simp only[evOp,loadAV] at he
  split at he
  ·simp at he
  ·split at he
   ·simp only[Option.map_eq_some_iff,Prod.mk.injEq] at he
    obtain⟨u,_,_,he⟩:=he
    obtain⟨_,he⟩:=cond_some he
    injection he with he
    rw[← he];exact h.chg (good_set s _ _)
   ·simp at he
   ·cases he
  ·split at he
   ·obtain⟨_,he⟩:=cond_some he
    simp only[Option.map_eq_some_iff,Prod.mk.injEq] at he
    obtain⟨u,_,_,he⟩:=he
    obtain⟨_,he⟩:=cond_some he
    injection he with he
    rw[← he];exact sT _ _
   ·cases he
  ·split at he
   ·obtain⟨_,he⟩:=cond_some he
    simp only[Option.bind_eq_some_iff] at he
    obtain⟨r,_,he⟩:=he
    obtain⟨_,he⟩:=cond_some he
    simp at he
   ·cases he
  ·cases he
 | store sz x y =>
  simp only[evOp,Option.map_eq_some_iff,Prod.mk.injEq,Option.some.injEq] at he
  obtain⟨s1,he,_,rfl⟩:=he
  have h1:LoInv H0 s1:=by
   unfold storeAV at he
   split at he
   ·cases he
   obtain⟨_,he⟩:=cond_some he
   split at he
   ·split at he
    ·obtain⟨_,he⟩:=cond_some he
     injection he with he
     rw[← he];exact h.chg (good_set s _ _)
    ·cases he
   ·split at he
    ·obtain⟨_,he⟩:=cond_some he
     injection he with he
     rw[← he];exact sT _ _
    ·cases he
   ·split at he
    ·obtain⟨_,he⟩:=cond_some he
     simp only[Option.bind_eq_some_iff] at he
     obtain⟨r,_,he⟩:=he
     obtain⟨_,he⟩:=cond_some he
     injection he with he
     rw[← he];exact sT _ _
    ·cases he
   ·cases he
  exact h1.same_HL (spent_H _ _).1 (spent_H _ _).2.2
 | append isB wr sz bytes x y =>
  simp only[evOp,evAppend] at he
  split at he
  ·split at he
   ·simp only[Option.bind_eq_some_iff] at he
    obtain⟨f,_,he⟩:=he
    obtain⟨_,he⟩:=cond_some he
    simp only[Option.some.injEq,Prod.mk.injEq] at he
    rw[← he.2];exact h.same_HL rfl rfl
   ·cases wr
    ·simp only[cond_false,Option.map_eq_some_iff,Prod.mk.injEq,Option.some.injEq] at he
     obtain⟨_,_,_,rfl⟩:=he
     exact sT _ _
    ·simp only[cond_true,Option.bind_eq_some_iff] at he
     obtain⟨f,_,he⟩:=he
     obtain⟨_,he⟩:=cond_some he
     simp only[Option.some.injEq,Prod.mk.injEq] at he
     rw[← he.2];exact h.same_HL rfl rfl
   ·cases wr
    ·simp only[cond_false,Option.map_eq_some_iff,Prod.mk.injEq,Option.some.injEq] at he
     obtain⟨_,_,_,rfl⟩:=he
     exact h
    ·simp only[cond_true,Option.bind_eq_some_iff] at he
     obtain⟨f,_,he⟩:=he
     obtain⟨_,he⟩:=cond_some he
     simp only[Option.some.injEq,Prod.mk.injEq] at he
     rw[← he.2];exact h.same_HL rfl rfl
   ·cases he
  ·cases wr
   ·simp at he
   ·cases he
 | call f args =>
  simp only[evOp] at he
  split at he
  ·obtain⟨_,he⟩:=cond_some he
   simp only[Option.map_eq_some_iff,Prod.mk.injEq] at he
   obtain⟨⟨r,c⟩,hr,_,he⟩:=he
   simp only[Option.map_eq_some_iff] at he
   obtain⟨c',rfl,rfl⟩:=he
   obtain⟨h1,h2⟩:=hcf _ _ _ _ _ hr
   exact h.chg ⟨by simp only[newH] at h1;omega,(h2 c' rfl).2⟩
  ·cases he
 | callT f pre x post =>
  simp only[evOp] at he
  obtain⟨_,he⟩:=cond_some he
  simp only[Option.bind_eq_some_iff,Option.map_eq_some_iff,Prod.mk.injEq,Option.some.injEq] at he
  obtain⟨⟨xv,s1⟩,hx,⟨r,c⟩,hr,_,rfl⟩:=he
  have h1:LoInv H0 s1∧s1.H=s.H:=by
   unfold giveX at hx
   split at hx
   ·split at hx
    ·simp only[Option.some.injEq,Prod.mk.injEq] at hx
     obtain⟨_,rfl⟩:=hx
     exact⟨sT _ _,rfl⟩
    ·cases hx
   ·split at hx
    ·simp only[Option.some.injEq,Prod.mk.injEq] at hx
     obtain⟨_,rfl⟩:=hx
     exact⟨h,rfl⟩
    ·cases hx
   ·cases hx
  obtain⟨k1,k2⟩:=hcf _ _ _ _ _ hr
  cases c with
  | none=>exact h1.1
  | some c' =>
   refine h1.1.chg ⟨?_,?_⟩
   ·have:=h1.1.len;simp only[newH] at k1;rw[h1.2];omega
   ·rw[h1.2];exact (k2 c' rfl).2
 | pick=>simp only[evOp] at he;split at he<;>simp at he
 | build=>simp[evOp] at he
 | mkslice =>
  simp only[evOp,Option.bind_eq_some_iff] at he
  obtain⟨_,_,he⟩:=he
  obtain⟨_,he⟩:=cond_some he
  simp at he
 | nilCheck=>simp only[evOp] at he;obtain⟨_,he⟩:=cond_some he;simp at he
 | bin=>simp[evOp] at he
 | un=>simp[evOp] at he
 | mm=>simp[evOp] at he
 | conv=>simp[evOp] at he
 | mkiface=>simp[evOp] at he
 | slice=>simp[evOp] at he
 | fieldAddr=>simp only[evOp] at he;obtain⟨_,he⟩:=cond_some he;simp at he
 | field=>simp only[evOp] at he;split at he<;>simp at he
 | ixSl =>
  simp only[evOp] at he
  split at he
  ·simp only[Option.bind_eq_some_iff] at he
   obtain⟨_,_,_,_,he⟩:=he
   obtain⟨_,he⟩:=cond_some he
   simp at he
  ·simp only[Option.bind_eq_some_iff] at he
   obtain⟨_,_,he⟩:=he
   obtain⟨_,he⟩:=cond_some he
   simp at he
  ·split at he
   ·obtain⟨_,he⟩:=cond_some he
    simp only[Option.bind_eq_some_iff] at he
    obtain⟨_,_,_,_,he⟩:=he
    obtain⟨_,he⟩:=cond_some he
    simp at he
   ·cases he
  ·cases he
 | ixArr =>
  simp only[evOp,Option.bind_eq_some_iff] at he
  obtain⟨_,_,he⟩:=he
  obtain⟨_,he⟩:=cond_some he
  simp at he
 | index =>
  simp only[evOp,Option.bind_eq_some_iff] at he
  obtain⟨_,_,he⟩:=he
  obtain⟨_,he⟩:=cond_some he
  split at he<;>simp at he
 | indexStr =>
  simp only[evOp] at he
  split at he
  ·simp only[Option.bind_eq_some_iff,Option.map_eq_some_iff,Prod.mk.injEq] at he
   obtain⟨_,_,_,_,_,he⟩:=he
   cases he
  ·cases he
 | extract=>simp only[evOp] at he;split at he<;>simp at he
 | len =>
  simp only[evOp] at he
  split at he
  ·split at he
   ·obtain⟨_,he⟩:=cond_some he
    simp at he
   ·cases he
  ·simp at he
 | mkfunc=>simp only[evOp] at he;obtain⟨_,he⟩:=cond_some he;simp at he
 | callP f xs =>
  simp only[evOp] at he
  split at he
  ·obtain⟨_,he⟩:=cond_some he
   simp only[Option.bind_eq_some_iff] at he
   obtain⟨r,_,he⟩:=he
   split at he<;>simp at he
  ·cases he
 | appendO sz bytes x y =>
  simp only[evOp,evAppendO,Option.bind_eq_some_iff] at he
  obtain⟨f,_,he⟩:=he
  split at he
  ·obtain⟨_,he⟩:=cond_some he
   simp only[Option.some.injEq,Prod.mk.injEq] at he
   rw[← he.2];exact h.chg (good_push s _)
  ·obtain⟨_,he⟩:=cond_some he
   simp only[Option.some.injEq,Prod.mk.injEq] at he
   rw[← he.2];exact h.chg (good_push s _)
  ·split at he
   ·rename_i hH
    obtain⟨_,he⟩:=cond_some he
    simp only[Option.some.injEq,Prod.mk.injEq] at he
    rw[← he.2];exact h.chg (good_dead s _ (List.getElem?_eq_some_iff.1 hH).1 _)
   ·cases he
  ·cases he
 | mksliceO sz zs ps =>
  simp only[evOp,Option.bind_eq_some_iff] at he
  obtain⟨f,_,he⟩:=he
  obtain⟨_,he⟩:=cond_some he
  simp only[Option.some.injEq,Prod.mk.injEq] at he
  rw[← he.2];exact h.chg (good_push s _)
 | mkarr sz bytes zero n =>
  simp only[evOp,evMkarr,Option.bind_eq_some_iff] at he
  obtain⟨f,_,he⟩:=he
  obtain⟨_,he⟩:=cond_some he
  simp only[Option.some.injEq,Prod.mk.injEq] at he
  rw[← he.2];exact h.chg (good_push s _)
 | mkmap kz ka va =>
  simp only[evOp,Option.some.injEq,Prod.mk.injEq] at he
  rw[← he.2];exact h.chg (good_push s _)
 | look ok kz ka va ks zero m k =>
  simp only[evOp,evLook,Option.bind_eq_some_iff] at he
  obtain⟨_,_,he⟩:=he
  obtain⟨_,he⟩:=cond_some he
  split at he
  ·simp at he
  ·simp only[Option.bind_eq_some_iff,Option.map_eq_some_iff,Prod.mk.injEq,reduceCtorEq,and_false,exists_false] at he
 | lookT kz ka ks zero m k =>
  simp only[evOp,evLookT] at he
  split at he
  ·split at he
   ·simp only[Option.bind_eq_some_iff] at he
    obtain⟨_,_,he⟩:=he
    obtain⟨_,he⟩:=cond_some he
    simp only[Option.bind_eq_some_iff] at he
    obtain⟨o,_,he⟩:=he
    cases o with
    | none=>simp at he
    | some i =>
     simp only[Option.map_eq_some_iff,Prod.mk.injEq,Option.some.injEq] at he
     obtain⟨_,_,_,he⟩:=he
     rw[← he];exact h.chg (good_set s _ _)
   ·cases he
  ·cases he
 | mset kz ka va vz ks m k v =>
  simp only[evOp,Option.map_eq_some_iff,Prod.mk.injEq,Option.some.injEq] at he
  obtain⟨s1,he,_,rfl⟩:=he
  have h1:LoInv H0 s1:=by
   unfold evMset at he
   split at he
   ·split at he
    ·simp only[Option.bind_eq_some_iff] at he
     obtain⟨_,_,_,_,he⟩:=he
     obtain⟨_,he⟩:=cond_some he
     simp only[Option.map_eq_some_iff] at he
     obtain⟨_,_,he⟩:=he
     rw[← he];exact h.chg (good_set s _ _)
    ·cases he
   ·cases he
  exact h1.same_HL (spent_H _ _).1 (spent_H _ _).2.2
 | mlen m =>
  simp only[evOp] at he
  split at he
  ·simp at he
  ·simp at he
  ·split at he
   ·simp at he
   ·simp at he
   ·cases he
  ·cases he
 | rng kz ka va m =>
  simp only[evOp] at he
  split at he
  ·simp only[Option.some.injEq,Prod.mk.injEq] at he
   rw[← he.2];exact h.same_HL rfl rfl
  ·obtain⟨_,he⟩:=cond_some he
   simp only[Option.some.injEq,Prod.mk.injEq] at he
   rw[← he.2];exact h.same_HL rfl rfl
  ·cases he
 | next it=>simp[evOp] at he
 | ent it =>
  simp only[evOp] at he
  split at he
  ·split at he
   ·obtain⟨_,he⟩:=cond_some he
    simp at he
   ·cases he
  ·cases he
section
variable {P:Program} {G:Nat→List AV} {base nt:Nat} {L:List Nat} {gh:Gh} {w w' : World} {a:Act} {s:AS} {H:AHeap}
structure Inv (G:Nat→List AV) (base nt:Nat) (L:List Nat) (H0:AHeap) (gh0:Gh) (w0:World) (s:AS) (gh:Gh) (w:World) (a:Act):Prop where
 W:WRel G base s.H gh w
 F:FR L nt gh w a s
 E:Ext H0.length gh0 w0 gh w
 lo:LoInv H0 s
theorem Inv.out {H0:AHeap} {gh0 gh' : Gh} {w0 w' : World} {d:Option Nat} {x:AV} {s' : AS} {v' : Value} (h:Inv G base nt L H0 gh0 w0 s gh w a) (hO:Out G base nt L gh w a s d x s' v' gh' w') (hl:LoInv H0 s') :
  Inv G base nt L H0 gh0 w0 (s'.putD d x) gh' w' (a.put d v') :=
 ⟨by rw[(putD_T s' d x).1];exact hO.W,hO.F,h.E.trans hO.E h.lo.len,hl.same_HL (putD_T s' d x).1 (putD_T s' d x).2.2⟩
def evVal (G:Nat→List AV) (cf:CallF) (draw:Bool) (s:AS) (o:IOper):Option (AV × AS) :=
 let run:Option (AV × AS):=(evOp G cf s o.op).bind fun r=>match r.2 with
  | none=>cond (draw&&(genOf r.1).isSome) none (some (r.1,s))
  | some s'=>cond draw none (some (r.1,s'))
 match o.guard with
 | none=>run
 | some (g,want)=>match s.T g with
  | .bool b=>cond (b==want) run (some (.undef,s))
  | .tuple []=>some (.undef,s)
  | _=>none
theorem evOper_val {G:Nat→List AV} {cf:CallF} {draw:Bool} {s:AS} {o:IOper} : evOper G cf draw s o=(evVal G cf draw s o).map fun r=>r.2.putD o.dst r.1:=by
 have hrun:((evOp G cf s o.op).bind fun r=>match r.2 with
   | none=>cond (draw&&(genOf r.1).isSome) none (some (s.putD o.dst r.1))
   | some s'=>cond draw none (some (s'.putD o.dst r.1))) =
  ((evOp G cf s o.op).bind fun r=>match r.2 with
   | none=>cond (draw&&(genOf r.1).isSome) none (some (r.1,s))
   | some s'=>cond draw none (some (r.1,s'))).map fun r=>r.2.putD o.dst r.1:=by
  cases evOp G cf s o.op with
  | none=>rfl
  | some r =>
   obtain⟨z,s'⟩:=r
   cases s' with
   | none=>simp only[Option.bind_some];cases (draw&&(genOf z).isSome)<;>rfl
   | some s'=>cases draw<;>rfl
 unfold evOper evVal
 simp only
 cases o.guard with
 | none=>exact hrun
 | some g =>
  obtain⟨g,want⟩:=g
  simp only
  generalize s.T g=X
  cases X with
  | bool b =>
   simp only
   cases (b==want)
   ·rfl
   ·exact hrun
  | tuple vs=>cases vs<;>rfl
  | _=>rfl
theorem compOper_inv {takes locals muts:List Nat} {ops:Array Oper} {o:Oper} {io:IOper} (h:compOper P takes locals muts nt ops o=some io) :
  compOp P takes locals muts nt o.dst o.op=some io.op∧compGuard nt ops o.guard=some io.guard∧io.dst=o.dst∧∀ k,o.dst=some k→k<nt:=by
 simp only[compOper,Option.bind_eq_some_iff] at h
 obtain⟨p,hp,g,hg,h⟩:=h
 split at h
 ·rename_i hd
  injection h with h
  subst h
  exact⟨hp,hg,hd.symm,fun k hk=>by rw[hd] at hk;cases hk⟩
 ·rename_i d hd
  obtain⟨h0,h⟩:=cond_some h
  injection h with h
  subst h
  exact⟨hp,hg,hd.symm,fun k hk=>by rw[hd] at hk;injection hk with hk;subst hk;simpa [Nat.blt_eq] using h0⟩
theorem oper_step {cf:CallF} (hcf:CallsSound P G cf) {H0:AHeap} {gh0:Gh} {w0:World} (hI:Inv G base nt L H0 gh0 w0 s gh w a) {takes locals muts:List Nat} {ops:Array Oper} {o:Oper} {io:IOper}
  (hc:compOper P takes locals muts nt ops o=some io) (hLl:∀ x,x∈locals→x∈L) (hLm:∀ x,x∈muts→x∈L) {draw:Bool} {z:AV} {s1:AS} (he:evVal G cf draw s io=some (z,s1)) (K:Act→World→Prop) (Q:Exit→Act→World→Prop)
  (hK:∀ a' gh' w',Inv G base nt L H0 gh0 w0 (s1.putD o.dst z) gh' w' a'→K a' w') :
  if Region.wanted o (yielded ops a.tmps) then o.wp P a w K Q∨(o.asks P a w∧LetsOut Q) else K (a.put o.dst undef) w:=by
 obtain⟨hop,hg,hdst,hd⟩:=compOper_inv hc
 have hskip:s1=s→z=.undef→K (a.put o.dst undef) w:=by
  rintro rfl rfl
  exact hK _ gh w (hI.out (Out.pure hI.W hI.F hd (.of_VR .undef)) hI.lo)
 have hrun:((evOp G cf s io.op).bind fun r=>match r.2 with
   | none=>cond (draw&&(genOf r.1).isSome) none (some (r.1,s))
   | some s'=>cond draw none (some (r.1,s')))=some (z,s1)→o.wp P a w K Q:=by
  intro h
  simp only[Option.bind_eq_some_iff] at h
  obtain⟨⟨z',s'⟩,hev,h⟩:=h
  cases s' with
  | none =>
   simp only at h
   have h' : z'=z∧s=s1:=by
    cases hb:(draw&&(genOf z').isSome) with
    | true=>rw[hb] at h;cases h
    | false=>rw[hb] at h;simpa using h
   obtain⟨rfl,rfl⟩:=h'
   exact evOp_sound hcf hI.W hI.F hop hLl hLm hev hd K Q (fun v' gh' w' hO=>hK _ gh' w' (hI.out hO hI.lo))
  | some s' =>
   simp only at h
   have h' : z'=z∧s'=s1:=by
    cases draw with
    | true=>cases h
    | false=>simpa using h
   obtain⟨rfl,rfl⟩:=h'
   exact evOp_sound hcf hI.W hI.F hop hLl hLm hev hd K Q (fun v' gh' w' hO=>hK _ gh' w' (hI.out hO (evOp_lo (fun f args H r c h=>(hcf f args H r c h).2.1) hev hI.lo)))
 cases hog:o.guard with
 | none =>
  rw[hog] at hg
  simp only[compGuard,Option.some.injEq] at hg
  have hw:Region.wanted o (yielded ops a.tmps)=true:=by simp[Region.wanted,hog]
  rw[if_pos hw]
  unfold evVal at he
  rw[← hg] at he
  exact .inl (hrun he)
 | some jw =>
  obtain⟨j,want⟩:=jw
  rw[hog] at hg
  simp only[compGuard,Option.bind_eq_some_iff] at hg
  obtain⟨t,⟨oj,hoj,hdj⟩,hg⟩:=hg
  obtain⟨hlt,hg⟩:=cond_some hg
  injection hg with hg
  have ht:t<nt:=by simpa [Nat.blt_eq] using hlt
  have htm:a.tmps[t]?=some (tmv a t):=by
   have:t<a.tmps.size:=by rw[hI.F.size];exact ht
   simp[tmv,this]
  have hy:∀ v,tmv a t=v→yielded ops a.tmps j=match v with|.bool b=>some b|_=>none:=by
   intro v hv
   unfold yielded
   rw[hoj]
   simp only[Option.bind_some,hdj,htm,hv]
   cases v<;>rfl
  have hsl:=hI.F.slot t ht
  change SR gh s.H.length nt w s.T s.gen (tmv a) t (tmv a t) (s.T t) at hsl
  unfold evVal at he
  rw[← hg] at he
  simp only at he
  split at he
  ·rename_i b hT
   rw[hT] at hsl
   have hv:=VR.inv_bool (CR.dropped (hsl:CR gh s.H.length w (.sl t) (tmv a t) (.bool b)))
   have hw:Region.wanted o (yielded ops a.tmps)=(b==want):=by
    simp only[Region.wanted,hog,hy _ hv]
    cases b<;>cases want<;>rfl
   rw[hw]
   cases hb:(b==want) with
   | true =>
    rw[hb] at he
    rw[if_pos rfl]
    exact .inl (hrun he)
   | false =>
    rw[hb] at he
    simp only[cond_false,Option.some.injEq,Prod.mk.injEq] at he
    rw[if_neg (by simp)]
    exact hskip he.2.symm he.1.symm
  ·rename_i hT
   rw[hT] at hsl
   have hv:=VR.inv_undef (CR.dropped (hsl:CR gh s.H.length w (.sl t) (tmv a t) (.tuple [])))
   have hw:Region.wanted o (yielded ops a.tmps)=false:=by
    simp only[Region.wanted,hog,hy _ hv]
    rfl
   rw[hw,if_neg (by simp)]
   simp only[Option.some.injEq,Prod.mk.injEq] at he
   exact hskip he.2.symm he.1.symm
  ·cases he
theorem ops_sound {cf:CallF} (hcf:CallsSound P G cf) {H0:AHeap} {gh0:Gh} {w0:World} {takes locals muts:List Nat} {ops:Array Oper} (hLl:∀ x,x∈locals→x∈L) (hLm:∀ x,x∈muts→x∈L) (Q:Exit→Act→World→Prop) :
  ∀ (l:List Oper) (is:List IOper) (s s' : AS) (gh:Gh) (w:World) (a:Act),Inv G base nt L H0 gh0 w0 s gh w a→compOpers P takes locals muts nt ops l=some is→evOps G cf false is s=some s' →
   (∀ a' gh' w',Inv G base nt L H0 gh0 w0 s' gh' w' a'→Q .normal a' w')→wpList P ops Q l a w
 | [],is,s,s',gh,w,a,hI,hc,he,hQ=>by
  simp only[compOpers,Option.some.injEq] at hc
  subst hc
  simp only[evOps,Option.some.injEq] at he
  subst he
  exact hQ a gh w hI
 | o :: l,is,s,s',gh,w,a,hI,hc,he,hQ=>by
  simp only[compOpers,Option.bind_eq_some_iff,Option.map_eq_some_iff] at hc
  obtain⟨io,hio,is',his,rfl⟩:=hc
  simp only[evOps,Option.bind_eq_some_iff,evOper_val,Option.map_eq_some_iff] at he
  obtain⟨s1,⟨⟨z,s2⟩,hz,rfl⟩,he⟩:=he
  unfold wpList
  refine oper_step hcf hI hio hLl hLm hz _ Q (fun a' gh' w' hI'=>?_)
  rw[(compOper_inv hio).2.2.1] at he
  exact ops_sound hcf hLl hLm Q l is' _ s' gh' w' a' hI' his he hQ
end
end Go.Abs
end
