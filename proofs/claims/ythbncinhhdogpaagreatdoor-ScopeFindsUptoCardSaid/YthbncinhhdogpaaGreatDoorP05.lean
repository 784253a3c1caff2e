/-
  A part of the proof of ScopeFinds: AbsEvOp, AbsRun, AbsDraw, AbsDraw2, AbsDraw3, AbsDraw4.
-/
import Derived.LoopN
import Derived.Scope
import Derived.Tactics
import Derived.Orders
import Derived.Test.YthbncinhhdogpaaGreatDoorP04
set_option linter.unusedSimpArgs false
set_option linter.unusedVariables false
set_option linter.defProp false
namespace Go.Abs
section
theorem uq(bJ:List Nat)(d:Option Nat)(g:ar)(ys:List ar):rj bJ d g ys=.call g ys\/∃ n pre x post,g=.fn n/\ys=pre++x :: post/\rj bJ d g ys=.ug n pre x post:=by
 unfold rj
 split
 ·rename_i n
  split
  ·rename_i k hk
   split
   ·rename_i x post hd
    exact .inr ⟨n,ys.take k,x,post,rfl,by rw[<- hd,List.take_append_drop],rfl⟩
   ·exact .inl rfl
  ·exact .inl rfl
 ·exact .inl rfl
section
variable {P:Program}{G:Nat->List AV}{base nt:Nat}{L:List Nat}{gh:Gh}{w w' : World}{a:Act}{s:AS}{H:ag}
theorem wM{locals:List Nat}{d:Option Nat}(h:isLocal locals d=true):∃ k,d=some k/\k∈locals:=by
 cases d with
 | none=>cases h
 | some k=>exact⟨k,rfl,by simpa [isLocal] using h⟩
theorem tM{l:List Nat}{d:Option Nat}(h:iV l d=true):∃ k,d=some k/\k∈l:=by
 cases d with
 | none=>cases h
 | some k=>exact⟨k,rfl,by simpa [iV] using h⟩
theorem Nw{k:lO}{V:Value}{e:List (List AV)}{z:AV}{t:TypeId}{ao:Option Addr}{cap:Nat}(hV:V=.slice ao e.length cap)(ht:match k with|.str=>P.underlying t=some .string|.sl=>∃ e,P.underlying t=some (.slice e)|.arr m=>∃ e,P.underlying t=some (.array m e))
  (he:kJ k (.slice e false)=some z) (ty:TypeId) {n:Nat} : ∃ v,(Builtin.len_ #[t] ty #[V]).run P w=.ok v w/\VR gh n w v z:=by
 subst hV
 cases k<;>simp only[kJ,apv,reduceCtorEq] at he<;>subst he
 ·obtain⟨e',ht⟩:=ht
  exact⟨.int .i64 e.length,by simp[Builtin.len_,run_underlying ht,goInt],.plain _ _ (.int _ _)⟩
 ·obtain⟨e',ht⟩:=ht
  exact⟨.int .i64 _,by simp[Builtin.len_,run_underlying ht,goInt],.plain _ _ (.int _ _)⟩
theorem Zu(hW:aM G base s.H gh w)(hF:FR L nt gh w a s){o:Oper}{c:Call}{x y:Operand}{ix iy:ar}{mx:Bool}{z:AV}(ho:o.op=.call c)(gx:c.callee=.builtin (cond mx .max .min))(dF:c.args.toList=[x,y])
  (hx:ak nt x=some ix) (hy:ak nt y=some iy) (he:Ta mx (ix.eval G s.T) (iy.eval G s.T)=some z):∃ v,(execOp a.eval o).run P w=.ok (.value v) w/\mA gh s.H.length nt w s.T s.gen (fB a) v z:=by
 generalize hX:ix.eval G s.T=X at he
 generalize hY:iy.eval G s.T=Y at he
 unfold Ta at he
 split at he
 ·obtain⟨h0,he⟩:=ab he
  injection he with he
  subst he
  have h1:=(cc hW hF hx hX rfl).jR
  have h2:=(cc hW hF hy hY rfl).jR
  have e1:c.args=#[x,y]:=by apply arF;simpa using dF
  cases mx
  ·refine⟨_,?_,.cK (.plain _ _ (.int _ _))⟩
   unfold execOp
   simp only[ho,resolve,gx,e1,invoke,builtin,Sem.run_bind,Sem.run_pure,Result.andThen_ok,arG,apZ,aqe,apE,h1,h2,Builtin.min_,Builtin.min2,List.foldlM_cons,List.foldlM_nil]
  ·refine⟨_,?_,.cK (.plain _ _ (.int _ _))⟩
   unfold execOp
   simp only[ho,resolve,gx,e1,invoke,builtin,Sem.run_bind,Sem.run_pure,Result.andThen_ok,arG,apZ,aqe,cond_true,h1,h2,Builtin.max_,Builtin.max2,List.foldlM_cons,List.foldlM_nil]
 ·cases he
theorem Xs{m:Nat}{V:Value}{t e:TypeId}(ht:P.underlying t=some (.array m e))(ty:TypeId){n:Nat} : ∃ v,(Builtin.len_ #[t] ty #[V]).run P w=.ok v w/\VR gh n w v (.int .i64 m) :=
 ⟨.int .i64 _,by simp[Builtin.len_,run_underlying ht,goInt],.plain _ _ (.int _ _)⟩
theorem I1(hW:aM G base s.H gh w)(hF:FR L nt gh w a s){o:Oper}{c:Call}{x:Operand}{t:TypeId}{y:ar}{k:lO}{z:AV}{s' : Option AS}{cf:cA}
  (ho:o.op=.call c) (gx:c.callee=.builtin .len) (dF:c.args.toList=[x]) (jy:c.argTypes.toList=[t]) (hc:ak nt x=some y)
  (ht:match k with|.str=>P.underlying t=some .string|.sl=>∃ e,P.underlying t=some (.slice e)|.arr m=>∃ e,P.underlying t=some (.array m e))
  (he:au G cf s (.len k y)=some (z,s')):s'=none/\∃ v,(execOp a.eval o).run P w=.ok (.value v) w/\mA gh s.H.length nt w s.T s.gen (fB a) v z:=by
 simp only[au] at he
 have fin:∀ {zz:AV},(∃ v,(Builtin.len_ #[t] o.type #[a.eval x]).run P w=.ok v w/\VR gh s.H.length w v zz)->∃ v,(execOp a.eval o).run P w=.ok (.value v) w/\mA gh s.H.length nt w s.T s.gen (fB a) v zz :=
  fun ⟨v,h1,h2⟩=>⟨v,u4 ho gx dF jy h1,.cK h2⟩
 split at he
 ·rename_i tt g hy
  split at he
  ·rename_i g' e hT
   obtain⟨h0,he⟩:=ab he
   have DX:g=g':=by simpa [dX] using h0
   simp only[apt,apx] at he
   obtain⟨z',hz,rfl,rfl⟩:=he
   refine⟨rfl,fin ?_⟩
   have hv:=arg_val hW hF hc
   rw[hy] at hv
   obtain⟨hb,_,hr⟩:=(hv:_/\_/\_)
   have mC:=hr (by rw[hT,<- DX];rfl)
   obtain⟨ad,cap,hV,_⟩:=n4 hF hb hT
   exact Nw (mC.trans hV) ht hz o.type
  ·cases he
 ·simp only[apt,apx] at he
  obtain⟨z',hz,rfl,rfl⟩:=he
  refine⟨rfl,fin ?_⟩
  cases k with
  | arr m =>
   obtain⟨e,ht⟩:=ht
   simp only[kJ,apv] at hz
   subst hz
   exact Xs ht o.type
  | _ =>
   have C1:aq (y.addr G s.T)=true:=by
    generalize y.addr G s.T=Y at hz
    cases Y<;>first|rfl|(simp[kJ] at hz)
   exact U1 (mV hW hF hc rfl C1) ht hz o.type
theorem ye{cf:cA}(iI:cU P G cf)(hW:aM G base s.H gh w)(hF:FR L nt gh w a s){bJ locals muts:List Nat}{o:Oper}{io:fq}(bn:cL P bJ locals muts nt o.dst o.op=some io)
  (vg:∀ x,x∈locals->x∈L) (vh:∀ x,x∈muts->x∈L) {z:AV} {s' : Option AS} (he:au G cf s io=some (z,s')) (hd:∀ k,o.dst=some k->k<nt) (K:Act->World->Prop) (Q:Exit->Act->World->Prop)
  (hK:∀ v' aK w',Out G base nt L gh w a s o.dst z (s'.getD s) v' aK w'->K (a.put o.dst v') w'):o.wp P a w K Q:=by
 have fin:s'=none->(∃ v,(execOp a.eval o).run P w=.ok (.value v) w/\mA gh s.H.length nt w s.T s.gen (fB a) v z)->o.wp P a w K Q:=by
  rintro rfl ⟨v,h1,h2⟩
  exact sP.wp (.inl h1) (hK v gh w (Out.pure hW hF hd h2))
 have mW:(∃ v' aK w',sP P a o w v' w'/\Out G base nt L gh w a s o.dst z (s'.getD s) v' aK w')->o.wp P a w K Q:=by
  rintro ⟨v',aK,w',h1,h2⟩
  exact sP.wp h1 (hK v' aK w' h2)
 have agA:∀ x y,(o.op=.move x\/o.op=.assign x)->ak nt x=some y->io=.mov (iV bJ o.dst) (iV muts o.dst) (cond (iV muts o.dst) (Dl y) y)->o.wp P a w K Q:=by
  intro x y ho hc ly
  subst ly
  simp only[au] at he
  by_cases M9:∃ v,y=.cr v/\iV muts o.dst=true
  ·obtain⟨v,rfl,hm⟩:=M9
   rw[hm] at he
   simp only[cond_true,Dl,lu,apv,apx,ar.eval] at he
   obtain⟨rfl,rfl⟩:=he
   refine fin rfl ⟨a.eval x,?_,.cK ?_⟩
   ·rcases ho with ho|ho<;>simp[execOp,ho]
   ·cases x with
    | tmp k =>
     simp only[ak] at hc
     rcases aql (Nat.blt k nt) with hb|hb<;>rw[hb] at hc<;>simp at hc
    | const u =>
     simp only[ak,apt] at hc
     obtain⟨zz,hz,h⟩:=hc
     injection h with h
     subst h
     exact Ck hz
    | global g=>simp[ak] at hc
    | func f=>simp[ak] at hc
  have qP:cond (iV muts o.dst) (Dl y) y=y:=by
   cases hm:iV muts o.dst with
   | false=>rfl
   | true=>cases y<;>first|rfl|exact absurd ⟨_,rfl,hm⟩ M9
  rw[qP] at he
  cases s' with
  | none =>
   refine fin rfl ⟨a.eval x,?_,aaN hW hF hc he⟩
   rcases ho with ho|ho<;>simp[execOp,ho]
  | some s' =>
   refine mW (CJ hW hF ho hc he hd (fun h k hk=>?_))
   obtain⟨k',h1,h2⟩:=tM h
   rw[h1] at hk;injection hk with hk;subst hk
   exact vh _ h2
 cases cD:o.op with
 | move x =>
  rw[cD] at bn
  simp only[cL,apt] at bn
  obtain⟨y,hc,rfl⟩:=bn
  exact agA x y (.inl cD) hc rfl
 | assign x =>
  rw[cD] at bn
  simp only[cL,apt] at bn
  obtain⟨y,hc,rfl⟩:=bn
  exact agA x y (.inr cD) hc rfl
 | pick c x y =>
  rw[cD] at bn
  simp only[cL,apu,apt] at bn
  obtain⟨ic,hc,ix,hx,iy,hy,rfl⟩:=bn
  simp only[au] at he
  split at he
  ·rename_i t ht
   simp only[apv,apx] at he
   obtain⟨rfl,rfl⟩:=he
   exact fin rfl (U7 hW hF cD hc hx hy ht)
  ·cases he
 | alloc t =>
  rw[cD] at bn
  simp only[cL,apu] at bn
  obtain⟨zz,hz,bn⟩:=bn
  cases hl:isLocal locals o.dst with
  | true =>
   rw[hl] at bn
   simp only[cond_true,apv] at bn
   subst bn
   simp only[au,apv,apx] at he
   obtain⟨rfl,rfl⟩:=he
   obtain⟨k,hk,Be⟩:=wM hl
   exact mW (MC hW hF cD hz (fun k' gm=>⟨hd k' gm,by rw[hk] at gm;injection gm with e;subst e;exact vg _ Be⟩))
  | false =>
   rw[hl] at bn
   simp only[apE,apv] at bn
   subst bn
   rcases aql (Gb 500000 muts o.dst) with hm|hm
   ·rw[hm] at he
    simp only[cond_true,au,apu] at he
    obtain⟨cs,fF,he⟩:=he
    obtain⟨h0,he⟩:=ab he
    simp only[apv,apx] at he
    obtain⟨rfl,rfl⟩:=he
    have Jy:cs=zz:=(aqi fF).symm
    subst Jy
    exact mW (MD hW hF cD hz hd)
   ·rw[hm] at he
    simp only[apE,au,apv,apx] at he
    obtain⟨rfl,rfl⟩:=he
    exact mW (MB hW hF cD hz hd)
 | box t x =>
  rw[cD] at bn
  simp only[cL,apt] at bn
  obtain⟨y,hc,rfl⟩:=bn
  cases hl:isLocal locals o.dst with
  | true =>
   rw[hl] at he
   simp only[cond_true,au,apt,apx] at he
   obtain⟨cs,fF,rfl,rfl⟩:=he
   obtain⟨k,hk,Be⟩:=wM hl
   exact mW (UX hW hF cD hc fF (fun k' gm=>⟨hd k' gm,by rw[hk] at gm;injection gm with e;subst e;exact vg _ Be⟩))
  | false =>
  rw[hl,apE] at he
  rcases aql (Gb 500000 muts o.dst) with hm|hm
  ·rw[hm] at he
   simp only[cond_true,au,apu] at he
   obtain⟨cs,fF,he⟩:=he
   obtain⟨h0,he⟩:=ab he
   simp only[apv,apx] at he
   obtain⟨rfl,rfl⟩:=he
   exact mW (UY hW hF cD hc fF hd)
  ·rw[hm] at he
   simp only[apE,au,apu] at he
   obtain⟨cs,fF,he⟩:=he
   obtain⟨h0,he⟩:=ab he
   simp only[apv,apx] at he
   obtain⟨rfl,rfl⟩:=he
   exact mW (aaL hW hF cD hc fF h0 hd)
 | build t parts =>
  rw[cD] at bn
  simp only[cL,apu] at bn
  obtain⟨zz,hz,bn⟩:=bn
  split at bn
  ·rename_i fs hu
   obtain⟨h0,bn⟩:=ab bn
   simp only[apt] at bn
   obtain⟨ps,hp,rfl⟩:=bn
   simp only[au,apt,apx] at he
   obtain⟨Z,hZ,rfl,rfl⟩:=he
   exact fin rfl (w7 hW hF cD hz hu hp (aqp.1 h0) hZ)
  ·rename_i n e hu
   simp only[apu,apt] at bn
   obtain⟨sz,hs,ps,hp,rfl⟩:=bn
   simp only[au,apt,apx] at he
   obtain⟨Z,hZ,rfl,rfl⟩:=he
   exact fin rfl (yg hW hF cD hz hu hs hp hZ)
  ·cases bn
 | buildSlice t len parts =>
  rw[cD] at bn
  simp only[cL] at bn
  split at bn
  ·rename_i e hu
   simp only[apu] at bn
   obtain⟨sz,hs,zz,hz,ps,hp,bn⟩:=bn
   obtain⟨h0,bn⟩:=ab bn
   injection bn with bn
   subst bn
   simp only[Bool.and_eq_true,Nat.ble_eq,dX,apS,ap0] at h0
   cases hl:isLocal locals o.dst with
   | true =>
    rw[hl] at he
    simp only[cond_true,au,apu] at he
    obtain⟨E,hE,he⟩:=he
    obtain⟨pa,he⟩:=ab he
    simp only[apv,apx] at he
    obtain⟨rfl,rfl⟩:=he
    exact mW (FX hW hF cD hu hs hz hp h0.1.1 h0.1.2 h0.2 pa hE hd)
   | false =>
   rw[hl] at he
   simp only[apE,au,apu] at he
   obtain⟨E,hE,he⟩:=he
   obtain⟨pa,he⟩:=ab he
   simp only[apv,apx] at he
   obtain⟨rfl,rfl⟩:=he
   exact mW (I3 hW hF cD hu hs hz hp pa (fun h=>aqw h) h0.1.1 h0.1.2 h0.2 hE hd)
  ·cases bn
 | load t x =>
  rw[cD] at bn
  simp only[cL,apu,apt] at bn
  obtain⟨y,hc,g,hg,sz,hs,rfl⟩:=bn
  simp only[au] at he
  cases s' with
  | none =>
   obtain⟨v,h1,h2⟩:=U2 (P:=P) hW hF hc hg hs he
   exact fin rfl ⟨v,by simp[execOp,cD,h1],h2⟩
  | some s'=>exact mW (CH hW hF cD hc hg hs he hd)
 | store t x y =>
  rw[cD] at bn
  simp only[cL,apu,apt] at bn
  obtain⟨ya,DW,yv,P5,sz,hs,bn⟩:=bn
  generalize Lv locals x=fl at bn
  cases fl with
  | false =>
   rw[apE] at bn
   subst bn
   simp only[au,apt,apx] at he
   obtain⟨s1,he,rfl,rfl⟩:=he
   exact mW (F0 hW hF cD DW P5 hs he hd)
  | true =>
   rw[cond_true] at bn
   subst bn
   simp only[au,apt,apx] at he
   obtain⟨s1,he,rfl,rfl⟩:=he
   exact mW (MI hW hF cD DW P5 hs he hd)
 | nilCheck x =>
  rw[cD] at bn
  simp only[cL,apt] at bn
  obtain⟨y,hc,rfl⟩:=bn
  simp only[au] at he
  obtain⟨h0,he⟩:=ab he
  simp only[apv,apx] at he
  obtain⟨rfl,rfl⟩:=he
  exact fin rfl (FY hW hF cD hc h0)
 | binOp op t x y u =>
  rw[cD] at bn
  simp only[cL,apu] at bn
  obtain⟨ix,hx,iy,hy,bn⟩:=bn
  split at bn
  ·rename_i neg hn
   injection bn with bn
   subst bn
   simp only[au,apt,apx] at he
   obtain⟨b,hb,rfl,rfl⟩:=he
   exact fin rfl (U6 hW hF cD hx hn hb)
  ·injection bn with bn
   subst bn
   simp only[au,apt,apx] at he
   obtain⟨z',hz,rfl,rfl⟩:=he
   exact fin rfl (aaK hW hF cD hx hy hz)
 | unOp op t x =>
  rw[cD] at bn
  simp only[cL,apt] at bn
  obtain⟨y,hc,rfl⟩:=bn
  simp only[au,apt,apx] at he
  obtain⟨z',hz,rfl,rfl⟩:=he
  exact fin rfl (afN hW hF cD hc hz)
 | convert st dt x =>
  rw[cD] at bn
  simp only[cL,apu] at bn
  obtain⟨y,hc,bn⟩:=bn
  split at bn
  ·rename_i k' k h1 h2
   injection bn with bn
   subst bn
   simp only[au,apt,apx] at he
   obtain⟨z',hz,rfl,rfl⟩:=he
   exact fin rfl (PD hW hF cD hc h1 h2 hz)
  ·rename_i h1 h2
   injection bn with bn
   subst bn
   simp only[au,apt,apx] at he
   obtain⟨z',hz,rfl,rfl⟩:=he
   exact fin rfl (I4 hW hF cD hc h1 h2 hz)
  ·rename_i e h1 h2
   split at bn
   ·rename_i hE
    injection bn with bn
    subst bn
    simp only[au,apt,apx] at he
    obtain⟨z',hz,rfl,rfl⟩:=he
    exact fin rfl (FV hW hF cD hc h1 hE h2 hz)
   ·cases bn
  ·cases bn
 | makeInterface t x =>
  rw[cD] at bn
  simp only[cL,apu] at bn
  obtain⟨y,hc,bn⟩:=bn
  split at bn
  ·cases bn
  ·rename_i d hn hu
   injection bn with bn
   subst bn
   simp only[au,apt,apx] at he
   obtain⟨z',hz,rfl,rfl⟩:=he
   exact fin rfl (I2 hW hF cD hc ⟨_,hu,fun m h=>hn m h⟩ hz)
  ·cases bn
 | makeFunc f first captured =>
  rw[cD] at bn
  simp only[cL,apu,apt] at bn
  obtain⟨fs,h1,cs,h2,rfl⟩:=bn
  simp only[au] at he
  obtain⟨h0,he⟩:=ab he
  simp only[apv,apx] at he
  obtain⟨rfl,rfl⟩:=he
  simp only[Bool.and_eq_true] at h0
  exact fin rfl (MG hW hF cD h1 h2 h0.1 h0.2)
 | slice t x lo hi mx =>
  rw[cD] at bn
  simp only[cL,apu] at bn
  obtain⟨ix,hc,Nh,h1,Bm,h2,Bn,h3,bn⟩:=bn
  split at bn
  ·rename_i hu
   injection bn with bn
   subst bn
   simp only[au,apt,apx] at he
   obtain⟨z',hz,rfl,rfl⟩:=he
   exact fin rfl (CM hW hF cD hc h1 h2 h3 hu hz)
  ·rename_i e hu
   simp only[apt] at bn
   obtain⟨sz,hs,rfl⟩:=bn
   simp only[au,apt,apx] at he
   obtain⟨z',hz,rfl,rfl⟩:=he
   exact fin rfl (FZ hW hF cD hc h1 h2 h3 hu hs hz)
  ·rename_i n e hu
   simp only[apu] at bn
   obtain⟨sz,hs,bn⟩:=bn
   obtain⟨h0,bn⟩:=ab bn
   injection bn with bn
   subst bn
   simp only[au,apt,apx] at he
   obtain⟨z',hz,rfl,rfl⟩:=he
   exact fin rfl (CL hW hF cD hc h1 h2 h3 hu hs (by simpa [ap0] using h0) hz)
  ·cases bn
 | fieldAddr t x f =>
  rw[cD] at bn
  simp only[cL,apu] at bn
  obtain⟨ix,hc,bn⟩:=bn
  split at bn
  ·rename_i fs hu
   simp only[apu] at bn
   obtain⟨q,hq,sz,hs,bn⟩:=bn
   obtain⟨h0,bn⟩:=ab bn
   injection bn with bn
   subst bn
   simp only[au] at he
   obtain⟨hl,he⟩:=ab he
   simp only[apt,apx] at he
   obtain⟨z',hz,rfl,rfl⟩:=he
   exact fin rfl (CG hW hF cD hc hu hq hs (by simpa [ap0] using h0) hl hz)
  ·cases bn
 | field t x f =>
  rw[cD] at bn
  simp only[cL,apu] at bn
  obtain⟨ix,hc,bn⟩:=bn
  split at bn
  ·rename_i fs hu
   simp only[apu,apt] at bn
   obtain⟨q,hq,sz,hs,g,hg,rfl⟩:=bn
   simp only[au] at he
   split at he
   ·rename_i cs hz
    simp only[apt,apx] at he
    obtain⟨z',hl,rfl,rfl⟩:=he
    exact fin rfl (Pw hW hF cD hc hu hq hs hg hz hl)
   ·cases he
  ·cases bn
 | indexAddr t x i =>
  rw[cD] at bn
  simp only[cL,apu] at bn
  obtain⟨ix,hc,ii,hi,bn⟩:=bn
  split at bn
  ·rename_i e hu
   simp only[apt] at bn
   obtain⟨sz,hs,rfl⟩:=bn
   simp only[au] at he
   split at he
   ·rename_i el own hy
    simp only[apu] at he
    obtain⟨k,hk,r,hr,he⟩:=he
    obtain⟨h0,he⟩:=ab he
    simp only[apv,apx] at he
    obtain⟨rfl,rfl⟩:=he
    exact fin rfl (U0 hW hF cD hc hi hu hs hk hy hr (by simpa [dX] using h0))
   ·rename_i l of m hy
    simp only[apu] at he
    obtain⟨k,hk,he⟩:=he
    obtain⟨h0,he⟩:=ab he
    simp only[apv,apx] at he
    obtain⟨rfl,rfl⟩:=he
    exact fin rfl (MF hW hF cD hc hi hu hs hk hy (by simpa [ap0] using h0))
   ·rename_i b g hy
    split at he
    ·rename_i g' el hT
     obtain⟨h0,he⟩:=ab he
     have DX:g=g':=by simpa [dX] using h0
     simp only[apu] at he
     obtain⟨k,hk,r,hr,he⟩:=he
     obtain⟨h0,he⟩:=ab he
     simp only[apv,apx] at he
     obtain⟨rfl,rfl⟩:=he
     exact fin rfl (Pz hW hF cD hc hi hu hs hk hy (by rw[hT,DX]) hr (by simpa [dX] using h0))
    ·cases he
   ·cases he
  ·rename_i n e hu
   simp only[apt] at bn
   obtain⟨sz,hs,rfl⟩:=bn
   simp only[au,apu] at he
   obtain⟨k,hk,he⟩:=he
   obtain⟨h0,he⟩:=ab he
   simp only[Bool.and_eq_true,ap0] at h0
   simp only[apt,apx] at he
   obtain⟨z',hz,rfl,rfl⟩:=he
   exact fin rfl (Py hW hF cD hc hi hu hs hk h0.1 h0.2 hz)
  ·cases bn
 | index t x i =>
  rw[cD] at bn
  simp only[cL,apu] at bn
  obtain⟨ix,hc,ii,hi,bn⟩:=bn
  split at bn
  ·rename_i hu
   injection bn with bn
   subst bn
   simp only[au] at he
   split at he
   ·rename_i l hz
    simp only[apu,apt,apx] at he
    obtain⟨k,hk,b,hb,rfl,rfl⟩:=he
    exact fin rfl (FW hW hF cD hc hi hu hk hz hb)
   ·cases he
  ·rename_i n e hu
   simp only[apu,apt] at bn
   obtain⟨sz,hs,g,hg,rfl⟩:=bn
   simp only[au,apu] at he
   obtain⟨k,hk,he⟩:=he
   obtain⟨h0,he⟩:=ab he
   split at he
   ·rename_i cs hz
    simp only[apt,apx] at he
    obtain⟨z',hl,rfl,rfl⟩:=he
    exact fin rfl (Px hW hF cD hc hi hu hs hg hk (by simpa [ap0] using h0) hz hl)
   ·cases he
  ·cases bn
 | extract x i =>
  rw[cD] at bn
  simp only[cL,apt] at bn
  obtain⟨y,hc,rfl⟩:=bn
  simp only[au] at he
  split at he
  ·rename_i vs hz
   simp only[apt,apx] at he
   obtain⟨z',Jy,rfl,rfl⟩:=he
   exact fin rfl (I0 hW hF cD hc hz Jy)
  ·cases he
 | call c =>
  rw[cD] at bn
  simp only[cL,uo] at bn
  split at bn
  ·rename_i fx gx
   simp only[apu,apt] at bn
   obtain⟨yf,mR,ys,wC,hgo⟩:=bn
   rcases uq bJ o.dst yf ys with hcg|⟨n,pre,x,post,hyf,Nf,hcg⟩
   ·rw[hcg] at hgo
    subst hgo
    simp only[au] at he
    split at he
    ·rename_i f fs cs abm
     obtain⟨h0,he⟩:=ab he
     simp only[apt,apx] at he
     obtain⟨⟨r,ch⟩,hr,rfl,rfl⟩:=he
     exact UZ iI hW hF cD gx mR wC abm h0 hr hd K Q hK
    ·cases he
   ·rw[hcg] at hgo
    subst hgo hyf Nf
    simp only[au] at he
    obtain⟨h0,he⟩:=ab he
    simp only[Bool.and_eq_true,apu,apt,apx] at h0 he
    obtain⟨⟨xv,s1⟩,hx,⟨r,ch⟩,hr,rfl,rfl⟩:=he
    have sQ:fx=.func n:=by
     cases fx<;>simp[ak] at mR
     ·rename_i t
      rcases aql (Nat.blt t nt) with hb|hb<;>rw[hb] at mR<;>simp at mR
     ·rw[mR]
    subst sQ
    exact Pu iI hW hF cD gx wC h0.1 h0.2 hx hr hd K Q hK
  ·rename_i gx
   split at bn
   ·rename_i x t dF jy
    simp only[apu] at bn
    obtain⟨y,hc,bn⟩:=bn
    split at bn
    ·rename_i hu
     injection bn with bn
     subst bn
     obtain⟨h1,h2⟩:=I1 (P:=P) hW hF cD gx dF jy hc (k:=.str) hu he
     exact fin h1 h2
    ·rename_i e hu
     injection bn with bn
     subst bn
     obtain⟨h1,h2⟩:=I1 (P:=P) hW hF cD gx dF jy hc (k:=.sl) ⟨_,hu⟩ he
     exact fin h1 h2
    ·rename_i n e hu
     injection bn with bn
     subst bn
     obtain⟨h1,h2⟩:=I1 (P:=P) hW hF cD gx dF jy hc (k:=.arr n) ⟨_,hu⟩ he
     exact fin h1 h2
    ·rename_i hu
     injection bn with bn
     subst bn
     obtain⟨h1,h2⟩:=U4 (P:=P) hW hF cD gx dF jy hc hu he
     exact fin h1 h2
    ·cases bn
   ·cases bn
  ·rename_i gx
   split at bn
   ·rename_i x y t u dF jy
    simp only[apu] at bn
    obtain⟨yx,mR,yy,wC,bn⟩:=bn
    have go:∀ e,P.underlying t=some (.slice e)->((∃ e',P.underlying u=some (.slice e'))\/P.underlying u=some .string) ->
      ((P.info? e).bind fun i=>cond (Nat.blt 0 i.size&&(i.zero.map fun z=>Nat.beq z.cells.size i.size).getD false) (some (cond (isLocal locals o.dst) (fq.appendO i.size i.bytes yx yy) (fq.append (Nat.beq e iS) (iV muts o.dst) i.size i.bytes yx yy))) none)=some io->o.wp P a w K Q:=by
     intro e ht hu bn
     simp only[apu] at bn
     obtain⟨i,hi,bn⟩:=bn
     obtain⟨h0,bn⟩:=ab bn
     injection bn with bn
     subst bn
     simp only[Bool.and_eq_true,ap0] at h0
     obtain⟨h0,h1⟩:=h0
     have hT:wc P t e i.size i.bytes:=by
      cases hz:i.zero with
      | none=>rw[hz] at h1;cases h1
      | some zv=>rw[hz] at h1;exact⟨ht,⟨i,zv,hi,hz,rfl,rfl,by simpa [dX] using h1⟩,h0⟩
     cases hob:isLocal locals o.dst with
     | true =>
      rw[hob] at he
      simp only[cond_true,au] at he
      exact mW (IZ hW hF cD gx dF jy hT hu mR wC he hd)
     | false =>
     rw[hob] at he
     simp only[apE,au] at he
     refine mW (ME hW hF cD gx dF jy hT (fun h=>aqw h) hu mR wC he hd (fun h k hk=>?_))
     obtain⟨k',h1,h2⟩:=tM h
     rw[h1] at hk;injection hk with hk;subst hk
     exact vh _ h2
    split at bn
    ·rename_i e e' ht hu
     exact go e ht (.inl ⟨_,hu⟩) bn
    ·rename_i e ht hu
     exact go e ht (.inr hu) bn
    ·cases bn
   ·cases bn
  ·rename_i gx
   split at bn
   ·rename_i x y t u dF jy
    simp only[apu] at bn
    obtain⟨ix,hx,iy,hy,bn⟩:=bn
    split at bn
    ·rename_i e e' ht hu
     simp only[apu] at bn
     obtain⟨sz,hs,bn⟩:=bn
     obtain⟨h0,bn⟩:=ab bn
     injection bn with bn
     subst bn
     simp only[dX,apS] at h0
     subst h0
     simp only[au] at he
     exact mW (Pv hW hF cD gx dF jy ht hs hx hy he hd)
    ·cases bn
   ·cases bn
  ·rename_i gx
   split at bn
   ·rename_i x y dF
    simp only[apu,apt] at bn
    obtain⟨ix,hx,iy,hy,rfl⟩:=bn
    simp only[au,apt,apx] at he
    obtain⟨z',hz,rfl,rfl⟩:=he
    exact fin rfl (Zu (mx:=true) hW hF cD gx dF hx hy hz)
   ·cases bn
  ·rename_i gx
   split at bn
   ·rename_i x y dF
    simp only[apu,apt] at bn
    obtain⟨ix,hx,iy,hy,rfl⟩:=bn
    simp only[au,apt,apx] at he
    obtain⟨z',hz,rfl,rfl⟩:=he
    exact fin rfl (Zu (mx:=false) hW hF cD gx dF hx hy hz)
   ·cases bn
  ·injection bn with bn
   subst bn
   simp only[au,ar.eval,zJ,Option.map_none] at he
   cases he
  ·cases bn
 | makeSlice t x y =>
  rw[cD] at bn
  simp only[cL,apu] at bn
  obtain⟨yx,mR,bn⟩:=bn
  obtain⟨K9,bn⟩:=ab bn
  split at bn
  ·rename_i e ht
   simp only[apu] at bn
   obtain⟨i,hi,zv,hz,zero,ZY,bn⟩:=bn
   obtain⟨h0,bn⟩:=ab bn
   injection bn with bn
   subst bn
   simp only[Bool.and_eq_true,ap0,dX,apS] at h0
   simp only[au] at he
   exact mW (PB hW hF cD K9 ht hi hz ZY h0.2 h0.1 mR he hd)
  ·cases bn
 | makeMap t r =>
  rw[cD] at bn
  cases r with
  | some r=>simp[cL] at bn
  | none =>
   simp only[cL,apt] at bn
   obtain⟨m,hm,rfl⟩:=bn
   simp only[au,apv,apx] at he
   obtain⟨rfl,rfl⟩:=he
   exact mW (PC hW hF cD hd _ _ _)
 | lookup t x i ok =>
  rw[cD] at bn
  simp only[cL,apu,apt] at bn
  obtain⟨ya,DW,yb,hcb,m,hm,rfl⟩:=bn
  obtain⟨kt,et,z,hT⟩:=uU hm
  cases hb:(!ok&&!m.2.2.1&&iV bJ o.dst) with
  | false =>
   rw[hb] at he
   simp only[apE,au] at he
   obtain⟨h1,h2⟩:=U3 hW hF hT cD DW hcb he
   exact fin h1 h2
  | true =>
   rw[hb] at he
   simp only[cond_true,au] at he
   simp only[Bool.and_eq_true,aqg] at hb
   obtain⟨⟨pa,hva⟩,_⟩:=hb
   subst pa
   rw[hva] at hT
   exact mW (PA hW hF hT cD DW hcb he hd)
 | mapUpdate t x i v =>
  rw[cD] at bn
  simp only[cL,apu,apt] at bn
  obtain⟨ya,DW,yb,hcb,yc,hcc,m,hm,rfl⟩:=bn
  obtain⟨kt,et,z,hT⟩:=uU hm
  simp only[au,apt,apx] at he
  obtain⟨s1,he,rfl,rfl⟩:=he
  exact mW (KO hW hF hT (.inl cD) DW hcb hcc he hd)
 | insert t x i v =>
  rw[cD] at bn
  simp only[cL,apu,apt] at bn
  obtain⟨ya,DW,yb,hcb,yc,hcc,m,hm,rfl⟩:=bn
  obtain⟨kt,et,z,hT⟩:=uU hm
  simp only[au,apt,apx] at he
  obtain⟨s1,he,rfl,rfl⟩:=he
  exact mW (KO hW hF hT (.inr cD) DW hcb hcc he hd)
 | range t x =>
  rw[cD] at bn
  simp only[cL] at bn
  obtain⟨h0,bn⟩:=ab bn
  simp only[apu,apt] at bn
  obtain⟨ya,DW,m,hm,rfl⟩:=bn
  obtain⟨kt,et,z,hT⟩:=uU hm
  obtain⟨k',h1,h2⟩:=tM h0
  exact mW (aaO hW hF cD DW hT.ht he (fun k hk=>⟨hd k hk,by rw[h1] at hk;injection hk with hk;subst hk;exact vh _ h2⟩))
 | next x b =>
  rw[cD] at bn
  cases b with
  | true=>simp[cL] at bn
  | false =>
   simp only[cL,apt] at bn
   obtain⟨ya,DW,rfl⟩:=bn
   simp[au] at he
 | entry x =>
  rw[cD] at bn
  simp only[cL,apt] at bn
  obtain⟨ya,DW,rfl⟩:=bn
  obtain⟨h1,h2⟩:=aaM hW hF cD DW he
  exact fin h1 h2
 | _=>rw[cD] at bn;simp[cL] at bn
end
end
section
structure dZ (H0:ag) (s:AS):Prop where
 lo:s.lo<=H0.length
 len:H0.length<=s.H.length
 same:∀ l,l<s.lo->s.H[l]?=H0[l]?
def xh(s:AS)(c:gk):Prop:=s.H.length<=c.heap.length/\∀ l,l<c.lo->c.heap[l]?=s.H[l]?
theorem dZ.fC{H0:ag}{s:AS}(h:dZ H0 s){c:gk}(hc:xh s c):dZ H0 (s.fC c):=by
 have e:(s.fC c).lo=if c.lo<s.lo then c.lo else s.lo:=by
  simp only[AS.fC]
  by_cases hb:c.lo<s.lo
  ·rw[if_pos hb,show Nat.blt c.lo s.lo=true by simpa [ap0] using hb];rfl
  ·rw[if_neg hb,show Nat.blt c.lo s.lo=false by simpa [<- arT,ap0] using hb];rfl
 have:=h.lo
 refine⟨?_,aqC h.len hc.1,fun l hl=>?_⟩
 ·rw[e];split<;>omega
 ·rw[e] at hl
  have h1:l<c.lo/\l<s.lo:=by split at hl<;>omega
  exact (hc.2 l h1.1).trans (h.same l h1.2)
theorem dZ.dY{H0:ag}{s s' : AS}(h:dZ H0 s)(hH:s'.H=s.H)(hl:s'.lo=s.lo):dZ H0 s' :=
 ⟨by rw[hl];exact h.lo,by rw[hH];exact h.len,fun l K3=>by rw[hH];exact h.same l (by rw[<- hl];exact K3)⟩
theorem l8(s:AS)(loc:Nat)(o:ct):xh s ⟨s.H.set loc o,loc⟩:=⟨by simp,fun l hl=>by simp only at hl ⊢;rw[ap1 (by omega)]⟩
theorem MV(s:AS)(loc:Nat)(hl:loc<s.H.length)(o:ct):xh s ⟨s.H.set loc .dead++[o],loc⟩:=⟨by simp,fun l K3=>by
 simp only at K3 ⊢
 rw[apN (by simp;omega),ap1 (by omega)]⟩
theorem kE(s:AS)(o:ct):xh s ⟨s.H++[o],s.H.length⟩:=⟨by simp,fun l hl=>by simp only at hl ⊢;rw[apN hl]⟩
theorem zH{H0:ag}{s s1:AS}{sz:Nat}{a v:AV}(he:gA s sz a v=some s1)(h:dZ H0 s):dZ H0 s1:=by
 have sT:∀ t X,dZ H0 (s.bu t X):=fun t X=>h.dY rfl rfl
 unfold gA at he
 split at he
 ·cases he
 obtain⟨_,he⟩:=ab he
 split at he
 ·split at he
  ·obtain⟨_,he⟩:=ab he
   injection he with he
   rw[<- he];exact h.fC (l8 s _ _)
  ·obtain⟨_,he⟩:=ab he
   injection he with he
   rw[<- he];exact h.fC (l8 s _ _)
  ·cases he
 ·split at he
  ·obtain⟨_,he⟩:=ab he
   injection he with he
   rw[<- he];exact sT _ _
  ·cases he
 ·split at he
  ·obtain⟨_,he⟩:=ab he
   simp only[apu] at he
   obtain⟨r,_,he⟩:=he
   obtain⟨_,he⟩:=ab he
   injection he with he
   rw[<- he];exact sT _ _
  ·cases he
 ·cases he
theorem KN{G:Nat->List AV}{cf:cA}(iI:∀ f args H r c,cf f args H=some (r,c)->jW H c){H0:ag}{s s' : AS}{o:fq}{z:AV}(he:au G cf s o=some (z,some s'))(h:dZ H0 s):dZ H0 s':=by
 have sT:∀ t X,dZ H0 (s.bu t X):=fun t X=>h.dY rfl rfl
 cases o with
 | mov take obj x =>
  cases x<;>simp only[au,lu] at he<;>try (cases he;done)
  split at he
  ·cases he
  ·cases take
   ·cases he
   ·cases obj
    ·simp only[cond_true,apE] at he
     obtain⟨_,he⟩:=ab he
     simp only[apv,apx] at he
     rw[<- he.2];exact sT _ _
    ·simp only[cond_true,apv,apx] at he
     rw[<- he.2];exact h.dY rfl rfl
  ·simp only[apv,apx] at he
   obtain⟨_,he⟩:=he
   obtain⟨_,he⟩:=ab he
   injection he with he
   rw[<- he];exact sT _ _
  ·cases he
  ·cases he
 | j6 c x=>simp only[au] at he;obtain⟨_,he⟩:=ab he;simp at he
 | same agg sz d x =>
  simp only[au] at he
  split at he
  ·obtain⟨_,he⟩:=ab he;simp at he
  ·cases he
 | boxL x =>
  simp only[au,apt,apx,apv] at he
  obtain⟨cs,_,_,rfl⟩:=he
  exact h.dY rfl rfl
 | allocL z0 =>
  simp only[au,apv,apx] at he
  rw[<- he.2];exact h.dY rfl rfl
 | tp ty z0 =>
  simp only[au,apv,apx] at he
  rw[<- he.2];exact h.fC (kE s _)
 | box ty x =>
  simp only[au,apu] at he
  obtain⟨cs,_,he⟩:=he
  obtain⟨_,he⟩:=ab he
  simp only[apv,apx] at he
  rw[<- he.2];exact h.fC (kE s _)
 | B5 x =>
  simp only[au,apu] at he
  obtain⟨cs,_,he⟩:=he
  obtain⟨_,he⟩:=ab he
  simp only[apv,apx] at he
  rw[<- he.2];exact h.fC (kE s _)
 | copyO x y =>
  simp only[au,qe] at he
  split at he
  ·split at he
   ·obtain⟨_,he⟩:=ab he
    simp only[apv,apx] at he
    rw[<- he.2];exact h.fC (l8 s _ _)
   ·cases he
  ·simp at he
  ·cases he
 | nilS=>simp[au] at he
 | load take agg sz x =>
  simp only[au,cQ] at he
  split at he
  ·simp at he
  ·split at he
   ·simp only[apt,apx] at he
    obtain⟨u,_,_,he⟩:=he
    obtain⟨_,he⟩:=ab he
    injection he with he
    rw[<- he];exact h.fC (l8 s _ _)
   ·simp at he
   ·simp at he
   ·cases he
  ·split at he
   ·obtain⟨_,he⟩:=ab he
    simp only[apt,apx] at he
    obtain⟨u,_,_,he⟩:=he
    obtain⟨_,he⟩:=ab he
    injection he with he
    rw[<- he];exact sT _ _
   ·cases he
  ·split at he
   ·obtain⟨_,he⟩:=ab he
    simp only[apu] at he
    obtain⟨r,_,he⟩:=he
    obtain⟨_,he⟩:=ab he
    simp at he
   ·cases he
  ·cases he
 | store sz x y =>
  simp only[au,apt,apx,apv] at he
  obtain⟨s1,he,_,rfl⟩:=he
  exact (zH he h).dY (gz _ _).1 (gz _ _).2.2
 | oY sz x y =>
  simp only[au,apt,apx,apv] at he
  obtain⟨s1,he,_,rfl⟩:=he
  have h0:dZ H0 (lf s (x.addr G s.T)):=by
   unfold lf
   split
   ·split
    ·rename_i ty cs hH
     cases hb:Nat.beq ty aL with
     | true=>exact h.fC (l8 s _ _)
     | false=>exact h
    ·exact h
   ·exact h
  exact (zH he h0).dY (gz _ _).1 (gz _ _).2.2
 | append isB wr sz bytes x y =>
  simp only[au,ft] at he
  split at he
  ·split at he
   ·simp only[apu] at he
    obtain⟨f,_,he⟩:=he
    obtain⟨_,he⟩:=ab he
    simp only[apv,apx] at he
    rw[<- he.2];exact h.dY rfl rfl
   ·cases wr
    ·simp only[apE,apt,apx,apv] at he
     obtain⟨_,_,_,rfl⟩:=he
     exact sT _ _
    ·simp only[cond_true,apu] at he
     obtain⟨f,_,he⟩:=he
     obtain⟨_,he⟩:=ab he
     simp only[apv,apx] at he
     rw[<- he.2];exact h.dY rfl rfl
   ·cases wr
    ·simp only[apE,apt,apx,apv] at he
     obtain⟨_,_,_,rfl⟩:=he
     exact h
    ·simp only[cond_true,apu] at he
     obtain⟨f,_,he⟩:=he
     obtain⟨_,he⟩:=ab he
     simp only[apv,apx] at he
     rw[<- he.2];exact h.dY rfl rfl
   ·cases he
  ·cases wr
   ·simp at he
   ·cases he
 | call f args =>
  simp only[au] at he
  split at he
  ·obtain⟨_,he⟩:=ab he
   simp only[apt,apx] at he
   obtain⟨⟨r,c⟩,hr,_,he⟩:=he
   simp only[apt] at he
   obtain⟨c',rfl,rfl⟩:=he
   obtain⟨h1,h2⟩:=iI _ _ _ _ _ hr
   exact h.fC ⟨by simp only[oV] at h1;omega,(h2 c' rfl).2⟩
  ·cases he
 | ug f pre x post =>
  simp only[au] at he
  obtain⟨_,he⟩:=ab he
  simp only[apu,apt,apx,apv] at he
  obtain⟨⟨xv,s1⟩,hx,⟨r,c⟩,hr,_,rfl⟩:=he
  have h1:dZ H0 s1/\s1.H=s.H:=by
   unfold A6 at hx
   split at hx
   ·split at hx
    ·simp only[apv,apx] at hx
     obtain⟨_,rfl⟩:=hx
     exact⟨sT _ _,rfl⟩
    ·cases hx
   ·split at hx
    ·simp only[apv,apx] at hx
     obtain⟨_,rfl⟩:=hx
     exact⟨h,rfl⟩
    ·cases hx
   ·cases hx
  obtain⟨k1,k2⟩:=iI _ _ _ _ _ hr
  cases c with
  | none=>exact h1.1
  | some c' =>
   refine h1.1.fC ⟨?_,?_⟩
   ·have:=h1.1.len;simp only[oV] at k1;rw[h1.2];omega
   ·rw[h1.2];exact (k2 c' rfl).2
 | pick=>simp only[au] at he;split at he<;>simp at he
 | build=>simp[au] at he
 | mkslice =>
  simp only[au,apu] at he
  obtain⟨_,_,he⟩:=he
  obtain⟨_,he⟩:=ab he
  simp at he
 | nilCheck=>simp only[au] at he;obtain⟨_,he⟩:=ab he;simp at he
 | bin=>simp[au] at he
 | un=>simp[au] at he
 | mm=>simp[au] at he
 | conv=>simp[au] at he
 | uW=>simp[au] at he
 | slice=>simp[au] at he
 | fieldAddr=>simp only[au] at he;obtain⟨_,he⟩:=ab he;simp at he
 | field=>simp only[au] at he;split at he<;>simp at he
 | ixSl =>
  simp only[au] at he
  split at he
  ·simp only[apu] at he
   obtain⟨_,_,_,_,he⟩:=he
   obtain⟨_,he⟩:=ab he
   simp at he
  ·simp only[apu] at he
   obtain⟨_,_,he⟩:=he
   obtain⟨_,he⟩:=ab he
   simp at he
  ·split at he
   ·obtain⟨_,he⟩:=ab he
    simp only[apu] at he
    obtain⟨_,_,_,_,he⟩:=he
    obtain⟨_,he⟩:=ab he
    simp at he
   ·cases he
  ·cases he
 | ixArr =>
  simp only[au,apu] at he
  obtain⟨_,_,he⟩:=he
  obtain⟨_,he⟩:=ab he
  simp at he
 | index =>
  simp only[au,apu] at he
  obtain⟨_,_,he⟩:=he
  obtain⟨_,he⟩:=ab he
  split at he<;>simp at he
 | indexStr =>
  simp only[au] at he
  split at he
  ·simp only[apu,apt,apx] at he
   obtain⟨_,_,_,_,_,he⟩:=he
   cases he
  ·cases he
 | extract=>simp only[au] at he;split at he<;>simp at he
 | len =>
  simp only[au] at he
  split at he
  ·split at he
   ·obtain⟨_,he⟩:=ab he
    simp at he
   ·cases he
  ·simp at he
 | mkfunc=>simp only[au] at he;obtain⟨_,he⟩:=ab he;simp at he
 | uf f xs =>
  simp only[au] at he
  split at he
  ·obtain⟨_,he⟩:=ab he
   simp only[apu] at he
   obtain⟨r,_,he⟩:=he
   split at he<;>simp at he
  ·cases he
 | appendO sz bytes x y =>
  simp only[au,iF] at he
  split at he
  ·simp at he
  simp only[ik,apu] at he
  obtain⟨f,_,he⟩:=he
  split at he
  ·obtain⟨_,he⟩:=ab he
   simp only[apv,apx] at he
   rw[<- he.2];exact h.fC (kE s _)
  ·obtain⟨_,he⟩:=ab he
   simp only[apv,apx] at he
   rw[<- he.2];exact h.fC (kE s _)
  ·split at he
   ·rename_i hH
    obtain⟨_,he⟩:=ab he
    simp only[apv,apx] at he
    rw[<- he.2];exact h.fC (MV s _ (apw.1 hH).1 _)
   ·cases he
  ·cases he
 | mf sz zs ps =>
  simp only[au,apu] at he
  obtain⟨f,_,he⟩:=he
  obtain⟨_,he⟩:=ab he
  simp only[apv,apx] at he
  rw[<- he.2];exact h.fC (kE s _)
 | y9 sz bytes zero n =>
  simp only[au,qf,apu] at he
  obtain⟨f,_,he⟩:=he
  obtain⟨_,he⟩:=ab he
  simp only[apv,apx] at he
  rw[<- he.2];exact h.fC (kE s _)
 | uX kz ka va =>
  simp only[au,apv,apx] at he
  rw[<- he.2];exact h.fC (kE s _)
 | look ok kz ka va ks zero m k =>
  simp only[au,tA,apu] at he
  obtain⟨_,_,he⟩:=he
  obtain⟨_,he⟩:=ab he
  split at he
  ·simp at he
  ·obtain⟨_,he⟩:=ab he
   simp at he
  ·simp only[apu,apt,apx,reduceCtorEq,ar8,arO] at he
 | GW kz ka ks zero m k =>
  simp only[au,sm] at he
  split at he
  ·split at he
   ·simp only[apu] at he
    obtain⟨_,_,he⟩:=he
    obtain⟨_,he⟩:=ab he
    simp only[apu] at he
    obtain⟨o,_,he⟩:=he
    cases o with
    | none=>simp at he
    | some i =>
     simp only[apt,apx,apv] at he
     obtain⟨_,_,_,he⟩:=he
     rw[<- he];exact h.fC (l8 s _ _)
   ·cases he
  ·cases he
 | xe kz ka va vz ks m k v =>
  simp only[au,apt,apx,apv] at he
  obtain⟨s1,he,_,rfl⟩:=he
  have h1:dZ H0 s1:=by
   unfold nK at he
   split at he
   ·split at he
    ·simp only[apu] at he
     obtain⟨_,_,_,_,he⟩:=he
     obtain⟨_,he⟩:=ab he
     simp only[apt] at he
     obtain⟨_,_,he⟩:=he
     rw[<- he];exact h.fC (l8 s _ _)
    ·cases he
   ·cases he
  exact h1.dY (gz _ _).1 (gz _ _).2.2
 | NB m =>
  simp only[au] at he
  split at he
  ·simp at he
  ·simp at he
  ·split at he
   ·simp at he
   ·simp at he
   ·cases he
  ·cases he
 | rng kz ka va m =>
  simp only[au] at he
  split at he
  ·simp only[apv,apx] at he
   rw[<- he.2];exact h.dY rfl rfl
  ·obtain⟨_,he⟩:=ab he
   simp only[apv,apx] at he
   rw[<- he.2];exact h.dY rfl rfl
  ·obtain⟨_,he⟩:=ab he
   simp only[apv,apx] at he
   rw[<- he.2];exact h.dY rfl rfl
  ·split at he
   ·obtain⟨_,he⟩:=ab he
    simp only[apv,apx] at he
    rw[<- he.2]
    exact (h.fC (l8 s _ _)).dY rfl rfl
   ·cases he
  ·cases he
 | next it=>simp[au] at he
 | UW it =>
  simp only[au] at he
  split at he
  ·split at he
   ·obtain⟨_,he⟩:=ab he
    simp at he
   ·cases he
  ·cases he
section
variable {P:Program}{G:Nat->List AV}{base nt:Nat}{L:List Nat}{gh:Gh}{w w' : World}{a:Act}{s:AS}{H:ag}
structure Inv (G:Nat->List AV) (base nt:Nat) (L:List Nat) (H0:ag) (gC:Gh) (w0:World) (s:AS) (gh:Gh) (w:World) (a:Act):Prop where
 W:aM G base s.H gh w
 F:FR L nt gh w a s
 E:Ext H0.length gC w0 gh w
 lo:dZ H0 s
theorem Inv.out{H0:ag}{gC aK:Gh}{w0 w' : World}{d:Option Nat}{x:AV}{s' : AS}{v' : Value}(h:Inv G base nt L H0 gC w0 s gh w a)(hO:Out G base nt L gh w a s d x s' v' aK w')(hl:dZ H0 s') :
  Inv G base nt L H0 gC w0 (s'.bR d x) aK w' (a.put d v') :=
 ⟨by rw[(gS s' d x).1];exact hO.W,hO.F,h.E.trans hO.E h.lo.len,hl.dY (gS s' d x).1 (gS s' d x).2.2⟩
def kD(G:Nat->List AV)(cf:cA)(draw:Bool)(s:AS)(o:aj):Option (AV × AS) :=
 let run:Option (AV × AS):=(au G cf s o.op).bind fun r=>match r.2 with
  | none=>cond (draw&&(aP r.1).isSome) none (some (r.1,s))
  | some s'=>cond draw none (some (r.1,s'))
 match o.guard with
 | none=>run
 | some (g,want)=>match s.T g with
  | .bool b=>cond (b==want) run (some (.undef,s))
  | .tuple []=>some (.undef,s)
  | _=>none
theorem nL{G:Nat->List AV}{cf:cA}{draw:Bool}{s:AS}{o:aj} : bA G cf draw s o=(kD G cf draw s o).map fun r=>r.2.bR o.dst r.1:=by
 have cE:((au G cf s o.op).bind fun r=>match r.2 with
   | none=>cond (draw&&(aP r.1).isSome) none (some (s.bR o.dst r.1))
   | some s'=>cond draw none (some (s'.bR o.dst r.1))) =
  ((au G cf s o.op).bind fun r=>match r.2 with
   | none=>cond (draw&&(aP r.1).isSome) none (some (r.1,s))
   | some s'=>cond draw none (some (r.1,s'))).map fun r=>r.2.bR o.dst r.1:=by
  cases au G cf s o.op with
  | none=>rfl
  | some r =>
   obtain⟨z,s'⟩:=r
   cases s' with
   | none=>simp only[apB];cases (draw&&(aP z).isSome)<;>rfl
   | some s'=>cases draw<;>rfl
 unfold bA kD
 simp only
 cases o.guard with
 | none=>exact cE
 | some g =>
  obtain⟨g,want⟩:=g
  simp only
  generalize s.T g=X
  cases X with
  | bool b =>
   simp only
   cases (b==want)
   ·rfl
   ·exact cE
  | tuple vs=>cases vs<;>rfl
  | _=>rfl
theorem gX{bJ locals muts:List Nat}{ops:Array Oper}{o:Oper}{io:aj}(h:rk P bJ locals muts nt ops o=some io) :
  cL P bJ locals muts nt o.dst o.op=some io.op/\pk nt ops o.guard=some io.guard/\io.dst=o.dst/\∀ k,o.dst=some k->k<nt:=by
 simp only[rk,apu] at h
 obtain⟨p,hp,g,hg,h⟩:=h
 split at h
 ·rename_i hd
  injection h with h
  subst h
  exact⟨hp,hg,hd.symm,fun k hk=>by rw[hd] at hk;cases hk⟩
 ·rename_i d hd
  obtain⟨h0,h⟩:=ab h
  injection h with h
  subst h
  exact⟨hp,hg,hd.symm,fun k hk=>by rw[hd] at hk;injection hk with hk;subst hk;simpa [ap0] using h0⟩
theorem kK{cf:cA}(iI:cU P G cf){H0:ag}{gC:Gh}{w0:World}(hI:Inv G base nt L H0 gC w0 s gh w a){bJ locals muts:List Nat}{ops:Array Oper}{o:Oper}{io:aj}
  (hc:rk P bJ locals muts nt ops o=some io) (vg:∀ x,x∈locals->x∈L) (vh:∀ x,x∈muts->x∈L) {draw:Bool} {z:AV} {s1:AS} (he:kD G cf draw s io=some (z,s1)) (K:Act->World->Prop) (Q:Exit->Act->World->Prop)
  (hK:∀ a' aK w',Inv G base nt L H0 gC w0 (s1.bR o.dst z) aK w' a'->K a' w') :
  if Region.wanted o (yielded ops a.tmps) then o.wp P a w K Q\/(o.asks P a w/\LetsOut Q) else K (a.put o.dst undef) w:=by
 obtain⟨cD,hg,M3,hd⟩:=gX hc
 have ZT:s1=s->z=.undef->K (a.put o.dst undef) w:=by
  rintro rfl rfl
  exact hK _ gh w (hI.out (Out.pure hI.W hI.F hd (.cK .undef)) hI.lo)
 have cE:((au G cf s io.op).bind fun r=>match r.2 with
   | none=>cond (draw&&(aP r.1).isSome) none (some (r.1,s))
   | some s'=>cond draw none (some (r.1,s')))=some (z,s1)->o.wp P a w K Q:=by
  intro h
  simp only[apu] at h
  obtain⟨⟨z',s'⟩,bf,h⟩:=h
  cases s' with
  | none =>
   simp only at h
   have h' : z'=z/\s=s1:=by
    cases hb:(draw&&(aP z').isSome) with
    | true=>rw[hb] at h;cases h
    | false=>rw[hb] at h;simpa using h
   obtain⟨rfl,rfl⟩:=h'
   exact ye iI hI.W hI.F cD vg vh bf hd K Q (fun v' aK w' hO=>hK _ aK w' (hI.out hO hI.lo))
  | some s' =>
   simp only at h
   have h' : z'=z/\s'=s1:=by
    cases draw with
    | true=>cases h
    | false=>simpa using h
   obtain⟨rfl,rfl⟩:=h'
   exact ye iI hI.W hI.F cD vg vh bf hd K Q (fun v' aK w' hO=>hK _ aK w' (hI.out hO (KN (fun f args H r c h=>(iI f args H r c h).2.1) bf hI.lo)))
 cases hog:o.guard with
 | none =>
  rw[hog] at hg
  simp only[pk,apv] at hg
  have hw:Region.wanted o (yielded ops a.tmps)=true:=by simp[Region.wanted,hog]
  rw[if_pos hw]
  unfold kD at he
  rw[<- hg] at he
  exact .inl (cE he)
 | some jw =>
  obtain⟨j,want⟩:=jw
  rw[hog] at hg
  simp only[pk,apu] at hg
  obtain⟨t,⟨oj,hoj,Ol⟩,hg⟩:=hg
  obtain⟨aU,hg⟩:=ab hg
  injection hg with hg
  have ht:t<nt:=by simpa [ap0] using aU
  have htm:a.tmps[t]?=some (fB a t):=by
   have:t<a.tmps.size:=by rw[hI.F.size];exact ht
   simp[fB,this]
  have hy:∀ v,fB a t=v->yielded ops a.tmps j=match v with|.bool b=>some b|_=>none:=by
   intro v hv
   unfold yielded
   rw[hoj]
   simp only[apB,Ol,htm,hv]
   cases v<;>rfl
  have pP:=hI.F.slot t ht
  change SR gh s.H.length nt w s.T s.gen (fB a) t (fB a t) (s.T t) at pP
  unfold kD at he
  rw[<- hg] at he
  simp only at he
  split at he
  ·rename_i b hT
   rw[hT] at pP
   have hv:=VR.jz (CR.dropped (pP:CR gh s.H.length w (.sl t) (fB a t) (.bool b)))
   have hw:Region.wanted o (yielded ops a.tmps)=(b==want):=by
    simp only[Region.wanted,hog,hy _ hv]
    cases b<;>cases want<;>rfl
   rw[hw]
   cases hb:(b==want) with
   | true =>
    rw[hb] at he
    rw[if_pos rfl]
    exact .inl (cE he)
   | false =>
    rw[hb] at he
    simp only[apE,apv,apx] at he
    rw[if_neg (by simp)]
    exact ZT he.2.symm he.1.symm
  ·rename_i hT
   rw[hT] at pP
   have hv:=VR.Nl (CR.dropped (pP:CR gh s.H.length w (.sl t) (fB a t) (.tuple [])))
   have hw:Region.wanted o (yielded ops a.tmps)=false:=by
    simp only[Region.wanted,hog,hy _ hv]
    rfl
   rw[hw,if_neg (by simp)]
   simp only[apv,apx] at he
   exact ZT he.2.symm he.1.symm
  ·cases he
theorem BA{cf:cA}(iI:cU P G cf){H0:ag}{gC:Gh}{w0:World}{bJ locals muts:List Nat}{ops:Array Oper}(vg:∀ x,x∈locals->x∈L)(vh:∀ x,x∈muts->x∈L)(Q:Exit->Act->World->Prop) :
  ∀ (l:List Oper) (is:List aj) (s s' : AS) (gh:Gh) (w:World) (a:Act),Inv G base nt L H0 gC w0 s gh w a->fL P bJ locals muts nt ops l=some is->bP G cf false is s=some s' ->
   (∀ a' aK w',Inv G base nt L H0 gC w0 s' aK w' a'->Q .normal a' w')->wpList P ops Q l a w
 | [],is,s,s',gh,w,a,hI,hc,he,hQ=>by
  simp only[fL,apv] at hc
  subst hc
  simp only[bP,apv] at he
  subst he
  exact hQ a gh w hI
 | o :: l,is,s,s',gh,w,a,hI,hc,he,hQ=>by
  simp only[fL,apu,apt] at hc
  obtain⟨io,ly,is',DY,rfl⟩:=hc
  simp only[bP,apu,nL,apt] at he
  obtain⟨s1,⟨⟨z,s2⟩,hz,rfl⟩,he⟩:=he
  unfold wpList
  refine kK iI hI ly vg vh hz _ Q (fun a' aK w' iT=>?_)
  rw[(gX ly).2.2.1] at he
  exact BA iI vg vh Q l is' _ s' aK w' a' iT DY he hQ
end
end
section
structure qS (s s' : AS) (ts:List Nat):Prop where
 H:s.H=s'.H
 T:∀ t,t∈ts->s.T t=s'.T t
 B:∀ b,s.T b=s'.T b\/aP (s.T b)=none
section
variable {G:Nat->List AV}{cf:cA}{s s' : AS}{ts:List Nat}
theorem qS.eval(h:qS s s' ts){y:ar}(hy:∀ t,t∈y.tmps->t∈ts):y.eval G s'.T=y.eval G s.T:=by
 cases y<;>try rfl
 rename_i t
 exact (h.T t (hy t (by simp[ar.tmps]))).symm
theorem qS.addr(h:qS s s' ts){y:ar}(hy:∀ t,t∈y.tmps->t∈ts):y.addr G s'.T=y.addr G s.T:=by
 cases y<;>try rfl
 rename_i t
 simp only[ar.addr]
 rw[h.T t (hy t (by simp[ar.tmps]))]
theorem qS.box(h:qS s s' ts)(b:Nat){g:Nat}{cs:List AV}(hb:s.T b=.lbox g cs):s'.T b=.lbox g cs:=by
 rcases h.B b with h|h
 ·rw[<- h,hb]
 ·rw[hb] at h;cases h
theorem qS.row(h:qS s s' ts)(b:Nat){g:Nat}{e:List (List AV)}(hb:s.T b=.lsl g e):s'.T b=.lsl g e:=by
 rcases h.B b with h|h
 ·rw[<- h,hb]
 ·rw[hb] at h;cases h
theorem qS.live(h:qS s s' ts){A:AV}(hl:cg s A=true):cg s' A=true:=by
 cases A<;>simp only[cg] at hl ⊢<;>try (cases hl;done)
 ·split at hl
  ·rename_i hT;rw[h.box _ hT];exact hl
  ·cases hl
 ·split at hl
  ·rename_i hT;rw[h.row _ hT];exact hl
  ·cases hl
theorem qS.load(h:qS s s' ts){take agg:Bool}{sz:Nat}{A z:AV}(he:cQ s take agg sz A=some (z,none)):cQ s' take agg sz A=some (z,none):=by
 have key:∀ {X:Option AV} {x y:AS},X.map (fun v=>(v,cond (take&&!agg) (some x) none))=some (z,none)->X.map (fun v=>(v,cond (take&&!agg) (some y) none))=some (z,none):=by
  intro X x y hX
  cases X with
  | none=>cases hX
  | some v=>cases hb:(take&&!agg)<;>simp_all
 cases A<;>simp only[cQ] at he ⊢<;>try (cases he;done)
 ·exact he
 ·rw[<- h.H]
  split at he
  ·exact key he
  ·exact he
  ·exact he
  ·cases he
 ·split at he
  ·rename_i hT
   rw[h.box _ hT]
   obtain⟨h0,he⟩:=ab he
   simp only[h0,cond_true]
   exact key he
  ·cases he
 ·split at he
  ·rename_i hT
   rw[h.row _ hT]
   exact he
  ·cases he
theorem qS.mov(h:qS s s' ts){take obj:Bool}{y:ar}{z:AV}(hy:∀ t,t∈y.tmps->t∈ts)(he:lu G s take obj y=some (z,none)):lu G s' take obj y=some (z,none):=by
 cases y with
 | tmp t =>
  have e:=h.T t (hy t (by simp[ar.tmps]))
  simp only[lu] at he ⊢
  rw[<- e]
  generalize s.T t=X at he ⊢
  cases X<;>try exact he
  ·rename_i el own
   cases take<;>cases own<;>simp_all
  ·cases take
   ·exact he
   ·cases obj
    ·simp only[cond_true,apE] at he
     obtain⟨_,he⟩:=ab he
     simp at he
    ·simp at he
 | _=>exact he
theorem IW(h:qS s s' ts){op:fq}(ht:∀ t,t∈op.tmps->t∈ts){z:AV}(he:au G cf s op=some (z,none)):au G cf s' op=some (z,none):=by
 cases op with
 | mov take obj x=>exact h.mov ht he
 | pick c x y =>
  have h1:=h.eval (G:=G) (y:=c) (fun t hm=>ht t (by simp[fq.tmps,hm]))
  have h2:=h.addr (G:=G) (y:=x) (fun t hm=>ht t (by simp[fq.tmps,hm]))
  have h3:=h.addr (G:=G) (y:=y) (fun t hm=>ht t (by simp[fq.tmps,hm]))
  simp only[au] at he ⊢
  rw[h1,h2,h3]
  exact he
 | j6 c x =>
  have h1:=h.addr (G:=G) (y:=x) (fun t hm=>ht t (by simp[fq.tmps,hm]))
  simp only[au] at he ⊢
  rw[h1];exact he
 | same agg sz d x =>
  have h1:=h.addr (G:=G) (y:=x) (fun t hm=>ht t (by simp[fq.tmps,hm]))
  have h2:=h.eval (G:=G) (y:=.tmp d) (fun t hm=>ht t (by simp only[ar.tmps,apI] at hm;subst hm;simp[fq.tmps]))
  simp only[ar.eval] at h2
  simp only[au] at he ⊢
  rw[h1,h2]
  split at he
  ·rename_i v hl
   rw[h.load hl];exact he
  ·cases he
 | boxL x=>simp[au] at he
 | allocL z0=>simp[au] at he
 | tp ty z0=>simp[au] at he
 | box ty x =>
  simp only[au,apu] at he
  obtain⟨_,_,he⟩:=he
  obtain⟨_,he⟩:=ab he
  simp at he
 | build z0 ps =>
  have e1:(ps.map fun p=>(p.1,p.2.1,(p.2.2.eval G s'.T).drop))=ps.map fun p=>(p.1,p.2.1,(p.2.2.eval G s.T).drop) :=
   apY fun p hp=>by rw[h.eval (G:=G) (y:=p.2.2) (fun t hm=>ht t (by simp only[fq.tmps,aqz];exact⟨p,hp,hm⟩))]
  simp only[au] at he ⊢
  rw[e1];exact he
 | mkslice isB sz zs ps =>
  have e1:(ps.map fun p=>(p.1,(p.2.eval G s'.T).drop))=ps.map fun p=>(p.1,(p.2.eval G s.T).drop) :=
   apY fun p hp=>by rw[h.eval (G:=G) (y:=p.2) (fun t hm=>ht t (by simp only[fq.tmps,aqz];exact⟨p,hp,hm⟩))]
  simp only[au] at he ⊢
  rw[e1];exact he
 | load take agg sz x =>
  simp only[au] at he ⊢
  rw[h.addr (G:=G) (y:=x) ht]
  exact h.load he
 | oY sz x y=>simp[au] at he
 | store sz x y =>
  simp only[au,apt,apx] at he
  obtain⟨_,_,_,he⟩:=he
  cases he
 | nilCheck x =>
  simp only[au] at he ⊢
  rw[h.addr (G:=G) (y:=x) ht]
  obtain⟨h0,he⟩:=ab he
  rw[h.live h0];exact he
 | bin op q x y =>
  simp only[au] at he ⊢
  rw[h.eval (G:=G) (y:=x) (fun t hm=>ht t (by simp[fq.tmps,hm])),h.eval (G:=G) (y:=y) (fun t hm=>ht t (by simp[fq.tmps,hm]))]
  exact he
 | un op x=>simp only[au] at he ⊢;rw[h.eval (G:=G) (y:=x) ht];exact he
 | mm mx x y =>
  simp only[au] at he ⊢
  rw[h.eval (G:=G) (y:=x) (fun t hm=>ht t (by simp[fq.tmps,hm])),h.eval (G:=G) (y:=y) (fun t hm=>ht t (by simp[fq.tmps,hm]))]
  exact he
 | conv c x=>simp only[au] at he ⊢;rw[h.eval (G:=G) (y:=x) ht];exact he
 | uW t x=>simp only[au] at he ⊢;rw[h.eval (G:=G) (y:=x) ht];exact he
 | slice k x lo hi mx =>
  have opt:∀ o:Option ar,(∀ t,t∈o.toList.flatMap ar.tmps->t∈ts)->o.map (·.eval G s'.T)=o.map (·.eval G s.T):=by
   intro o ho
   cases o with
   | none=>rfl
   | some y=>simp only[Option.map_some];rw[h.eval (G:=G) (y:=y) (fun t hm=>ho t (by simp[hm]))]
  simp only[au] at he ⊢
  rw[h.eval (G:=G) (y:=x) (fun t hm=>ht t (by simp only[fq.tmps,apC];exact .inl (.inl (.inl hm)))),
   opt lo (fun t hm=>ht t (by simp only[fq.tmps,apC];exact .inl (.inl (.inr hm)))),
   opt hi (fun t hm=>ht t (by simp only[fq.tmps,apC];exact .inl (.inr hm))),
   opt mx (fun t hm=>ht t (by simp only[fq.tmps,apC];exact .inr hm))]
  exact he
 | fieldAddr off x =>
  simp only[au] at he ⊢
  rw[h.addr (G:=G) (y:=x) ht]
  obtain⟨h0,he⟩:=ab he
  rw[h.live h0];exact he
 | field agg off sz x =>
  simp only[au] at he ⊢
  rw[h.eval (G:=G) (y:=x) ht];exact he
 | ixSl sz x i =>
  simp only[au] at he ⊢
  rw[h.addr (G:=G) (y:=x) (fun t hm=>ht t (by simp[fq.tmps,hm])),h.eval (G:=G) (y:=i) (fun t hm=>ht t (by simp[fq.tmps,hm]))]
  split at he
  ·exact he
  ·exact he
  ·split at he
   ·rename_i hT
    simp only[h.row _ hT]
    exact he
   ·cases he
  ·cases he
 | ixArr n sz x i =>
  simp only[au] at he ⊢
  rw[h.addr (G:=G) (y:=x) (fun t hm=>ht t (by simp[fq.tmps,hm])),h.eval (G:=G) (y:=i) (fun t hm=>ht t (by simp[fq.tmps,hm]))]
  simp only[apu] at he ⊢
  obtain⟨k,hk,he⟩:=he
  refine⟨k,hk,?_⟩
  obtain⟨h0,he⟩:=ab he
  simp only[Bool.and_eq_true] at h0
  rw[h0.1,h.live h0.2];exact he
 | index agg n sz x i =>
  simp only[au] at he ⊢
  rw[h.eval (G:=G) (y:=x) (fun t hm=>ht t (by simp[fq.tmps,hm])),h.eval (G:=G) (y:=i) (fun t hm=>ht t (by simp[fq.tmps,hm]))]
  exact he
 | indexStr x i =>
  simp only[au] at he ⊢
  rw[h.eval (G:=G) (y:=x) (fun t hm=>ht t (by simp[fq.tmps,hm])),h.eval (G:=G) (y:=i) (fun t hm=>ht t (by simp[fq.tmps,hm]))]
  exact he
 | extract x i=>simp only[au] at he ⊢;rw[h.eval (G:=G) (y:=x) ht];exact he
 | len k x =>
  simp only[au] at he ⊢
  rw[h.addr (G:=G) (y:=x) ht]
  split at he
  ·split at he
   ·rename_i hT
    simp only[h.row _ hT]
    exact he
   ·cases he
  ·exact he
 | append isB wr sz bytes x y =>
  have h2:=h.eval (G:=G) (y:=y) (fun t hm=>ht t (by simp[fq.tmps,hm]))
  have h1:=h.eval (G:=G) (y:=x) (fun t hm=>ht t (by simp[fq.tmps,hm]))
  simp only[au,ft] at he ⊢
  cases x with
  | tmp t =>
   exfalso
   simp only at he
   split at he
   ·simp only[apu] at he
    obtain⟨f,_,he⟩:=he
    obtain⟨_,he⟩:=ab he
    simp at he
   ·cases wr
    ·simp at he
    ·simp only[cond_true,apu] at he
     obtain⟨f,_,he⟩:=he
     obtain⟨_,he⟩:=ab he
     simp at he
   ·cases wr
    ·simp at he
    ·simp only[cond_true,apu] at he
     obtain⟨f,_,he⟩:=he
     obtain⟨_,he⟩:=ab he
     simp at he
   ·cases he
  | _=>simp only at he ⊢;rw[h2];exact he
 | call f args =>
  have hf:=h.eval (G:=G) (y:=f) (fun t hm=>ht t (by simp[fq.tmps,hm]))
  have ha:∀ y,y∈args->y.addr G s'.T=y.addr G s.T:=fun y hy=>h.addr (G:=G) (fun t hm=>ht t (by
   simp only[fq.tmps,apC,aqz];exact .inr ⟨y,hy,hm⟩))
  have e1:(args.map fun a=>a.addr G s'.T)=args.map fun a=>a.addr G s.T:=apY ha
  have e2:(args.map fun a=>(a.addr G s'.T).aX)=args.map fun a=>(a.addr G s.T).aX:=apY fun y hy=>by rw[ha y hy]
  simp only[au] at he ⊢
  rw[hf,e1,e2,<- h.H]
  split at he
  ·obtain⟨h0,he⟩:=ab he
   rw[h0]
   simp only[cond_true,apt,apx] at he ⊢
   obtain⟨⟨r,c⟩,hr,h1,h2⟩:=he
   refine⟨(r,c),hr,h1,?_⟩
   cases c with
   | none=>rfl
   | some c=>cases h2
  ·cases he
 | uf f args =>
  have hf:=h.eval (G:=G) (y:=f) (fun t hm=>ht t (by simp[fq.tmps,hm]))
  have ha:∀ y,y∈args->y.addr G s'.T=y.addr G s.T:=fun y hy=>h.addr (G:=G) (fun t hm=>ht t (by
   simp only[fq.tmps,apC,aqz];exact .inr ⟨y,hy,hm⟩))
  have e1:(args.map fun a=>a.addr G s'.T)=args.map fun a=>a.addr G s.T:=apY ha
  have e2:(args.map fun a=>(a.addr G s'.T).aX)=args.map fun a=>(a.addr G s.T).aX:=apY fun y hy=>by rw[ha y hy]
  simp only[au] at he ⊢
  rw[hf,e1,e2,<- h.H]
  exact he
 | ug f pre x post =>
  exfalso
  simp only[au] at he
  obtain⟨_,he⟩:=ab he
  simp only[apu,apt,apx,reduceCtorEq,ar8,arO] at he
 | mkfunc f a b =>
  have ha:∀ y,y∈a->y.addr G s'.T=y.addr G s.T:=fun y hy=>h.addr (G:=G) (fun t hm=>ht t (by
   simp only[fq.tmps,apC,aqz];exact .inl ⟨y,hy,hm⟩))
  have hb:∀ y,y∈b->y.addr G s'.T=y.addr G s.T:=fun y hy=>h.addr (G:=G) (fun t hm=>ht t (by
   simp only[fq.tmps,apC,aqz];exact .inr ⟨y,hy,hm⟩))
  have e1:(a.map fun a=>a.addr G s'.T)=a.map fun a=>a.addr G s.T:=apY ha
  have e2:(b.map fun a=>a.addr G s'.T)=b.map fun a=>a.addr G s.T:=apY hb
  have e3:(a.map fun a=>(a.addr G s'.T).drop)=a.map fun a=>(a.addr G s.T).drop:=apY fun y hy=>by rw[ha y hy]
  have e4:(b.map fun a=>(a.addr G s'.T).drop)=b.map fun a=>(a.addr G s.T).drop:=apY fun y hy=>by rw[hb y hy]
  simp only[au] at he ⊢
  rw[e1,e2,e3,e4];exact he
 | appendO sz bytes x y =>
  have h1:=h.addr (G:=G) (y:=x) (fun t hm=>ht t (by simp[fq.tmps,hm]))
  have h2:=h.eval (G:=G) (y:=y) (fun t hm=>ht t (by simp[fq.tmps,hm]))
  simp only[au,iF,h1,h2] at he ⊢
  split at he
  ·exact he
  exfalso
  simp only[ik,apu] at he
  obtain⟨f,_,he⟩:=he
  split at he
  ·obtain⟨_,he⟩:=ab he
   simp at he
  ·obtain⟨_,he⟩:=ab he
   simp at he
  ·split at he
   ·obtain⟨_,he⟩:=ab he
    simp at he
   ·cases he
  ·cases he
 | mf sz zs ps =>
  exfalso
  simp only[au,apu] at he
  obtain⟨f,_,he⟩:=he
  obtain⟨_,he⟩:=ab he
  simp at he
 | y9 sz bytes zero n =>
  exfalso
  simp only[au,qf,apu] at he
  obtain⟨f,_,he⟩:=he
  obtain⟨_,he⟩:=ab he
  simp at he
 | B5 x =>
  simp only[au,apu] at he
  obtain⟨_,_,he⟩:=he
  obtain⟨_,he⟩:=ab he
  simp at he
 | copyO x y =>
  have h1:=h.addr (G:=G) (y:=x) (fun t hm=>ht t (by simp[fq.tmps,hm]))
  have h2:=h.eval (G:=G) (y:=y) (fun t hm=>ht t (by simp[fq.tmps,hm]))
  simp only[au] at he ⊢
  rw[h1,h2]
  unfold qe at he ⊢
  rw[<- h.H]
  split at he
  ·split at he
   ·obtain⟨_,he⟩:=ab he
    simp at he
   ·cases he
  ·exact he
  ·cases he
 | nilS neg x =>
  simp only[au] at he ⊢
  rw[h.eval (G:=G) (y:=x) ht];exact he
 | uX kz ka va=>simp[au] at he
 | look ok kz ka va ks zero m k =>
  have h1:=h.addr (G:=G) (y:=m) (fun t hm=>ht t (by simp[fq.tmps,hm]))
  have h2:=h.eval (G:=G) (y:=k) (fun t hm=>ht t (by simp[fq.tmps,hm]))
  simp only[au] at he ⊢
  rw[h1,h2]
  unfold tA uV at he ⊢
  rw[<- h.H];exact he
 | GW kz ka ks zero m k =>
  have h1:=h.addr (G:=G) (y:=m) (fun t hm=>ht t (by simp[fq.tmps,hm]))
  have h2:=h.eval (G:=G) (y:=k) (fun t hm=>ht t (by simp[fq.tmps,hm]))
  simp only[au] at he ⊢
  rw[h1,h2]
  unfold sm at he ⊢
  rw[<- h.H]
  split at he
  ·split at he
   ·simp only[apu] at he ⊢
    obtain⟨kc,pO,he⟩:=he
    obtain⟨h0,he⟩:=ab he
    refine⟨kc,pO,?_⟩
    rw[h0,cond_true]
    simp only[apu] at he ⊢
    obtain⟨o,ho,he⟩:=he
    refine⟨o,ho,?_⟩
    cases o with
    | none=>exact he
    | some i=>simp at he
   ·cases he
  ·cases he
 | xe kz ka va vz ks m k v=>simp[au] at he
 | NB m =>
  have h1:=h.addr (G:=G) (y:=m) (fun t hm=>ht t (by simp[fq.tmps,hm]))
  simp only[au] at he ⊢
  rw[h1,<- h.H];exact he
 | rng kz ka va m =>
  simp only[au] at he
  split at he
  ·simp at he
  ·obtain⟨_,he⟩:=ab he
   simp at he
  ·obtain⟨_,he⟩:=ab he
   simp at he
  ·split at he
   ·obtain⟨_,he⟩:=ab he
    simp at he
   ·cases he
  ·cases he
 | next it=>simp[au] at he
 | UW it =>
  cases it with
  | tmp t =>
   have e:=h.T t (ht t (by simp[fq.tmps,ar.tmps]))
   simp only[au] at he ⊢
   rw[<- e];exact he
  | _=>simp only[au] at he;cases he
theorem IY{o:aj}{z:AV}{s1:AS}(he:kD G cf true s o=some (z,s1)):s1=s/\aP z=none:=by
 have cE:((au G cf s o.op).bind fun r=>match r.2 with
   | none=>cond (true&&(aP r.1).isSome) none (some (r.1,s))
   | some s'=>cond true none (some (r.1,s')))=some (z,s1)->s1=s/\aP z=none:=by
  intro h
  simp only[apu] at h
  obtain⟨⟨z',s'⟩,_,h⟩:=h
  cases s' with
  | none =>
   simp only[aq6] at h
   cases hb:aP z' with
   | none =>
    rw[hb] at h
    simp only[Option.isSome_none,apE,apv,apx] at h
    exact⟨h.2.symm,by rw[<- h.1,hb]⟩
   | some k=>rw[hb] at h;cases h
  | some s'=>cases h
 unfold kD at he
 split at he
 ·exact cE he
 ·split at he
  ·rename_i want _ _ b _
   simp only at he
   cases hc:(b==want) with
   | false =>
    rw[hc] at he
    simp only[apE,apv,apx] at he
    exact⟨he.2.symm,by rw[<- he.1];rfl⟩
   | true =>
    rw[hc] at he
    exact cE he
  ·simp only[apv,apx] at he
   exact⟨he.2.symm,by rw[<- he.1];rfl⟩
  ·cases he
theorem wx(h:qS s s' ts){o:aj}(ht:∀ t,t∈o.looks->t∈ts){z:AV}{s1:AS}(he:kD G cf true s o=some (z,s1)):kD G cf true s' o=some (z,s'):=by
 have cE:((au G cf s o.op).bind fun r=>match r.2 with
   | none=>cond (true&&(aP r.1).isSome) none (some (r.1,s))
   | some s'=>cond true none (some (r.1,s')))=some (z,s1)->((au G cf s' o.op).bind fun r=>match r.2 with
   | none=>cond (true&&(aP r.1).isSome) none (some (r.1,s'))
   | some s'=>cond true none (some (r.1,s')))=some (z,s'):=by
  intro h1
  simp only[apu] at h1
  obtain⟨⟨z',s2⟩,he,h1⟩:=h1
  cases s2 with
  | some s2=>cases h1
  | none =>
   rw[IW h (fun t hm=>ht t (by simp only[aj.looks,apC];exact .inl hm)) he]
   simp only[aq6,apB] at h1 ⊢
   cases hb:aP z' with
   | some k=>rw[hb] at h1;cases h1
   | none =>
    rw[hb] at h1
    simp only[Option.isSome_none,apE,apv,apx] at h1 ⊢
    exact⟨h1.1,trivial⟩
 unfold kD at he ⊢
 cases hg:o.guard with
 | none=>rw[hg] at he;exact cE he
 | some gw =>
  obtain⟨g,want⟩:=gw
  rw[hg] at he
  have e:s'.T g=s.T g:=(h.T g (ht g (by simp[aj.looks,hg]))).symm
  simp only at he ⊢
  rw[e]
  generalize s.T g=X at he ⊢
  cases X with
  | bool b =>
   simp only at he ⊢
   cases hc:(b==want) with
   | false =>
    rw[hc] at he
    simp only[apE,apv,apx] at he ⊢
    exact⟨he.1,trivial⟩
   | true=>rw[hc] at he;exact cE he
  | tuple vs =>
   cases vs with
   | nil=>simp only[apv,apx] at he ⊢;exact⟨he.1,trivial⟩
   | cons v vs=>cases he
  | _=>cases he
end
theorem qg{G:Nat->List AV}{cf:cA} : ∀ (is:List aj) (s s' : AS),bP G cf true is s=some s' ->
  ∃ (S:Nat->AS) (V:Nat->AV),S 0=s/\S is.length=s'/\∀ i io,is[i]?=some io->kD G cf true (S i) io=some (V i,S i)/\aP (V i)=none/\S (i+1)=(S i).bR io.dst (V i)
 | [],s,s',h=>by
  simp only[bP,apv] at h
  exact⟨fun _=>s,fun _=>.undef,rfl,h,fun i io h=>by simp at h⟩
 | o :: r,s,s',h=>by
  simp only[bP,apu,nL,apt] at h
  obtain⟨s1,⟨⟨z,s2⟩,hz,rfl⟩,h⟩:=h
  obtain⟨rfl,hg⟩:=IY hz
  obtain⟨S,V,h0,hn,hS⟩:=qg r _ s' h
  refine⟨fun i=>match i with|0=>s2|i+1=>S i,fun i=>match i with|0=>z|i+1=>V i,rfl,hn,fun i io hi=>?_⟩
  cases i with
  | zero =>
   simp only[apH,apv] at hi
   subst hi
   exact⟨hz,hg,h0⟩
  | succ i=>exact hS i io (by simpa using hi)
structure Agree (s:AS) (D:Nat->Option Nat) (V:Nat->AV) (A:Nat->Prop) (x:AS):Prop where
 H:x.H=s.H
 gen:x.gen=s.gen
 lo:x.lo=s.lo
 z6:∀ i,A i->∀ d,D i=some d->x.T d=V i
 not:∀ t,(∀ i,A i->D i≠some t)->x.T t=s.T t
theorem Agree.put{s x:AS}{D:Nat->Option Nat}{V:Nat->AV}{A:Nat->Prop}(h:Agree s D V A x){i:Nat}(hd:∀ j,A j->j≠i->∀ d,D i=some d->D j≠some d):Agree s D V (fun j=>A j\/j=i) (x.bR (D i) (V i)):=by
 cases hD:D i with
 | none =>
  refine⟨h.H,h.gen,h.lo,fun j hj d Ol=>?_,fun t ht=>h.not t (fun j hj=>ht j (.inl hj))⟩
  rcases hj with hj|rfl
  ·exact h.z6 j hj d Ol
  ·rw[hD] at Ol;cases Ol
 | some d =>
  refine⟨h.H,h.gen,h.lo,fun j hj d' Ol=>?_,fun t ht=>?_⟩
  ·simp only[AS.bR,AS.bu,df]
   by_cases iz:j=i
   ·subst iz
    rw[hD] at Ol;injection Ol with Ol;subst Ol
    simp
   ·rcases hj with hj|hj
    ·rw[if_neg]
     ·exact h.z6 j hj d' Ol
     ·rintro rfl
      exact hd j hj iz d' hD Ol
    ·exact absurd hj iz
  ·simp only[AS.bR,AS.bu,df]
   rw[if_neg]
   ·exact h.not t (fun j hj=>ht j (.inl hj))
   ·rintro rfl
    exact ht i (.inr rfl) hD
theorem Agree.eq{s x y:AS}{D:Nat->Option Nat}{V:Nat->AV}{A B:Nat->Prop}(hAB:∀ i,A i↔B i)(h:Agree s D V A x)(h' : Agree s D V B y):x=y:=by
 have hT:x.T=y.T:=by
  funext t
  by_cases hc:∃ i,A i/\D i=some t
  ·obtain⟨i,hi,hd⟩:=hc
   rw[h.z6 i hi t hd,h'.z6 i ((hAB i).1 hi) t hd]
  ·rw[h.not t (fun i hi hd=>hc ⟨i,hi,hd⟩),h'.not t (fun i hi hd=>hc ⟨i,(hAB i).2 hi,hd⟩)]
 cases x;cases y
 have:=h.H;have:=h.gen;have:=h.lo;have:=h'.H;have:=h'.gen;have:=h'.lo
 simp_all
theorem nz:∀ (n:Nat) (l:List Nat),l.Nodup->(∀ i,i∈l->i<n)->l.length<=n
 | 0,l,_,h=>by
  cases l with
  | nil=>exact apz _
  | cons i l=>exact absurd (h i apP) (arY _)
 | n+1,l,od,h=>by
  have ih:=nz n (l.erase n) (od.erase n) (fun i hi=>by
   have:=(od.mem_erase_iff).1 hi
   have:=h i this.2
   omega)
  rw[List.length_erase] at ih
  split at ih<;>omega
structure Order (L:List Nat) (ops:Array Oper) (is:List aj):Prop where
 len:ops.size=is.length
 back:∀ (i:Nat) (o:Oper),ops[i]?=some o->∀ e,e∈o.after->Region.binds .any e=true->e.on<i
 NK:∀ (i:Nat) (io:aj) (d:Nat),is[i]?=some io->io.dst=some d->d∉L
 once:∀ (i j:Nat) (p q:aj) (d:Nat),is[i]?=some p->is[j]?=some q->i≠j->q.dst=some d->p.dst≠some d
 look:∀ (i j:Nat) (o o' : Oper) (p q:aj) (d:Nat),ops[i]?=some o->ops[j]?=some o'->is[i]?=some p->is[j]?=some q->i≠j->q.dst=some d->d∈p.looks ->
  (j<i/\∃ e,e∈o.after/\Region.binds .any e=true/\e.on=j)\/(i<j/\∃ e,e∈o'.after/\Region.binds .any e=true/\e.on=i)
theorem qb{o:Oper}{j:Nat}(h:oK o j=true):∃ e,e∈o.after/\Region.binds .any e=true/\e.on=j:=by
 unfold oK at h
 rw[Array.any_eq_true] at h
 obtain⟨k,hk,h⟩:=h
 simp only[Bool.and_eq_true,dX,apS] at h
 exact⟨o.after[k],Array.getElem_mem hk,h.1,h.2⟩
theorem Hf{L:List Nat}{ops:Array Oper}{is:List aj}(hl:ops.size=is.length)(h:uZ L (ops.toList.zip is)=true):Order L ops is:=by
 have mem:∀ (i:Nat) (o:Oper) (io:aj),ops[i]?=some o->is[i]?=some io->((o,io),i)∈(ops.toList.zip is).zipIdx:=by
  intro i o io h1 h2
  rw[ap8]
  refine⟨i,?_⟩
  rw[ari,(aq9 (z:=(o,io))).2 ⟨by simpa using h1,h2⟩]
  simp
 have tR:∀ (i:Nat) (io:aj),is[i]?=some io->∃ o,ops[i]?=some o:=by
  intro i io hi
  have:i<ops.size:=by rw[hl];exact (apw.1 hi).1
  exact⟨_,apJ this⟩
 have abW:∀ (i:Nat) (o:Oper),ops[i]?=some o->∃ io,is[i]?=some io:=by
  intro i o hi
  have:i<is.length:=by rw[<- hl];exact (apD.1 hi).1
  exact⟨_,apy this⟩
 unfold uZ at h
 simp only[apA] at h
 have Hh:∀ (i j:Nat) (o o' : Oper) (p q:aj),ops[i]?=some o->ops[j]?=some o'->is[i]?=some p->is[j]?=some q->i≠j->∀ d,q.dst=some d ->
   p.dst≠some d/\(d∈p.looks->if j<i then oK o j=true else oK o' i=true):=by
  intro i j o o' p q h1 h2 h3 h4 jn d hd
  have:=h _ (mem i o p h1 h3)
  simp only[Bool.and_eq_true,apA] at this
  have:=this.2 _ (mem j o' q h2 h4)
  simp only[aqZ,dX,apS,hd] at this
  rcases this with this|this
  ·exact absurd this jn
  simp only[Bool.and_eq_true] at this
  refine⟨fun Bi=>?_,fun n7=>?_⟩
  ·rw[Bi] at this
   simp at this
  ·have h5:=this.2
   simp only[aqZ,aqg,aq3,aqs] at h5
   rcases h5 with h5|h5
   ·exact absurd n7 h5
   ·by_cases iz:j<i
    ·rw[if_pos iz]
     rw[show Nat.blt j i=true by simpa [ap0] using iz] at h5
     exact h5
    ·rw[if_neg iz]
     rw[show Nat.blt j i=false by simpa [<- arT,ap0] using iz] at h5
     exact h5
 refine⟨hl,fun i o hi e he hb=>?_,fun i io d hi hd=>?_,fun i j p q d hp hq jn hd=>?_,fun i j o o' p q d h1 h2 h3 h4 jn hd n7=>?_⟩
 ·obtain⟨io,ly⟩:=abW i o hi
  have:=h _ (mem i o io hi ly)
  simp only[Bool.and_eq_true,apA] at this
  have:=this.1.1
  rw[arn] at this
  have:=this e he
  simpa [hb,ap0] using this
 ·obtain⟨o,ho⟩:=tR i io hi
  have:=h _ (mem i o io ho hi)
  simp only[Bool.and_eq_true,apA,hd] at this
  simpa using this.1.2
 ·obtain⟨o,ho⟩:=tR i p hp
  obtain⟨o',mY⟩:=tR j q hq
  exact (Hh i j o o' p q ho mY hp hq jn d hd).1
 ·have:=(Hh i j o o' p q h1 h2 h3 h4 jn d hd).2 n7
  by_cases iz:j<i
  ·rw[if_pos iz] at this
   exact .inl ⟨iz,qb this⟩
  ·rw[if_neg iz] at this
   exact .inr ⟨by omega,qb this⟩
section
variable {P:Program}{G:Nat->List AV}{base nt:Nat}{L:List Nat}{gh:Gh}{w w' : World}{a:Act}{s:AS}{H:ag}
theorem gB{bJ locals muts:List Nat}{ops:Array Oper} : ∀ {l:List Oper} {is:List aj},fL P bJ locals muts nt ops l=some is->l.length=is.length /\
  ∀ (i:Nat) (o:Oper),l[i]?=some o->∃ io,is[i]?=some io/\rk P bJ locals muts nt ops o=some io
 | [],is,h=>by simp[fL] at h;subst h;exact⟨rfl,fun i o h=>by simp at h⟩
 | o :: l,is,h=>by
  simp only[fL,apu,apt] at h
  obtain⟨io,ly,is',DY,rfl⟩:=h
  obtain⟨h1,h2⟩:=gB DY
  refine⟨by simp[h1],fun i o' hi=>?_⟩
  cases i with
  | zero=>simp only[apH,apv] at hi;subst hi;exact⟨io,rfl,ly⟩
  | succ i=>exact h2 i o' (by simpa using hi)
theorem IJ{cf:cA}(iI:cU P G cf){H0:ag}{gC:Gh}{w0:World}{bJ locals muts:List Nat}{ops:Array Oper}(vg:∀ x,x∈locals->x∈L)(vh:∀ x,x∈muts->x∈L)(Q:Exit->Act->World->Prop)
  {is:List aj} (hI:Inv G base nt L H0 gC w0 s gh w a) (hc:fL P bJ locals muts nt ops ops.toList=some is) (da:Order L ops is) {s' : AS} (he:bP G cf true is s=some s')
  (hQ:∀ a' aK w',Inv G base nt L H0 gC w0 s' aK w' a'->Q .normal a' w'):wpAny P .any ops Q ops.size (Array.replicate ops.size false) a w:=by
 obtain⟨S,V,h0,hn,hS⟩:=qg is s s' he
 obtain⟨hlen,ox⟩:=gB hc
 let D:Nat->Option Nat:=fun i=>(is[i]?).bind (·.dst)
 have hD:∀ i io,is[i]?=some io->D i=io.dst:=fun i io h=>by simp[D,h]
 have uF:∀ i d,D i=some d->∃ io,is[i]?=some io/\io.dst=some d:=by
  intro i d h
  simp only[D,apu] at h
  exact h
 have uK:∀ i j d,i≠j->D i=some d->D j≠some d:=by
  intro i j d jn hi hj
  obtain⟨p,hp,Bi⟩:=uF i d hi
  obtain⟨q,hq,tK⟩:=uF j d hj
  exact da.once i j p q d hp hq jn tK Bi
 have pt:∀ k,k<=is.length->Agree s D V (fun i=>i<k) (S k):=by
  intro k
  induction k with
  | zero=>intro _;rw[h0];exact⟨rfl,rfl,rfl,fun i hi=>absurd hi (arY _),fun t _=>rfl⟩
  | succ k ih =>
   intro hk
   have ly:=apy (show k<is.length by omega)
   obtain⟨_,_,h3⟩:=hS k _ ly
   rw[h3,<- hD k _ ly]
   have:=(ih (by omega)).put (i:=k) (fun j hj bC d hd=>uK k j d (aqM bC) hd)
   refine⟨this.H,this.gen,this.lo,fun i hi=>this.z6 i (by rcases aqP i k with h|h;exact .inl h;exact .inr (by omega)),fun t ht=>this.not t (fun i hi=>ht i (by rcases hi with h|h<;>omega))⟩
 have agl:∀ i d,D i=some d->aP (V i)=none:=by
  intro i d hd
  obtain⟨io,ly,_⟩:=uF i d hd
  exact (hS i io ly).2.1
 have main:∀ (n:Nat) (listed:Array Bool) (x:AS) (gh:Gh) (w:World) (a:Act),listed.size=ops.size->(∀ l:List Nat,l.Nodup->(∀ i,i∈l->i<ops.size/\listed.getD i true=false)->l.length<=n) ->
   (∀ j o,ops[j]?=some o->listed.getD j false=true->∀ e,e∈o.after->Region.binds .any e=true->listed.getD e.on false=true) ->
   Agree s D V (fun i=>listed.getD i false=true) x->Inv G base nt L H0 gC w0 x gh w a->wpAny P .any ops Q n listed a w:=by
  intro n
  induction n with
  | zero =>
   intro listed x gh w a gM tI fP hA hI
   have dy:∀ i,i<ops.size->listed.getD i false=true:=by
    intro i hi
    cases hb:listed.getD i true with
    | true =>
     have:i<listed.size:=by omega
     simpa [this] using hb
    | false =>
     have:=tI [i] (by simp) (fun j hj=>by simp at hj;subst hj;exact⟨hi,hb⟩)
     simp at this
   have lH:Region.ready .any ops listed=[]:=by
    cases hr:Region.ready .any ops listed with
    | nil=>rfl
    | cons i r =>
     have hm:i∈Region.ready .any ops listed:=by rw[hr];exact apP
     obtain⟨h1,o,h2,_⟩:=mem_ready.1 hm
     have aU:=(apD.1 h2).1
     have:=dy i aU
     have il:i<listed.size:=by omega
     simp[il] at this h1
     rw[this] at h1
     cases h1
   refine⟨lH,?_⟩
   have hx:x=s':=by
    rw[<- hn]
    refine hA.eq (B:=fun i=>i<is.length) (fun i=>?_) (pt _ (apz _))
    constructor
    ·intro h
     have aU:i<listed.size:=by
      rcases aqP i listed.size with h'|h'
      ·exact h'
      ·simp[aqV h'] at h
     rw[<- da.len];omega
    ·intro h
     exact dy i (by rw[da.len];exact h)
   rw[hx] at hI
   exact hQ a gh w hI
  | succ n ih =>
   intro listed x gh w a gM tI fP hA hI
   refine⟨fun lH=>?_,fun i hi=>?_⟩
   ·
    have dy:∀ i,i<ops.size->listed.getD i false=true:=by
     intro i
     induction i using Nat.strongRecOn with
     | _ i Bm =>
      intro aU
      have il:i<listed.size:=by omega
      cases hb:listed.getD i true with
      | true=>simpa [il] using hb
      | false =>
       exfalso
       have ho:=apJ aU
       have:i∈Region.ready .any ops listed:=mem_ready.2 ⟨hb,_,ho,fun e he iR=>by
        have xc:=da.back i _ ho e he iR
        exact Bm e.on xc (by omega)⟩
       rw[lH] at this
       cases this
    have hx:x=s':=by
     rw[<- hn]
     refine hA.eq (B:=fun i=>i<is.length) (fun i=>?_) (pt _ (apz _))
     constructor
     ·intro h
      have aU:i<listed.size:=by
       rcases aqP i listed.size with h'|h'
       ·exact h'
       ·simp[aqV h'] at h
      rw[<- da.len];omega
     ·intro h
      exact dy i (by rw[da.len];exact h)
    rw[hx] at hI
    exact hQ a gh w hI
   ·obtain⟨Ai,o,ho,mI⟩:=mem_ready.1 hi
    have aU:=(apD.1 ho).1
    have il:i<listed.size:=by omega
    obtain⟨io,ly,bn⟩:=ox i o (by simpa using ho)
    have qU:¬ (listed.getD i false=true):=by
     simp[il] at Ai ⊢
     exact Ai
    have Gk:=pt i (by rw[<- da.len];omega)
    have qP:qS (S i) x io.looks:=by
     refine⟨by rw[Gk.H,hA.H],fun t ht=>?_,fun b=>?_⟩
     ·by_cases hw:∃ j,D j=some t
      ·obtain⟨j,hj⟩:=hw
       have uniq:∀ k,D k=some t->k=j:=by
        intro k hk
        by_cases HX:k=j
        ·exact HX
        ·exact absurd hj (uK k j t HX hk)
       obtain⟨q,hq,tK⟩:=uF j t hj
       by_cases jn:i=j
       ·subst jn
        rw[Gk.not t (fun k hk hd=>by have:=uniq k hd;omega),hA.not t (fun k hk hd=>by rw[uniq k hd] at hk;exact qU hk)]
       ·have hoj:∃ o',ops[j]?=some o':=⟨_,apJ (show j<ops.size by rw[da.len];exact (apw.1 hq).1)⟩
        obtain⟨o',mY⟩:=hoj
        rcases da.look i j o o' io q t ho mY ly hq jn tK ht with ⟨iz,e,he,iR,Na⟩|⟨iz,e,he,iR,Na⟩
        ·have Vy:=mI e he iR
         rw[Na] at Vy
         rw[Gk.z6 j iz t hj,hA.z6 j Vy t hj]
        ·have Vy:¬ (listed.getD j false=true):=by
          intro h
          have:=fP j o' mY h e he iR
          rw[Na] at this
          exact qU this
         rw[Gk.not t (fun k hk hd=>by have:=uniq k hd;omega),hA.not t (fun k hk hd=>by rw[uniq k hd] at hk;exact Vy hk)]
      ·rw[Gk.not t (fun k _ hd=>hw ⟨k,hd⟩),hA.not t (fun k _ hd=>hw ⟨k,hd⟩)]
     ·by_cases hw:∃ j,D j=some b
      ·obtain⟨j,hj⟩:=hw
       obtain⟨q,hq,tK⟩:=uF j b hj
       have hbL:=da.NK j q b hq tK
       have h1:aP (x.T b)=none:=by
        cases hg:aP (x.T b) with
        | none=>rfl
        | some k=>exact absurd (hI.F.obj b (by rw[hg];rfl)) hbL
       have hsb:aP (s.T b)=none:=by
        cases hg:aP (s.T b) with
        | none=>rfl
        | some k=>exact absurd (‹Inv G base nt L H0 gC w0 s _ _ _›.F.obj b (by rw[hg];rfl)) hbL
       refine .inr ?_
       by_cases iz:j<i
       ·rw[Gk.z6 j iz b hj];exact agl j b hj
       ·rw[Gk.not b (fun k hk hd=>by
         by_cases HX:k=j
         ·omega
         ·exact uK k j b HX hd hj)]
        exact hsb
      ·exact .inl (by rw[Gk.not b (fun k _ hd=>hw ⟨k,hd⟩),hA.not b (fun k _ hd=>hw ⟨k,hd⟩)])
    have bf:=wx qP (fun t h=>h) (hS i io ly).1
    unfold wpOp
    rw[ho]
    refine kK iI hI bn vg vh bf _ Q (fun a' aK w' iT=>?_)
    rw[<- (gX bn).2.2.1,<- hD i io ly] at iT
    have dI:∀ j,(listed.setIfInBounds i true).getD j false=true↔(listed.getD j false=true\/j=i):=by
     intro j
     by_cases iz:i=j
     ·subst iz
      simp[il]
     ·rw[getD_set_ne false iz]
      simp[aqM iz]
    refine ih (listed.setIfInBounds i true) _ aK w' a' (by simpa using gM) (fun l od hl=>?_) (fun j o' mY hj e he iR=>?_) ?_ iT
    ·have oR:i∉l:=by
      intro hm
      have:=(hl i hm).2
      simp[il] at this
     have:=tI (i :: l) (aqN.2 ⟨oR,od⟩) (fun j hj=>by
      rcases apO.1 hj with rfl|hj
      ·exact⟨aU,Ai⟩
      ·have h1:=hl j hj
       have iz:i≠j:=by rintro rfl;exact oR hj
       rw[getD_set_ne true iz] at h1
       exact h1)
     simp at this
     omega
    ·rcases (dI j).1 hj with h|rfl
     ·exact (dI _).2 (.inl (fP j o' mY h e he iR))
     ·rw[ho] at mY
      injection mY with mY
      subst mY
      exact (dI _).2 (.inl (mI e he iR))
    ·have:=hA.put (i:=i) (fun j hj bC d hd=>uK i j d (aqM bC) hd)
     exact⟨this.H,this.gen,this.lo,fun j hj=>this.z6 j ((dI j).1 hj),fun t ht=>this.not t (fun j hj=>ht j ((dI j).2 hj))⟩
 refine main ops.size _ s gh w a (by simp) (fun l od hl=>?_) (fun j o hj h=>?_) ?_ hI
 ·exact nz ops.size l od (fun i hi=>(hl i hi).1)
 ·exfalso
  have:(Array.replicate ops.size false).getD j false=false:=by
   by_cases h:j<ops.size<;>simp[h]
  rw[this] at h
  cases h
 ·have jI:∀ i,¬ ((Array.replicate ops.size false).getD i false=true):=by
   intro i h
   have:(Array.replicate ops.size false).getD i false=false:=by
    by_cases h:i<ops.size<;>simp[h]
   rw[this] at h
   cases h
  exact⟨rfl,rfl,rfl,fun i hi=>absurd hi (jI i),fun t _=>rfl⟩
end
end
section
theorem pK{o:aj}{d:Nat}(h:fJ o=some d):o=⟨some d,none,.allocL (sa o)⟩:=by
 unfold fJ at h
 split at h
 ·injection h with h;subst h;rfl
 ·cases h
theorem gH{M:List Nat}{o:aj}{d:Nat}{y:ar}(h:dU M o=some (d,y)):d∈M/\∃ sz,o=⟨none,none,.store sz (.tmp d) y⟩:=by
 unfold dU at h
 split at h
 ·rename_i sz e y'
  obtain⟨h0,h⟩:=ab h
  injection h with h
  injection h with h1 h2
  subst h1 h2
  exact⟨by simpa using h0,sz,rfl⟩
 ·cases h
def disown:AV->AV
 | .slice e true=>.slice e false
 | v=>v
theorem v7(s:AS)(t u:Nat):(s.bH (.tmp t)).T u=if u=t then disown (s.T t) else s.T u:=by
 unfold AS.bH
 simp only
 split
 ·rename_i e h
  simp only[AS.bu,df,h,disown]
 ·rename_i h
  by_cases hu:u=t
  ·subst hu
   rw[if_pos rfl]
   generalize s.T u=X at h
   cases X<;>try rfl
   rename_i e own
   cases own
   ·rfl
   ·exact absurd rfl (h e)
  ·rw[if_neg hu]
section
variable {G:Nat->List AV}{cf:cA}
theorem y7:∀ (M:List Nat) (s s1:AS),bP G cf false (lU M) s=some s1 ->
  s1.H=s.H/\s1.lo=s.lo/\s1.gen=s.gen+M.length/\∀ t,s1.T t=if t∈M then .undef else s.T t
 | [],s,s1,h=>by
  simp only[lU,List.flatMap_nil,bP,apv] at h
  subst h
  simp
 | d :: M,s,s1,h=>by
  have e:lU (d :: M)=⟨some d,none,.allocL []⟩ :: ⟨some d,none,.mov false false (.cr .undef)⟩ :: lU M:=rfl
  rw[e] at h
  simp only[bP,bA,au,lu,ar.eval,apB,apE,aqW,AS.bR] at h
  obtain⟨h1,h2,h3,h4⟩:=y7 M _ _ h
  refine⟨h1,h2,?_,fun t=>?_⟩
  ·rw[h3];simp[AS.bu];omega
  ·rw[h4]
   simp only[AS.bu,df,apO]
   by_cases ht:t∈M
   ·simp[ht]
   ·by_cases hd:t=d<;>simp[ht,hd]
theorem G9:∀ (l:List aj) (s s' : AS),(∀ o,o∈l->(fJ o).isSome=true)->(l.filterMap fJ).Nodup->bP G cf false l s=some s' ->
  s'.H=s.H/\s'.lo=s.lo/\s'.gen=s.gen+l.length/\(∀ t,t∉l.filterMap fJ->s'.T t=s.T t)/\∀ k o d,l[k]?=some o->fJ o=some d->s'.T d=.lbox (s.gen+k) (sa o)
 | [],s,s',_,_,h=>by
  simp only[bP,apv] at h
  subst h
  exact⟨rfl,rfl,rfl,fun _ _=>rfl,fun k o d hk=>by simp at hk⟩
 | o :: l,s,s',hl,od,h=>by
  obtain⟨d,hd⟩:=aqp.1 (hl o apP)
  have hf:(o :: l).filterMap fJ=d :: l.filterMap fJ:=by simp[aqY,hd]
  rw[hf] at od
  obtain⟨s6,wF⟩:=aqN.1 od
  have ho:=pK hd
  rw[ho] at h
  simp only[bP,bA,au,apB,apE,AS.bR] at h
  obtain⟨h1,h2,h3,h4,h5⟩:=G9 l _ s' (fun o ho=>hl o (apU _ ho)) wF h
  refine⟨h1,h2,?_,fun t ht=>?_,fun k o' d' hk M1=>?_⟩
  ·rw[h3];simp[AS.bu];omega
  ·rw[hf,apO,not_or] at ht
   rw[h4 t ht.2]
   simp[AS.bu,df,ht.1]
  ·cases k with
   | zero =>
    simp only[apH,apv] at hk
    subst hk
    rw[hd] at M1
    injection M1 with M1
    subst M1
    rw[h4 d s6]
    simp[AS.bu,df]
   | succ k =>
    rw[h5 k o' d' (by simpa using hk) M1]
    simp[AS.bu];omega
theorem T8{s:AS}{sz d:Nat}{y:ar}{z:AV}{s' : AS}(h:au G cf s (.store sz (.tmp d) y)=some (z,some s')){g:Nat}{cs:List AV}(hT:s.T d=.lbox g cs) :
  ∃ vs,(y.eval G s.T).cells=some vs/\vs.length=sz/\sz<=cs.length/\vs.all aq=true/\z=.undef/\s'=(s.bu d (.lbox g (putAt cs 0 vs))).bH y:=by
 simp only[au,ar.addr,hT,apt,apx,apv] at h
 obtain⟨s1,h,rfl,rfl⟩:=h
 unfold gA at h
 split at h
 ·cases h
 rename_i vs pQ
 obtain⟨h0,h⟩:=ab h
 simp only[hT,Nat.zero_add] at h
 obtain⟨h1,h⟩:=ab h
 injection h with h
 simp only[Bool.and_eq_true,dX,apS,Nat.ble_eq] at h0 h1
 exact⟨vs,pQ,h0,h1.1.2,h1.2,rfl,by rw[h]⟩
theorem Kt{s:AS}{sz d:Nat}{y:ar}{g:Nat}{cs vs:List AV}(hT:s.T d=.lbox g cs)(h1:(y.eval G s.T).cells=some vs)(h2:vs.length=sz)(h3:sz<=cs.length)(h4:vs.all aq=true) :
  au G cf s (.store sz (.tmp d) y)=some (.undef,some ((s.bu d (.lbox g (putAt cs 0 vs))).bH y)):=by
 simp only[au,ar.addr,hT]
 unfold gA
 rw[h1]
 simp only[hT,Nat.zero_add,h4,Bool.and_true]
 have e1:Nat.beq vs.length sz=true:=by rw[dX];simpa using h2
 have e2:Nat.beq g g=true:=by rw[dX];simp
 have e3:Nat.ble sz cs.length=true:=by simpa [Nat.ble_eq] using h3
 simp[e1,e2,e3]
end
section
variable {G:Nat->List AV}{cf:cA}
theorem eval_eq{T T' : ax}{y:ar}(h:∀ t,t∈y.tmps->T' t=T t):y.eval G T'=y.eval G T:=by
 cases y<;>try rfl
 exact h _ (by simp[ar.tmps])
theorem kL(s:AS){y:ar}(h:∀ t,y≠.tmp t):s.bH y=s:=by
 cases y<;>try rfl
 exact absurd rfl (h _)
theorem pL(s:AS)(y:ar):(s.bH y).H=s.H/\(s.bH y).gen=s.gen/\(s.bH y).lo=s.lo:=by
 cases y<;>try exact⟨rfl,rfl,rfl⟩
 unfold AS.bH
 simp only
 split<;>exact⟨rfl,rfl,rfl⟩
theorem rY(s:AS)(y:ar){t:Nat}(h:t∉y.tmps):(s.bH y).T t=s.T t:=by
 cases y<;>try rfl
 rename_i u
 rw[v7,if_neg (by simpa [ar.tmps] using h)]
theorem Hb{M:List Nat} : ∀ (l:List aj) (s s' : AS),(∀ o,o∈l->(dU M o).isSome=true) ->
  (∀ (i j:Nat) (p q:aj) (d:Nat) (y:ar) (e:Nat) (x:ar),l[i]?=some p->l[j]?=some q->i≠j->dU M p=some (d,y)->dU M q=some (e,x)->d≠e/\∀ t,t∈y.tmps->t∉x.tmps) ->
  (∀ (p:aj) (d:Nat) (y:ar),p∈l->dU M p=some (d,y)->∀ t,t∈y.tmps->t∉M)->(∀ d,d∈M->∃ g z,s.T d=.lbox g z)->bP G cf false l s=some s' ->
  s'.H=s.H/\s'.lo=s.lo/\s'.gen=s.gen /\
  (∀ t,(∀ p d y,p∈l->dU M p=some (d,y)->t≠d/\t∉y.tmps)->s'.T t=s.T t) /\
  ∀ p d y,p∈l->dU M p=some (d,y)->∃ sz g z vs,p=⟨none,none,.store sz (.tmp d) y⟩/\s.T d=.lbox g z/\(y.eval G s.T).cells=some vs/\vs.length=sz/\sz<=z.length/\vs.all aq=true /\
   s'.T d=.lbox g (putAt z 0 vs)/\∀ t,t∈y.tmps->s'.T t=disown (s.T t)
 | [],s,s',_,_,_,_,h=>by
  simp only[bP,apv] at h
  subst h
  exact⟨rfl,rfl,rfl,fun _ _=>rfl,fun p d y hp=>by cases hp⟩
 | o :: l,s,s',hl,af',rF,M0,h=>by
  obtain⟨⟨d,y⟩,hd⟩:=aqp.1 (hl o apP)
  obtain⟨HU,sz,ho⟩:=gH hd
  obtain⟨g,z,hT⟩:=M0 d HU
  have Ou:=rF o d y apP hd
  have hyd:d∉y.tmps:=fun hm=>Ou d hm HU
  simp only[bP,apu] at h
  obtain⟨s1,h1,h⟩:=h
  rw[ho] at h1
  simp only[bA,apu] at h1
  obtain⟨⟨zv,s2⟩,bf,h1⟩:=h1
  have Ot:∃ s3,s2=some s3:=by
   cases s2 with
   | some s3=>exact⟨s3,rfl⟩
   | none=>simp[au] at bf
  obtain⟨s3,rfl⟩:=Ot
  obtain⟨vs,c1,c2,c3,c4,c5,c6⟩:=T8 bf hT
  simp only[apE,AS.bR,apv] at h1
  subst h1
  subst c6
  have kT:∀ t,t∉y.tmps->((s.bu d (.lbox g (putAt z 0 vs))).bH y).T t=if t=d then .lbox g (putAt z 0 vs) else s.T t:=by
   intro t ht
   rw[rY _ _ ht]
   simp only[AS.bu,df]
  have kY:∀ t,t∈y.tmps->((s.bu d (.lbox g (putAt z 0 vs))).bH y).T t=disown (s.T t):=by
   intro t ht
   cases y with
   | tmp u =>
    simp only[ar.tmps,apI] at ht
    subst ht
    rw[v7,if_pos rfl]
    have:t≠d:=fun h=>hyd (by simp[ar.tmps,h])
    simp[AS.bu,df,this]
   | _=>simp[ar.tmps] at ht
  have Gw:∀ p e x,p∈l->dU M p=some (e,x)->d≠e/\(∀ t,t∈y.tmps->t∉x.tmps):=by
   intro p e x hp hq
   obtain⟨j,hj⟩:=ap8.1 hp
   exact af' 0 (j+1) o p d y e x rfl (by simpa using hj) (by omega) hd hq
  obtain⟨e1,e2,e3,e4,e5⟩:=Hb l _ s' (fun o ho=>hl o (apU _ ho)) (fun i j p q d y e x hi hj jn=>af' (i+1) (j+1) p q d y e x (by simpa using hi) (by simpa using hj) (by omega))
   (fun p d y hp=>rF p d y (apU _ hp)) (fun e he=>by
    rw[kT e (fun hm=>Ou e hm he)]
    split
    ·exact⟨_,_,rfl⟩
    ·exact M0 e he) h
  refine⟨by rw[e1,(pL _ _).1];rfl,by rw[e2,(pL _ _).2.2];rfl,by rw[e3,(pL _ _).2.1];rfl,fun t ht=>?_,fun p e x hp hq=>?_⟩
  ·have h0:=ht o d y apP hd
   rw[e4 t (fun p d y hp hq=>ht p d y (apU _ hp) hq),kT t h0.2,if_neg h0.1]
  ·rcases apO.1 hp with rfl|hp
   ·rw[hd] at hq
    injection hq with hq
    injection hq with q1 q2
    subst q1 q2
    refine⟨sz,g,z,vs,ho,hT,c1,c2,c3,c4,?_,fun t ht=>?_⟩
    ·rw[e4 d (fun p e x hp hq=>⟨(Gw p e x hp hq).1,fun hm=>rF p e x (apU _ hp) hq d hm HU⟩),kT d hyd,if_pos rfl]
    ·rw[e4 t (fun p e x hp hq=>⟨fun h=>Ou t ht (by rw[h];exact (gH hq).1),(Gw p e x hp hq).2 t ht⟩),kY t ht]
   ·obtain⟨heM,_⟩:=gH hq
    obtain⟨hde,hyx⟩:=Gw p e x hp hq
    have hxM:=rF p e x (apU _ hp) hq
    obtain⟨jj,g',z',vs',f1,f2,f3,f4,f5,f6,f7,f8⟩:=e5 p e x hp hq
    rw[kT e (fun hm=>Ou e hm heM),if_neg (aqM hde)] at f2
    have qP:∀ t,t∈x.tmps->((s.bu d (.lbox g (putAt z 0 vs))).bH y).T t=s.T t:=by
     intro t ht
     rw[kT t (fun hm=>hyx t hm ht),if_neg (fun h=>hxM t ht (by rw[h];exact HU))]
    rw[eval_eq qP] at f3
    exact⟨jj,g',z',vs',f1,f2,f3,f4,f5,f6,f7,fun t ht=>by rw[f8 t ht,qP t ht]⟩
end
section
variable {G:Nat->List AV}{base nt:Nat}{L:List Nat}{gh:Gh}{w w' : World}{a:Act}{s:AS}
theorem Inv.rename{H0:ag}{gC:Gh}{w0:World}(hI:Inv G base nt L H0 gC w0 s gh w a){d g:Nat}{cs:List AV}(hT:s.T d=.lbox g cs)(hd:d<nt){k:Nat}(hk:s.gen<=k) :
  Inv G base nt L H0 gC w0 { s with T:=s.T.put d (.lbox k cs),gen:=k+1 } gh w a:=by
 refine⟨hI.W,?_,hI.E,hI.lo.dY rfl rfl⟩
 refine hI.F.update (touch:=fun _=>False) (Step.refl _ _ _ _ (fun b hb=>hI.W.bL b hb)) hI.F.defers hI.F.size (apz _) (Nat.le_succ_of_le hk) (fun i=>i=d) ?_ ?_ ?_
 ·intro i hi
  exact⟨by simp[df,hi],fun _=>⟨rfl,id,id,fun _=>id⟩⟩
 ·rintro i rfl
  exact .inr (.inr ⟨hI.F.obj i (by rw[hT];rfl),k,hk,by simp[df,aP]⟩)
 ·rintro i rfl hi
  have h:=hI.F.slot i hi
  rw[hT] at h
  obtain⟨_,b,hv,hb⟩:=h
  simp only[df,aqH]
  exact⟨arq _,b,hv,hb⟩
end
theorem By:∀ (M l:List Nat),l.Nodup->(∀ x,x∈l->x∈M)->l.length<=M.length
 | [],l,_,h=>by
  cases l with
  | nil=>exact apz _
  | cons i l=>exact absurd (h i apP) (by simp)
 | m :: M,l,od,h=>by
  have ih:=By M (l.erase m) (od.erase m) (fun i hi=>by
   have:=(od.mem_erase_iff).1 hi
   rcases apO.1 (h i this.2) with h|h
   ·exact absurd h this.1
   ·exact h)
  rw[List.length_erase] at ih
  simp only[List.length_cons]
  split at ih<;>omega
section
variable {G:Nat->List AV}{base nt:Nat}{L:List Nat}{gh:Gh}{w w' : World}{a:Act}
theorem Inv.BG{H0:ag}{gC:Gh}{w0:World} : ∀ (l:List Nat) (x:AS) (g0:Nat),Inv G base nt L H0 gC w0 x gh w a->l.Nodup->(∀ d,d∈l->d<nt/\∃ g cs,x.T d=.lbox g cs)->x.gen<=g0->l≠[] ->
  ∃ x',Inv G base nt L H0 gC w0 x' gh w a/\x'.H=x.H/\x'.lo=x.lo/\x'.gen=g0+l.length/\(∀ t,t∉l->x'.T t=x.T t)/\∀ (k d:Nat),l[k]?=some d->∀ g cs,x.T d=.lbox g cs->x'.T d=.lbox (g0+k) cs
 | [],x,g0,_,_,_,_,bC=>absurd rfl bC
 | d :: l,x,g0,hI,od,hb,hg,_=>by
  obtain⟨s6,wF⟩:=aqN.1 od
  obtain⟨hdn,g,cs,hT⟩:=hb d apP
  have hI1:=hI.rename hT hdn hg
  by_cases hl:l=[]
  ·subst hl
   refine⟨_,hI1,rfl,rfl,rfl,fun t ht=>?_,fun k e hk g' Oi he=>?_⟩
   ·simp only[apI] at ht
    simp[df,ht]
   ·cases k with
    | zero =>
     simp only[apH,apv] at hk
     subst hk
     rw[hT] at he
     injection he with h1 h2
     simp[df,h2]
    | succ k=>simp at hk
  ·obtain⟨x',r1,r2,r3,r4,r5,r6⟩:=Inv.BG l _ (g0+1) hI1 wF (fun e he=>by
    obtain⟨h1,g',Oi,h2⟩:=hb e (apU _ he)
    have bC:e≠d:=fun h=>s6 (h ▸ he)
    exact⟨h1,g',Oi,by simp[df,bC,h2]⟩) (apz _) hl
   refine⟨x',r1,r2,r3,by rw[r4];simp;omega,fun t ht=>?_,fun k e hk g' Oi he=>?_⟩
   ·rw[apO,not_or] at ht
    rw[r5 t ht.2]
    simp[df,ht.1]
   ·cases k with
    | zero =>
     simp only[apH,apv] at hk
     subst hk
     rw[hT] at he
     injection he with h1 h2
     rw[r5 d s6]
     simp[df,h2]
    | succ k =>
     have gm:l[k]?=some e:=by simpa using hk
     have bC:e≠d:=fun h=>s6 (h ▸ apF gm)
     rw[r6 k e gm g' Oi (by simp[df,bC,he])]
     congr 1
     omega
end
structure qX (L:List Nat) (ops:Array Oper) (is:List aj):Prop where
 len:ops.size=is.length
 back:∀ (i:Nat) (o:Oper),ops[i]?=some o->∀ e,e∈o.after->Region.binds .any e=true->e.on<i
 inL:∀ d,d∈aB is->d∈L
 some:aB is≠[]
 NK:∀ (i:Nat) (io:aj) (d:Nat),is[i]?=.some io->Bo (aB is) io=true->io.dst=.some d->d∉L
 rC:∀ (i:Nat) (io:aj),is[i]?=.some io->Bo (aB is) io=true->∀ t,t∈io.looks->t∉aB is
 once:∀ (i j:Nat) (p q:aj) (d:Nat),is[i]?=.some p->is[j]?=.some q->i≠j->q.dst=.some d->p.dst≠.some d
 look:∀ (i j:Nat) (o o' : Oper) (p q:aj) (d:Nat),ops[i]?=.some o->ops[j]?=.some o'->is[i]?=.some p->is[j]?=.some q->i≠j->q.dst=.some d->d∈p.looks ->
  (j<i/\∃ e,e∈o.after/\Region.binds .any e=true/\e.on=j)\/(i<j/\∃ e,e∈o'.after/\Region.binds .any e=true/\e.on=i)
 sY:∀ (i:Nat) (io:aj) (d:Nat) (y:ar),is[i]?=.some io->dU (aB is) io=.some (d,y)->∀ t,t∈y.tmps->t∉aB is
 aed:∀ (i j:Nat) (p q:aj) (d:Nat) (y:ar) (e:Nat) (x:ar),is[i]?=.some p->is[j]?=.some q->i≠j->dU (aB is) p=.some (d,y)->dU (aB is) q=.some (e,x)->d≠e
 DI:∀ (i j:Nat) (p q:aj) (d:Nat) (y:ar),is[i]?=.some p->is[j]?=.some q->i≠j->dU (aB is) p=.some (d,y)->∀ t,t∈y.tmps->t∉q.looks
 TQ:∀ (i j:Nat) (p q:aj) (d:Nat) (y:ar) (t:Nat),is[i]?=.some p->is[j]?=.some q->dU (aB is) p=.some (d,y)->q.dst=.some t->t=d\/t∈y.tmps->j<i
theorem Dn{L:List Nat}{ops:Array Oper}{is:List aj}(hl:ops.size=is.length)(h:rR L (ops.toList.zip is)=true):qX L ops is:=by
 have mem:∀ (i:Nat) (o:Oper) (io:aj),ops[i]?=some o->is[i]?=some io->((o,io),i)∈(ops.toList.zip is).zipIdx:=by
  intro i o io h1 h2
  rw[ap8]
  refine⟨i,?_⟩
  rw[ari,(aq9 (z:=(o,io))).2 ⟨by simpa using h1,h2⟩]
  simp
 have tR:∀ (i:Nat) (io:aj),is[i]?=some io->∃ o,ops[i]?=some o:=by
  intro i io hi
  have:i<ops.size:=by rw[hl];exact (apw.1 hi).1
  exact⟨_,apJ this⟩
 have abW:∀ (i:Nat) (o:Oper),ops[i]?=some o->∃ io,is[i]?=some io:=by
  intro i o hi
  have:i<is.length:=by rw[<- hl];exact (apD.1 hi).1
  exact⟨_,apy this⟩
 have hM:(ops.toList.zip is).map (·.2)=is:=by
  apply List.map_snd_zip
  simp[hl]
 unfold rR at h
 simp only[hM,Bool.and_eq_true,apA,aqg,arj] at h
 obtain⟨⟨bC,aj0⟩,h⟩:=h
 have Hh:∀ (i j:Nat) (o o' : Oper) (p q:aj),ops[i]?=some o->ops[j]?=some o'->is[i]?=some p->is[j]?=some q->i≠j->∀ d,q.dst=some d ->
   p.dst≠some d/\(d∈p.looks->if j<i then oK o j=true else oK o' i=true):=by
  intro i j o o' p q h1 h2 h3 h4 jn d hd
  have:=(h _ (mem i o p h1 h3)).2 _ (mem j o' q h2 h4)
  simp only[aqZ,dX,apS,hd] at this
  rcases this with this|this
  ·exact absurd this jn
  simp only[Bool.and_eq_true] at this
  refine⟨fun Bi=>?_,fun n7=>?_⟩
  ·rw[Bi] at this
   simp at this
  ·have h5:=this.2
   simp only[aqZ,aqg,aq3,aqs] at h5
   rcases h5 with h5|h5
   ·exact absurd n7 h5
   ·by_cases iz:j<i
    ·rw[if_pos iz]
     rw[show Nat.blt j i=true by simpa [ap0] using iz] at h5
     exact h5
    ·rw[if_neg iz]
     rw[show Nat.blt j i=false by simpa [<- arT,ap0] using iz] at h5
     exact h5
 have Ln:∀ (i:Nat) (p:aj) (d:Nat) (y:ar),is[i]?=some p->dU (aB is) p=some (d,y)->(∀ t,t∈y.tmps->t∉aB is)/\∀ (j:Nat) (q:aj),is[j]?=some q->i≠j ->
   (∀ e x,dU (aB is) q=some (e,x)->d≠e)/\(∀ t,t∈y.tmps->t∉q.looks)/\∀ t,q.dst=some t->t=d\/t∈y.tmps->j<i:=by
  intro i p d y hi hs
  obtain⟨o,ho⟩:=tR i p hi
  have:=(h _ (mem i o p ho hi)).1.2
  simp only[kindOk,hs,Bool.and_eq_true,apA,aqg,aq3,aqs] at this
  refine⟨this.1,fun j q hj jn=>?_⟩
  obtain⟨o',mY⟩:=tR j q hj
  have h2:=this.2 _ (mem j o' q mY hj)
  simp only[aqZ,dX,apS] at h2
  rcases h2 with h2|h2
  ·exact absurd h2 jn
  simp only[Bool.and_eq_true,apA,aqg,aqs] at h2
  refine⟨fun e x he hde=>?_,h2.1.2,fun t ht htd=>?_⟩
  ·have:=h2.1.1
   rw[he] at this
   simp[hde] at this
  ·have:=h2.2
   rw[ht] at this
   simp only[aqZ,aqg,Bool.or_eq_false_iff,aqs,ap0] at this
   rcases this with this|this
   ·rcases htd with h|h
    ·exact absurd h this.1
    ·exact absurd h this.2
   ·exact this
 have Z0:∀ (i:Nat) (p:aj),is[i]?=some p->Bo (aB is) p=true->(∀ d,p.dst=some d->d∉L)/\∀ t,t∈p.looks->t∉aB is:=by
  intro i p hi hp
  obtain⟨o,ho⟩:=tR i p hi
  have:=(h _ (mem i o p ho hi)).1.2
  have hn:dU (aB is) p=none:=by
   simp only[Bo,Bool.and_eq_true,aq0] at hp
   exact hp.2
  simp only[kindOk,hn,hp,cond_true,Bool.and_eq_true,apA,aqg,aq3,aqs] at this
  refine⟨fun d hd=>?_,this.2⟩
  have h1:=this.1
  rw[hd] at h1
  simpa using h1
 refine⟨hl,fun i o hi e he hb=>?_,fun d hd=>by simpa using aj0 d hd,bC,fun i io d hi hp hd=>(Z0 i io hi hp).1 d hd,fun i io hi hp=>(Z0 i io hi hp).2,fun i j p q d hp hq jn hd=>?_,fun i j o o' p q d h1 h2 h3 h4 jn hd n7=>?_,
  fun i io d y hi hs=>(Ln i io d y hi hs).1,fun i j p q d y e x hi hj jn hs pb=>((Ln i p d y hi hs).2 j q hj jn).1 e x pb,fun i j p q d y hi hj jn hs=>((Ln i p d y hi hs).2 j q hj jn).2.1,fun i j p q d y t hi hj hs hq ht=>?_⟩
 ·obtain⟨io,ly⟩:=abW i o hi
  have:=(h _ (mem i o io hi ly)).1.1
  simp only[AQ] at this
  rw[arn] at this
  have:=this e he
  simpa [hb,ap0] using this
 ·obtain⟨o,ho⟩:=tR i p hp
  obtain⟨o',mY⟩:=tR j q hq
  exact (Hh i j o o' p q ho mY hp hq jn d hd).1
 ·have:=(Hh i j o o' p q h1 h2 h3 h4 jn d hd).2 n7
  by_cases iz:j<i
  ·rw[if_pos iz] at this
   exact .inl ⟨iz,qb this⟩
  ·rw[if_neg iz] at this
   exact .inr ⟨by omega,qb this⟩
 ·by_cases jn:i=j
  ·subst jn
   rw[hi] at hj
   injection hj with hj
   subst hj
   obtain⟨_,sz,hp⟩:=gH hs
   rw[hp] at hq
   cases hq
  ·exact ((Ln i p d y hi hs).2 j q hj jn).2.2 t hq ht
end
section
def BU(M:List Nat)(is:List aj)(A:Nat->Prop)(t:Nat):Prop:=∃ (j:Nat) (o:aj) (e:Nat) (y:ar),A j/\is[j]?=some o/\dU M o=some (e,y)/\t∈y.tmps
structure Og (G:Nat->List AV) (is:List aj) (s s2 s3:AS) (D:Nat->Option Nat) (V:Nat->AV) (A:Nat->Prop) (x:AS):Prop where
 H:x.H=s.H
 lo:x.lo=s.lo
 z6:∀ i,A i->∀ d,D i=some d->¬ BU (aB is) is A d->x.T d=V i
 not:∀ t,t∉aB is->(∀ i,A i->D i≠some t)->¬ BU (aB is) is A t->x.T t=s.T t
 spd:∀ t,BU (aB is) is A t->x.T t=disown (s2.T t)
 bxA:∀ (i:Nat) (o:aj) (d:Nat),A i->is[i]?=some o->fJ o=some d->(∀ (j:Nat) (p:aj) (e:Nat) (y:ar),A j->is[j]?=some p->dU (aB is) p=some (e,y)->e≠d)->∃ g,x.T d=.lbox g (sa o)
 bxS:∀ (j:Nat) (p:aj) (d:Nat) (y:ar),A j->is[j]?=some p->dU (aB is) p=some (d,y)->∃ g k z vs,s3.T d=.lbox k z/\(y.eval G s3.T).cells=some vs/\x.T d=.lbox g (putAt z 0 vs)
section
variable {G:Nat->List AV}{is:List aj}{L:List Nat}{ops:Array Oper}{s s2 s3 x:AS}{D:Nat->Option Nat}{V:Nat->AV}{A:Nat->Prop}
theorem sB{i:Nat}{o:aj}{d:Nat}(hi:is[i]?=some o)(h:fJ o=some d):d∈aB is:=by
 unfold aB
 rw[ar3]
 exact⟨o,apF hi,h⟩
theorem rP{d:Nat}(h:d∈aB is):∃ (i:Nat) (o:aj),is[i]?=some o/\fJ o=some d:=by
 unfold aB at h
 rw[ar3] at h
 obtain⟨o,ho,h⟩:=h
 obtain⟨i,hi⟩:=ap8.1 ho
 exact⟨i,o,hi,h⟩
theorem gG{o:aj}{d:Nat}(h:fJ o=some d):o.dst=some d:=by rw[pK h]
theorem YR{M:List Nat}{o:aj}{d:Nat}(h:fJ o=some d):dU M o=none:=by rw[pK h];rfl
theorem YS{M:List Nat}{o:aj}{p:Nat × ar}(h:dU M o=some p):fJ o=none:=by
 obtain⟨d,y⟩:=p
 obtain⟨_,sz,ho⟩:=gH h
 rw[ho];rfl
theorem SP{M:List Nat}{o:aj}(h:Bo M o=true):dU M o=none/\fJ o=none:=by
 simp only[Bo,Bool.and_eq_true,aq0] at h
 exact⟨h.2,h.1⟩
theorem BU.notM(da:qX L ops is){t:Nat}(h:BU (aB is) is A t):t∉aB is:=by
 obtain⟨j,o,e,y,_,hj,hs,ht⟩:=h
 exact da.sY j o e y hj hs t ht
theorem BU.more{B:Nat->Prop}(hAB:∀ i,A i->B i){t:Nat}(h:BU (aB is) is A t):BU (aB is) is B t:=by
 obtain⟨j,o,e,y,h1,h2⟩:=h
 exact⟨j,o,e,y,hAB j h1,h2⟩
theorem BU.less{i:Nat}{o:aj}(hi:is[i]?=some o)(hs:dU (aB is) o=none){t:Nat}(h:BU (aB is) is (fun j=>A j\/j=i) t):BU (aB is) is A t:=by
 obtain⟨j,p,e,y,h1,h2,h3,h4⟩:=h
 rcases h1 with h1|rfl
 ·exact⟨j,p,e,y,h1,h2,h3,h4⟩
 ·rw[hi] at h2
  injection h2 with h2
  subst h2
  rw[hs] at h3
  cases h3
theorem Og.pure(da:qX L ops is)(h:Og G is s s2 s3 D V A x){i:Nat}{o:aj}(hi:is[i]?=some o)(hP:Bo (aB is) o=true)(hD:D i=o.dst)
  (HS:∀ (j d:Nat),D j=some d->∃ q,is[j]?=some q/\Bo (aB is) q=true/\q.dst=some d)
  (fP:∀ (j:Nat) (p:aj) (d:Nat) (y:ar) (t:Nat),A j->is[j]?=some p->dU (aB is) p=some (d,y)->t∈y.tmps->o.dst≠some t) :
  Og G is s s2 s3 D V (fun j=>A j\/j=i) (x.bR (D i) (V i)):=by
 obtain⟨hS,hA⟩:=SP hP
 have other:∀ t,D i≠some t->(x.bR (D i) (V i)).T t=x.T t:=by
  intro t ht
  cases hd:D i with
  | none=>rfl
  | some d =>
   simp only[AS.bR,AS.bu,df]
   rw[if_neg]
   rintro rfl
   exact ht hd
 have Tn:∀ t,t∈aB is->D i≠some t:=fun t ht hd=>da.NK i o t hi hP (by rw[<- hD];exact hd) (da.inL t ht)
 refine⟨by rw[(gS _ _ _).1,h.H],by rw[(gS _ _ _).2.2,h.lo],fun j hj d hd C5=>?_,fun t ht jI C5=>?_,fun t ht=>?_,fun j p d hj hp hd jI=>?_,fun j p d y hj hp hd=>?_⟩
 ·by_cases iz:j=i
  ·subst iz
   rw[hd]
   simp[AS.bR,AS.bu,df]
  ·rcases hj with hj|hj
   ·rw[other d (fun hdi=>by
     obtain⟨q,hq,_,tK⟩:=HS j d hd
     exact da.once i j o q d hi hq (aqM iz) tK (by rw[<- hD];exact hdi))]
    exact h.z6 j hj d hd (fun hs=>C5 (hs.more fun _=>.inl))
   ·exact absurd hj iz
 ·rw[other t (jI i (.inr rfl))]
  exact h.not t ht (fun j hj=>jI j (.inl hj)) (fun hs=>C5 (hs.more fun _=>.inl))
 ·have ht':=ht.less hi hS
  obtain⟨j,p,e,y,h1,h2,h3,h4⟩:=id ht'
  rw[other t (fun hd=>fP j p e y t h1 h2 h3 h4 (by rw[<- hD];exact hd))]
  exact h.spd t ht'
 ·have iz:j≠i:=by
   rintro rfl
   rw[hi] at hp
   injection hp with hp
   subst hp
   rw[hA] at hd
   cases hd
  rcases hj with hj|hj
  ·rw[other d (Tn d (sB hp hd))]
   exact h.bxA j p d hj hp hd (fun k q e y hk=>jI k q e y (.inl hk))
  ·exact absurd hj iz
 ·have iz:j≠i:=by
   rintro rfl
   rw[hi] at hp
   injection hp with hp
   subst hp
   rw[hS] at hd
   cases hd
  rcases hj with hj|hj
  ·rw[other d (Tn d (gH hd).1)]
   exact h.bxS j p d y hj hp hd
  ·exact absurd hj iz
theorem Og.alloc(da:qX L ops is)(h:Og G is s s2 s3 D V A x){i:Nat}{o:aj}{d:Nat}(hi:is[i]?=some o)(hA:fJ o=some d)
  (HS:∀ (j d:Nat),D j=some d->∃ q,is[j]?=some q/\Bo (aB is) q=true/\q.dst=some d) {g n:Nat}
  (fP:∀ (j:Nat) (p:aj) (e:Nat) (y:ar),A j->is[j]?=some p->dU (aB is) p=some (e,y)->e≠d) :
  Og G is s s2 s3 D V (fun j=>A j\/j=i) (({ x with gen:=n } : AS).bR (some d) (.lbox g (sa o))):=by
 have HU:=sB hi hA
 have other:∀ t,t≠d->(({ x with gen:=n } : AS).bR (some d) (.lbox g (sa o))).T t=x.T t:=by
  intro t ht
  simp[AS.bR,AS.bu,df,ht]
 have ac4:∀ j e,D j=some e->e≠d:=by
  rintro j e hj rfl
  obtain⟨q,hq,hp,tK⟩:=HS j e hj
  exact da.NK j q e hq hp tK (da.inL e HU)
 have noS:dU (aB is) o=none:=YR hA
 refine⟨h.H,h.lo,fun j hj e he C5=>?_,fun t ht jI C5=>?_,fun t ht=>?_,fun j p e hj hp he jI=>?_,fun j p e y hj hp he=>?_⟩
 ·rcases hj with hj|rfl
  ·rw[other e (ac4 j e he)]
   exact h.z6 j hj e he (fun hs=>C5 (hs.more fun _=>.inl))
  ·obtain⟨q,hq,hp,_⟩:=HS j e he
   rw[hi] at hq
   injection hq with hq
   subst hq
   rw[(SP hp).2] at hA
   cases hA
 ·rw[other t (fun h=>ht (h ▸ HU))]
  exact h.not t ht (fun j hj=>jI j (.inl hj)) (fun hs=>C5 (hs.more fun _=>.inl))
 ·have ht':=ht.less hi noS
  rw[other t (fun h=>ht'.notM da (h ▸ HU))]
  exact h.spd t ht'
 ·by_cases iz:j=i
  ·subst iz
   rw[hi] at hp
   injection hp with hp
   subst hp
   rw[hA] at he
   injection he with he
   subst he
   exact⟨g,by simp[AS.bR,AS.bu,df]⟩
  ·rcases hj with hj|hj
   ·rw[other e (by
     rintro rfl
     exact da.once i j o p e hi hp (aqM iz) (gG he) (gG hA))]
    exact h.bxA j p e hj hp he (fun k q e y hk=>jI k q e y (.inl hk))
   ·exact absurd hj iz
 ·rcases hj with hj|rfl
  ·rw[other e (fP j p e y hj hp he)]
   exact h.bxS j p e y hj hp he
  ·rw[hi] at hp
   injection hp with hp
   subst hp
   rw[noS] at he
   cases he
theorem Og.store(da:qX L ops is)(h:Og G is s s2 s3 D V A x){i:Nat}{o:aj}{d:Nat}{y:ar}(hi:is[i]?=some o)(hs:dU (aB is) o=some (d,y))
  (HS:∀ (j d:Nat),D j=some d->∃ q,is[j]?=some q/\Bo (aB is) q=true/\q.dst=some d) (Ai:¬ A i) {g k:Nat} {z vs:List AV}
  (h3:s3.T d=.lbox k z) (pQ:(y.eval G s3.T).cells=some vs) (hy:∀ t,t∈y.tmps->x.T t=s2.T t) :
  Og G is s s2 s3 D V (fun j=>A j\/j=i) ((x.bu d (.lbox g (putAt z 0 vs))).bH y):=by
 obtain⟨HU,sz,ho⟩:=gH hs
 have Ou:=da.sY i o d y hi hs
 have other:∀ t,t∉y.tmps->t≠d->((x.bu d (.lbox g (putAt z 0 vs))).bH y).T t=x.T t:=by
  intro t h1 h2
  rw[rY _ _ h1]
  simp[AS.bu,df,h2]
 have atd:((x.bu d (.lbox g (putAt z 0 vs))).bH y).T d=.lbox g (putAt z 0 vs):=by
  rw[rY _ _ (fun hm=>Ou d hm HU)]
  simp[AS.bu,df]
 have aty:∀ t,t∈y.tmps->((x.bu d (.lbox g (putAt z 0 vs))).bH y).T t=disown (x.T t):=by
  intro t ht
  cases y with
  | tmp u =>
   simp only[ar.tmps,apI] at ht
   subst ht
   rw[v7,if_pos rfl]
   have:t≠d:=fun h=>Ou t (by simp[ar.tmps]) (h ▸ HU)
   simp[AS.bu,df,this]
  | _=>simp[ar.tmps] at ht
 have spI:∀ t,t∈y.tmps->BU (aB is) is (fun j=>A j\/j=i) t:=fun t ht=>⟨i,o,d,y,.inr rfl,hi,hs,ht⟩
 have spy:∀ t,BU (aB is) is A t->t∉y.tmps:=by
  rintro t ⟨j,p,e,y',hj,hp,pb,ht⟩ hm
  have iz:j≠i:=by rintro rfl;exact Ai hj
  refine da.DI j i p o e y' hp hi iz pb t ht ?_
  rw[ho]
  simp[aj.looks,fq.tmps,hm]
 have ah4:∀ t,BU (aB is) is (fun j=>A j\/j=i) t->BU (aB is) is A t\/t∈y.tmps:=by
  rintro t ⟨j,p,e,y',hj,hp,pb,ht⟩
  rcases hj with hj|rfl
  ·exact .inl ⟨j,p,e,y',hj,hp,pb,ht⟩
  ·rw[hi] at hp
   injection hp with hp
   subst hp
   rw[hs] at pb
   injection pb with pb
   injection pb with _ pb
   subst pb
   exact .inr ht
 have ac4:∀ j e,D j=some e->e≠d:=by
  rintro j e hj rfl
  obtain⟨q,hq,hp,tK⟩:=HS j e hj
  exact da.NK j q e hq hp tK (da.inL e HU)
 refine⟨by rw[(pL _ _).1];exact h.H,by rw[(pL _ _).2.2];exact h.lo,fun j hj e he C5=>?_,fun t ht jI C5=>?_,fun t ht=>?_,fun j p e hj hp he jI=>?_,fun j p e y' hj hp he=>?_⟩
 ·rw[other e (fun hm=>C5 (spI e hm)) (ac4 j e he)]
  rcases hj with hj|rfl
  ·exact h.z6 j hj e he (fun hs=>C5 (hs.more fun _=>.inl))
  ·obtain⟨q,hq,hp,_⟩:=HS j e he
   rw[hi] at hq
   injection hq with hq
   subst hq
   rw[(SP hp).1] at hs
   cases hs
 ·rw[other t (fun hm=>C5 (spI t hm)) (fun h=>ht (h ▸ HU))]
  exact h.not t ht (fun j hj=>jI j (.inl hj)) (fun hs=>C5 (hs.more fun _=>.inl))
 ·rcases ah4 t ht with h1|h1
  ·rw[other t (spy t h1) (fun h=>h1.notM da (h ▸ HU))]
   exact h.spd t h1
  ·rw[aty t h1,hy t h1]
 ·rcases hj with hj|rfl
  ·have M4:e≠d:=by
    rintro rfl
    exact jI i o e y (.inr rfl) hi hs rfl
   rw[other e (fun hm=>Ou e hm (sB hp he)) M4]
   exact h.bxA j p e hj hp he (fun k q e y hk=>jI k q e y (.inl hk))
  ·rw[hi] at hp
   injection hp with hp
   subst hp
   rw[YS hs] at he
   cases he
 ·by_cases iz:j=i
  ·subst iz
   rw[hi] at hp
   injection hp with hp
   subst hp
   rw[hs] at he
   injection he with he
   injection he with e1 e2
   subst e1 e2
   exact⟨g,k,z,vs,h3,pQ,atd⟩
  ·rcases hj with hj|hj
   ·rw[other e (fun hm=>Ou e hm (gH he).1) (da.aed j i p o e y' d y hp hi iz he hs)]
    exact h.bxS j p e y' hj hp he
   ·exact absurd hj iz
end
end
theorem mF:∀ (l:List aj),(∀ (i j:Nat) (p q:aj) (d:Nat),l[i]?=some p->l[j]?=some q->i≠j->fJ p=some d->fJ q≠some d)->(l.filterMap fJ).Nodup
 | [],_=>by simp
 | o :: l,h=>by
  have ih:=mF l (fun i j p q d hi hj jn=>h (i+1) (j+1) p q d (by simpa using hi) (by simpa using hj) (by omega))
  cases ho:fJ o with
  | none=>simpa [aqY,ho] using ih
  | some d =>
   simp only[aqY,ho]
   refine aqN.2 ⟨fun hm=>?_,ih⟩
   rw[ar3] at hm
   obtain⟨q,hq,tK⟩:=hm
   obtain⟨j,hj⟩:=ap8.1 hq
   exact h 0 (j+1) o q d rfl (by simpa using hj) (by omega) ho tK
theorem mr:∀ (l:List aj),(rQ l).filterMap fJ=aB l
 | []=>rfl
 | o :: l=>by
  have ih:=mr l
  unfold rQ aB at *
  cases ho:fJ o with
  | none=>simpa [aqY,arc,ho] using ih
  | some d=>simpa [aqY,arc,ho] using ih
theorem uA:∀ (l:List aj),(∀ o,o∈l->(fJ o).isSome=true)->∀ (k:Nat),(l.filterMap fJ)[k]?=(l[k]?).bind fJ
 | [],_,k=>by simp
 | o :: l,h,k=>by
  obtain⟨d,hd⟩:=aqp.1 (h o apP)
  have ih:=uA l (fun o ho=>h o (apU _ ho))
  simp only[aqY,hd]
  cases k with
  | zero=>simp[hd]
  | succ k=>simpa using ih k
theorem s5:∀ (l:List aj),(∀ o,o∈l->(fJ o).isSome=true)->(l.filterMap fJ).length=l.length
 | [],_=>rfl
 | o :: l,h=>by
  obtain⟨d,hd⟩:=aqp.1 (h o apP)
  have ih:=s5 l (fun o ho=>h o (apU _ ho))
  simp[aqY,hd,ih]
structure H6 (G:Nat->List AV) (cf:cA) (is:List aj) (s s1 s2 s3 s' : AS) (V:Nat->AV) (S:Nat->AS) (D:Nat->Option Nat):Prop where
 H1:s1.H=s.H
 lo1:s1.lo=s.lo
 g1:s1.gen=s.gen+(aB is).length
 T1:∀ t,s1.T t=if t∈aB is then .undef else s.T t
 DP:∀ (i:Nat) (io:aj),is[i]?=some io->Bo (aB is) io=true->D i=io.dst/\kD G cf true (S i) io=some (V i,S i)
 gV:∀ (i:Nat),i<is.length->aP (V i)=none
 aff:∀ (i d:Nat),D i=some d->∃ q,is[i]?=some q/\Bo (aB is) q=true/\q.dst=some d
 wr:∀ (k:Nat),k<=is.length->Agree s1 D V (fun i=>i<k) (S k)
 Z8:Agree s1 D V (fun i=>i<is.length) s2
 H3:s3.H=s2.H
 lo3:s3.lo=s2.lo
 g3:s3.gen=s2.gen+(aB is).length
 T3:∀ t,t∉aB is->s3.T t=s2.T t
 A3:∀ (i:Nat) (o:aj) (d:Nat),is[i]?=some o->fJ o=some d->∃ (k:Nat),(aB is)[k]?=some d/\s3.T d=.lbox (s2.gen+k) (sa o)
 H4:s'.H=s3.H
 lo4:s'.lo=s3.lo
 g4:s'.gen=s3.gen
 T4:∀ t,(∀ (i:Nat) (p:aj) (d:Nat) (y:ar),is[i]?=some p->dU (aB is) p=some (d,y)->t≠d/\t∉y.tmps)->s'.T t=s3.T t
 S4:∀ (i:Nat) (p:aj) (d:Nat) (y:ar),is[i]?=some p->dU (aB is) p=some (d,y)->∃ sz g z vs,p=⟨none,none,.store sz (.tmp d) y⟩/\s3.T d=.lbox g z/\(y.eval G s3.T).cells=some vs/\vs.length=sz/\sz<=z.length/\vs.all aq=true /\
   s'.T d=.lbox g (putAt z 0 vs)/\∀ t,t∈y.tmps->s'.T t=disown (s3.T t)
theorem pieces{G:Nat->List AV}{cf:cA}{L:List Nat}{ops:Array Oper}{is:List aj}(da:qX L ops is){s s1 s2 s3 s' : AS}(h1:bP G cf false (lU (aB is)) s=some s1)(h2:bP G cf true (pD (aB is) is) s1=some s2)
  (h3:bP G cf false (rQ is) s2=some s3) (h4:bP G cf false (wQ (aB is) is) s3=some s'):∃ V S D,H6 G cf is s s1 s2 s3 s' V S D:=by
 obtain⟨m1,m2,m3,m4⟩:=y7 _ _ _ h1
 obtain⟨S,V,h0,hn,hS⟩:=qg _ s1 s2 h2
 have hlen:(pD (aB is) is).length=is.length:=by simp[pD]
 have vI:∀ (i:Nat),(pD (aB is) is)[i]?=(is[i]?).map fun o=>cond (Bo (aB is) o) o ahd:=fun i=>by simp[pD]
 let D:Nat->Option Nat:=fun i=>((pD (aB is) is)[i]?).bind (·.dst)
 have hD:∀ (i:Nat) (io:aj),(pD (aB is) is)[i]?=some io->D i=io.dst:=fun i io h=>by simp[D,h]
 have hDP:∀ (i:Nat) (io:aj),is[i]?=some io->Bo (aB is) io=true->(pD (aB is) is)[i]?=some io:=fun i io h hp=>by rw[vI,h];simp[hp]
 have uF:∀ (i d:Nat),D i=some d->∃ q,is[i]?=some q/\Bo (aB is) q=true/\q.dst=some d:=by
  intro i d h
  simp only[D,vI,apu,apt] at h
  obtain⟨_,⟨q,hq,rfl⟩,hd⟩:=h
  cases hp:Bo (aB is) q with
  | true=>rw[hp] at hd;exact⟨q,hq,hp,hd⟩
  | false=>rw[hp] at hd;cases hd
 have uK:∀ (i j d:Nat),i≠j->D i=some d->D j≠some d:=by
  intro i j d jn hi hj
  obtain⟨p,hp,_,Bi⟩:=uF i d hi
  obtain⟨q,hq,_,tK⟩:=uF j d hj
  exact da.once i j p q d hp hq jn tK Bi
 have pt:∀ k,k<=is.length->Agree s1 D V (fun i=>i<k) (S k):=by
  intro k
  induction k with
  | zero=>intro _;rw[h0];exact⟨rfl,rfl,rfl,fun i hi=>absurd hi (arY _),fun t _=>rfl⟩
  | succ k ih =>
   intro hk
   have ly:=apy (show k<(pD (aB is) is).length by omega)
   obtain⟨_,_,h3⟩:=hS k _ ly
   rw[h3,<- hD k _ ly]
   have:=(ih (by omega)).put (i:=k) (fun j hj bC d hd=>uK k j d (aqM bC) hd)
   refine⟨this.H,this.gen,this.lo,fun i hi=>this.z6 i (by rcases aqP i k with h|h;exact .inl h;exact .inr (by omega)),fun t ht=>this.not t (fun i hi=>ht i (by rcases hi with h|h<;>omega))⟩
 have aa2:∀ o,o∈rQ is->(fJ o).isSome=true:=fun o ho=>(aqx.1 ho).2
 have od:(aB is).Nodup:=mF is (fun i j p q d hi hj jn hp hq=>da.once i j p q d hi hj jn (gG hq) (gG hp))
 obtain⟨a1,a2,a3,a4,a5⟩:=G9 (rQ is) s2 s3 aa2 (by rw[mr];exact od) h3
 rw[mr] at a4
 have agu:(rQ is).length=(aB is).length:=by rw[<- mr,s5 _ aa2]
 have hA3:∀ (i:Nat) (o:aj) (d:Nat),is[i]?=some o->fJ o=some d->∃ (k:Nat),(aB is)[k]?=some d/\s3.T d=.lbox (s2.gen+k) (sa o):=by
  intro i o d hi ho
  have hm:o∈rQ is:=aqx.2 ⟨apF hi,by simp[ho]⟩
  obtain⟨k,hk⟩:=ap8.1 hm
  refine⟨k,?_,a5 k o d hk ho⟩
  rw[<- mr,uA _ aa2,hk]
  exact ho
 have afW:∀ o,o∈wQ (aB is) is->(dU (aB is) o).isSome=true:=fun o ho=>(aqx.1 ho).2
 have af1:∀ p,p∈wQ (aB is) is->∃ (i:Nat),is[i]?=some p:=fun p hp=>ap8.1 (aqx.1 hp).1
 have hpw:is.Pairwise (fun p q=>∀ (d:Nat) (y:ar) (e:Nat) (x:ar),dU (aB is) p=some (d,y)->dU (aB is) q=some (e,x)->d≠e/\(∀ t,t∈y.tmps->t∉x.tmps)):=by
  rw[List.pairwise_iff_getElem]
  intro i j hi hj jn d y e x hp hq
  have e1:=apy hi
  have e2:=apy hj
  refine⟨da.aed i j _ _ d y e x e1 e2 (by omega) hp hq,fun t ht hm=>da.DI i j _ _ d y e1 e2 (by omega) hp t ht ?_⟩
  obtain⟨_,sz,ho⟩:=gH hq
  rw[ho]
  simp[aj.looks,fq.tmps,hm]
 have abH:=hpw.filter (fun o=>(dU (aB is) o).isSome)
 rw[List.pairwise_iff_getElem] at abH
 obtain⟨e1,e2,e3,e4,e5⟩:=Hb (M:=aB is) (wQ (aB is) is) s3 s' afW (fun i j p q d y e x hi hj jn hp hq=>by
   obtain⟨jr,rfl⟩:=apw.1 hi
   obtain⟨hJ,rfl⟩:=apw.1 hj
   rcases Nat.lt_or_gt_of_ne jn with h|h
   ·exact abH i j jr hJ h d y e x hp hq
   ·have:=abH j i hJ jr h e x d y hq hp
    exact⟨aqM this.1,fun t h1 h2=>this.2 t h2 h1⟩)
  (fun p d y hp hs=>by
   obtain⟨i,hi⟩:=af1 p hp
   exact da.sY i p d y hi hs)
  (fun d hd=>by
   obtain⟨i,o,hi,ho⟩:=rP hd
   obtain⟨k,_,hk⟩:=hA3 i o d hi ho
   exact⟨_,_,hk⟩) h4
 refine⟨V,S,D,m1,m2,m3,m4,fun i io hi hp=>⟨hD i io (hDP i io hi hp),(hS i io (hDP i io hi hp)).1⟩,fun i hi=>?_,uF,pt,?_,a1,a2,by rw[a3,agu],a4,hA3,e1,e2,e3,fun t ht=>e4 t (fun p d y hp hs=>?_),fun i p d y hi hs=>e5 p d y ?_ hs⟩
 ·have ly:=apy (show i<(pD (aB is) is).length by omega)
  exact (hS i _ ly).2.1
 ·have:=pt _ (apz _)
  rw[<- hlen,hn] at this
  rw[<- hlen]
  exact this
 ·obtain⟨i,hi⟩:=af1 p hp
  exact ht i p d y hi hs
 ·exact aqx.2 ⟨apF hi,by simp[hs]⟩
end Go.Abs
