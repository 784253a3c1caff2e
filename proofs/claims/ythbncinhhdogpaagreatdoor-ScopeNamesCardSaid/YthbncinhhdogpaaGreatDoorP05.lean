/-
  A part of the proof of ScopeNames: AbsEvOp, AbsRun, AbsDraw, AbsDraw2, AbsDraw3, AbsDraw4.
-/
import Derived.LoopN
import Derived.Scope
import Derived.Tactics
import Derived.Orders
import Derived.Test.YthbncinhhdogpaaGreatDoorP04
set_option linter.unusedSimpArgs false
set_option linter.unusedVariables false
set_option linter.defProp false
namespace Go.Abs
section
theorem tR(bF:List Nat)(d:Option Nat)(g:an)(ys:List an):qH bF d g ys=.call g ys\/∃ n pre x post,g=.fn n/\ys=pre++x :: post/\qH bF d g ys=.tK n pre x post:=by
 unfold qH
 split
 ·rename_i n
  split
  ·rename_i k hk
   split
   ·rename_i x post hd
    exact .inr ⟨n,ys.take k,x,post,rfl,by rw[<- hd,List.take_append_drop],rfl⟩
   ·exact .inl rfl
  ·exact .inl rfl
 ·exact .inl rfl
section
variable {P:Program}{G:Nat->List AV}{base nt:Nat}{L:List Nat}{gh:Gh}{w w' : World}{a:Act}{s:AS}{H:ah}
theorem wb{locals:List Nat}{d:Option Nat}(h:isLocal locals d=true):∃ k,d=some k/\k∈locals:=by
 cases d with
 | none=>cases h
 | some k=>exact⟨k,rfl,by simpa [isLocal] using h⟩
theorem tg{l:List Nat}{d:Option Nat}(h:iI l d=true):∃ k,d=some k/\k∈l:=by
 cases d with
 | none=>cases h
 | some k=>exact⟨k,rfl,by simpa [iI] using h⟩
theorem ML{k:ly}{V:Value}{e:List (List AV)}{z:AV}{t:TypeId}{ao:Option Addr}{cap:Nat}(hV:V=.slice ao e.length cap)(ht:match k with|.str=>P.underlying t=some .string|.sl=>∃ e,P.underlying t=some (.slice e)|.arr m=>∃ e,P.underlying t=some (.array m e))
  (he:kx k (.slice e false)=some z) (ty:TypeId) {n:Nat} : ∃ v,(Builtin.len_ #[t] ty #[V]).run P w=.ok v w/\VR gh n w v z:=by
 subst hV
 cases k<;>simp only[kx,aoQ,reduceCtorEq] at he<;>subst he
 ·obtain⟨e',ht⟩:=ht
  exact⟨.int .i64 e.length,by simp[Builtin.len_,run_underlying ht,goInt],.plain _ _ (.int _ _)⟩
 ·obtain⟨e',ht⟩:=ht
  exact⟨.int .i64 _,by simp[Builtin.len_,run_underlying ht,goInt],.plain _ _ (.int _ _)⟩
theorem YB(hW:aK G base s.H gh w)(hF:FR L nt gh w a s){o:Oper}{c:Call}{x y:Operand}{ix iy:an}{mx:Bool}{z:AV}(ho:o.op=.call c)(gf:c.callee=.builtin (cond mx .max .min))(dy:c.args.toList=[x,y])
  (hx:ak nt x=some ix) (hy:ak nt y=some iy) (he:Sg mx (ix.eval G s.T) (iy.eval G s.T)=some z):∃ v,(execOp a.eval o).run P w=.ok (.value v) w/\lZ gh s.H.length nt w s.T s.gen (fj a) v z:=by
 generalize hX:ix.eval G s.T=X at he
 generalize hY:iy.eval G s.T=Y at he
 unfold Sg at he
 split at he
 ·obtain⟨h0,he⟩:=ab he
  injection he with he
  subst he
  have h1:=(bY hW hF hx hX rfl).jE
  have h2:=(bY hW hF hy hY rfl).jE
  have e1:c.args=#[x,y]:=by apply aqU;simpa using dy
  cases mx
  ·refine⟨_,?_,.cF (.plain _ _ (.int _ _))⟩
   unfold execOp
   simp only[ho,resolve,gf,e1,invoke,builtin,Sem.run_bind,Sem.run_pure,Result.andThen_ok,aqX,apm,apz,aoZ,h1,h2,Builtin.min_,Builtin.min2,List.foldlM_cons,List.foldlM_nil]
  ·refine⟨_,?_,.cF (.plain _ _ (.int _ _))⟩
   unfold execOp
   simp only[ho,resolve,gf,e1,invoke,builtin,Sem.run_bind,Sem.run_pure,Result.andThen_ok,aqX,apm,apz,cond_true,h1,h2,Builtin.max_,Builtin.max2,List.foldlM_cons,List.foldlM_nil]
 ·cases he
theorem Wx{m:Nat}{V:Value}{t e:TypeId}(ht:P.underlying t=some (.array m e))(ty:TypeId){n:Nat} : ∃ v,(Builtin.len_ #[t] ty #[V]).run P w=.ok v w/\VR gh n w v (.int .i64 m) :=
 ⟨.int .i64 _,by simp[Builtin.len_,run_underlying ht,goInt],.plain _ _ (.int _ _)⟩
theorem Ih(hW:aK G base s.H gh w)(hF:FR L nt gh w a s){o:Oper}{c:Call}{x:Operand}{t:TypeId}{y:an}{k:ly}{z:AV}{s' : Option AS}{cf:cu}
  (ho:o.op=.call c) (gf:c.callee=.builtin .len) (dy:c.args.toList=[x]) (jl:c.argTypes.toList=[t]) (hc:ak nt x=some y)
  (ht:match k with|.str=>P.underlying t=some .string|.sl=>∃ e,P.underlying t=some (.slice e)|.arr m=>∃ e,P.underlying t=some (.array m e))
  (he:aq G cf s (.len k y)=some (z,s')):s'=none/\∃ v,(execOp a.eval o).run P w=.ok (.value v) w/\lZ gh s.H.length nt w s.T s.gen (fj a) v z:=by
 simp only[aq] at he
 have fin:∀ {zz:AV},(∃ v,(Builtin.len_ #[t] o.type #[a.eval x]).run P w=.ok v w/\VR gh s.H.length w v zz)->∃ v,(execOp a.eval o).run P w=.ok (.value v) w/\lZ gh s.H.length nt w s.T s.gen (fj a) v zz :=
  fun ⟨v,h1,h2⟩=>⟨v,uH ho gf dy jl h1,.cF h2⟩
 split at he
 ·rename_i tt g hy
  split at he
  ·rename_i g' e hT
   obtain⟨h0,he⟩:=ab he
   have Dp:g=g':=by simpa [dR] using h0
   simp only[aoO,aoS] at he
   obtain⟨z',hz,rfl,rfl⟩:=he
   refine⟨rfl,fin ?_⟩
   have hv:=arg_val hW hF hc
   rw[hy] at hv
   obtain⟨hb,_,hr⟩:=(hv:_/\_/\_)
   have l5:=hr (by rw[hT,<- Dp];rfl)
   obtain⟨ad,cap,hV,_⟩:=nI hF hb hT
   exact ML (l5.trans hV) ht hz o.type
  ·cases he
 ·simp only[aoO,aoS] at he
  obtain⟨z',hz,rfl,rfl⟩:=he
  refine⟨rfl,fin ?_⟩
  cases k with
  | arr m =>
   obtain⟨e,ht⟩:=ht
   simp only[kx,aoQ] at hz
   subst hz
   exact Wx ht o.type
  | _ =>
   have Co:al (y.addr G s.T)=true:=by
    generalize y.addr G s.T=Y at hz
    cases Y<;>first|rfl|(simp[kx] at hz)
   exact Ua (mD hW hF hc rfl Co) ht hz o.type
theorem xI{cf:cu}(iu:cP P G cf)(hW:aK G base s.H gh w)(hF:FR L nt gh w a s){bF locals muts:List Nat}{o:Oper}{io:fc}(bk:cG P bF locals muts nt o.dst o.op=some io)
  (uQ:∀ x,x∈locals->x∈L) (uR:∀ x,x∈muts->x∈L) {z:AV} {s' : Option AS} (he:aq G cf s io=some (z,s')) (hd:∀ k,o.dst=some k->k<nt) (K:Act->World->Prop) (Q:Exit->Act->World->Prop)
  (hK:∀ v' aH w',Out G base nt L gh w a s o.dst z (s'.getD s) v' aH w'->K (a.put o.dst v') w'):o.wp P a w K Q:=by
 have fin:s'=none->(∃ v,(execOp a.eval o).run P w=.ok (.value v) w/\lZ gh s.H.length nt w s.T s.gen (fj a) v z)->o.wp P a w K Q:=by
  rintro rfl ⟨v,h1,h2⟩
  exact sm.wp (.inl h1) (hK v gh w (Out.pure hW hF hd h2))
 have oo:(∃ v' aH w',sm P a o w v' w'/\Out G base nt L gh w a s o.dst z (s'.getD s) v' aH w')->o.wp P a w K Q:=by
  rintro ⟨v',aH,w',h1,h2⟩
  exact sm.wp h1 (hK v' aH w' h2)
 have afM:∀ x y,(o.op=.move x\/o.op=.assign x)->ak nt x=some y->io=.mov (iI bF o.dst) (iI muts o.dst) (cond (iI muts o.dst) (CL y) y)->o.wp P a w K Q:=by
  intro x y ho hc kX
  subst kX
  simp only[aq] at he
  by_cases Mp:∃ v,y=.cg v/\iI muts o.dst=true
  ·obtain⟨v,rfl,hm⟩:=Mp
   rw[hm] at he
   simp only[cond_true,CL,kV,aoQ,aoS,an.eval] at he
   obtain⟨rfl,rfl⟩:=he
   refine fin rfl ⟨a.eval x,?_,.cF ?_⟩
   ·rcases ho with ho|ho<;>simp[execOp,ho]
   ·cases x with
    | tmp k =>
     simp only[ak] at hc
     rcases apE (Nat.blt k nt) with hb|hb<;>rw[hb] at hc<;>simp at hc
    | const u =>
     simp only[ak,aoO] at hc
     obtain⟨zz,hz,h⟩:=hc
     injection h with h
     subst h
     exact BR hz
    | global g=>simp[ak] at hc
    | func f=>simp[ak] at hc
  have qo:cond (iI muts o.dst) (CL y) y=y:=by
   cases hm:iI muts o.dst with
   | false=>rfl
   | true=>cases y<;>first|rfl|exact absurd ⟨_,rfl,hm⟩ Mp
  rw[qo] at he
  cases s' with
  | none =>
   refine fin rfl ⟨a.eval x,?_,ZV hW hF hc he⟩
   rcases ho with ho|ho<;>simp[execOp,ho]
  | some s' =>
   refine oo (Cd hW hF ho hc he hd (fun h k hk=>?_))
   obtain⟨k',h1,h2⟩:=tg h
   rw[h1] at hk;injection hk with hk;subst hk
   exact uR _ h2
 cases cy:o.op with
 | move x =>
  rw[cy] at bk
  simp only[cG,aoO] at bk
  obtain⟨y,hc,rfl⟩:=bk
  exact afM x y (.inl cy) hc rfl
 | assign x =>
  rw[cy] at bk
  simp only[cG,aoO] at bk
  obtain⟨y,hc,rfl⟩:=bk
  exact afM x y (.inr cy) hc rfl
 | pick c x y =>
  rw[cy] at bk
  simp only[cG,aoP,aoO] at bk
  obtain⟨ic,hc,ix,hx,iy,hy,rfl⟩:=bk
  simp only[aq] at he
  split at he
  ·rename_i t ht
   simp only[aoQ,aoS] at he
   obtain⟨rfl,rfl⟩:=he
   exact fin rfl (Ug hW hF cy hc hx hy ht)
  ·cases he
 | alloc t =>
  rw[cy] at bk
  simp only[cG,aoP] at bk
  obtain⟨zz,hz,bk⟩:=bk
  cases hl:isLocal locals o.dst with
  | true =>
   rw[hl] at bk
   simp only[cond_true,aoQ] at bk
   subst bk
   simp only[aq,aoQ,aoS] at he
   obtain⟨rfl,rfl⟩:=he
   obtain⟨k,hk,AF⟩:=wb hl
   exact oo (LS hW hF cy hz (fun k' iV=>⟨hd k' iV,by rw[hk] at iV;injection iV with e;subst e;exact uQ _ AF⟩))
  | false =>
   rw[hl] at bk
   simp only[aoZ,aoQ] at bk
   subst bk
   rcases apE (FC 500000 muts o.dst) with hm|hm
   ·rw[hm] at he
    simp only[cond_true,aq,aoP] at he
    obtain⟨cs,fi,he⟩:=he
    obtain⟨h0,he⟩:=ab he
    simp only[aoQ,aoS] at he
    obtain⟨rfl,rfl⟩:=he
    have IV:cs=zz:=(apA fi).symm
    subst IV
    exact oo (LU hW hF cy hz hd)
   ·rw[hm] at he
    simp only[aoZ,aq,aoQ,aoS] at he
    obtain⟨rfl,rfl⟩:=he
    exact oo (LR hW hF cy hz hd)
 | box t x =>
  rw[cy] at bk
  simp only[cG,aoO] at bk
  obtain⟨y,hc,rfl⟩:=bk
  cases hl:isLocal locals o.dst with
  | true =>
   rw[hl] at he
   simp only[cond_true,aq,aoO,aoS] at he
   obtain⟨cs,fi,rfl,rfl⟩:=he
   obtain⟨k,hk,AF⟩:=wb hl
   exact oo (T6 hW hF cy hc fi (fun k' iV=>⟨hd k' iV,by rw[hk] at iV;injection iV with e;subst e;exact uQ _ AF⟩))
  | false =>
  rw[hl,aoZ] at he
  rcases apE (FC 500000 muts o.dst) with hm|hm
  ·rw[hm] at he
   simp only[cond_true,aq,aoP] at he
   obtain⟨cs,fi,he⟩:=he
   obtain⟨h0,he⟩:=ab he
   simp only[aoQ,aoS] at he
   obtain⟨rfl,rfl⟩:=he
   exact oo (T7 hW hF cy hc fi hd)
  ·rw[hm] at he
   simp only[aoZ,aq,aoP] at he
   obtain⟨cs,fi,he⟩:=he
   obtain⟨h0,he⟩:=ab he
   simp only[aoQ,aoS] at he
   obtain⟨rfl,rfl⟩:=he
   exact oo (ZT hW hF cy hc fi h0 hd)
 | build t parts =>
  rw[cy] at bk
  simp only[cG,aoP] at bk
  obtain⟨zz,hz,bk⟩:=bk
  split at bk
  ·rename_i fs hu
   obtain⟨h0,bk⟩:=ab bk
   simp only[aoO] at bk
   obtain⟨ps,hp,rfl⟩:=bk
   simp only[aq,aoO,aoS] at he
   obtain⟨Z,hZ,rfl,rfl⟩:=he
   exact fin rfl (wD hW hF cy hz hu hp (apI.1 h0) hZ)
  ·rename_i n e hu
   simp only[aoP,aoO] at bk
   obtain⟨sz,hs,ps,hp,rfl⟩:=bk
   simp only[aq,aoO,aoS] at he
   obtain⟨Z,hZ,rfl,rfl⟩:=he
   exact fin rfl (xJ hW hF cy hz hu hs hp hZ)
  ·cases bk
 | buildSlice t len parts =>
  rw[cy] at bk
  simp only[cG] at bk
  split at bk
  ·rename_i e hu
   simp only[aoP] at bk
   obtain⟨sz,hs,zz,hz,ps,hp,bk⟩:=bk
   obtain⟨h0,bk⟩:=ab bk
   injection bk with bk
   subst bk
   simp only[Bool.and_eq_true,Nat.ble_eq,dR,apc,api] at h0
   cases hl:isLocal locals o.dst with
   | true =>
    rw[hl] at he
    simp only[cond_true,aq,aoP] at he
    obtain⟨E,hE,he⟩:=he
    obtain⟨oD,he⟩:=ab he
    simp only[aoQ,aoS] at he
    obtain⟨rfl,rfl⟩:=he
    exact oo (Fp hW hF cy hu hs hz hp h0.1.1 h0.1.2 h0.2 oD hE hd)
   | false =>
   rw[hl] at he
   simp only[aoZ,aq,aoP] at he
   obtain⟨E,hE,he⟩:=he
   obtain⟨oD,he⟩:=ab he
   simp only[aoQ,aoS] at he
   obtain⟨rfl,rfl⟩:=he
   exact oo (Ij hW hF cy hu hs hz hp oD (fun h=>apQ h) h0.1.1 h0.1.2 h0.2 hE hd)
  ·cases bk
 | load t x =>
  rw[cy] at bk
  simp only[cG,aoP,aoO] at bk
  obtain⟨y,hc,g,hg,sz,hs,rfl⟩:=bk
  simp only[aq] at he
  cases s' with
  | none =>
   obtain⟨v,h1,h2⟩:=Ub (P:=P) hW hF hc hg hs he
   exact fin rfl ⟨v,by simp[execOp,cy,h1],h2⟩
  | some s'=>exact oo (Cc hW hF cy hc hg hs he hd)
 | store t x y =>
  rw[cy] at bk
  simp only[cG,aoP,aoO] at bk
  obtain⟨ya,Dn,yv,Pp,sz,hs,bk⟩:=bk
  generalize KP locals x=fl at bk
  cases fl with
  | false =>
   rw[aoZ] at bk
   subst bk
   simp only[aq,aoO,aoS] at he
   obtain⟨s1,he,rfl,rfl⟩:=he
   exact oo (Ft hW hF cy Dn Pp hs he hd)
  | true =>
   rw[cond_true] at bk
   subst bk
   simp only[aq,aoO,aoS] at he
   obtain⟨s1,he,rfl,rfl⟩:=he
   exact oo (LY hW hF cy Dn Pp hs he hd)
 | nilCheck x =>
  rw[cy] at bk
  simp only[cG,aoO] at bk
  obtain⟨y,hc,rfl⟩:=bk
  simp only[aq] at he
  obtain⟨h0,he⟩:=ab he
  simp only[aoQ,aoS] at he
  obtain⟨rfl,rfl⟩:=he
  exact fin rfl (Fq hW hF cy hc h0)
 | binOp op t x y u =>
  rw[cy] at bk
  simp only[cG,aoP] at bk
  obtain⟨ix,hx,iy,hy,bk⟩:=bk
  split at bk
  ·rename_i neg hn
   injection bk with bk
   subst bk
   simp only[aq,aoO,aoS] at he
   obtain⟨b,hb,rfl,rfl⟩:=he
   exact fin rfl (Uf hW hF cy hx hn hb)
  ·injection bk with bk
   subst bk
   simp only[aq,aoO,aoS] at he
   obtain⟨z',hz,rfl,rfl⟩:=he
   exact fin rfl (ZS hW hF cy hx hy hz)
 | unOp op t x =>
  rw[cy] at bk
  simp only[cG,aoO] at bk
  obtain⟨y,hc,rfl⟩:=bk
  simp only[aq,aoO,aoS] at he
  obtain⟨z',hz,rfl,rfl⟩:=he
  exact fin rfl (aeX hW hF cy hc hz)
 | convert st dt x =>
  rw[cy] at bk
  simp only[cG,aoP] at bk
  obtain⟨y,hc,bk⟩:=bk
  split at bk
  ·rename_i k' k h1 h2
   injection bk with bk
   subst bk
   simp only[aq,aoO,aoS] at he
   obtain⟨z',hz,rfl,rfl⟩:=he
   exact fin rfl (O2 hW hF cy hc h1 h2 hz)
  ·rename_i h1 h2
   injection bk with bk
   subst bk
   simp only[aq,aoO,aoS] at he
   obtain⟨z',hz,rfl,rfl⟩:=he
   exact fin rfl (Ik hW hF cy hc h1 h2 hz)
  ·rename_i e h1 h2
   split at bk
   ·rename_i hE
    injection bk with bk
    subst bk
    simp only[aq,aoO,aoS] at he
    obtain⟨z',hz,rfl,rfl⟩:=he
    exact fin rfl (Fm hW hF cy hc h1 hE h2 hz)
   ·cases bk
  ·cases bk
 | makeInterface t x =>
  rw[cy] at bk
  simp only[cG,aoP] at bk
  obtain⟨y,hc,bk⟩:=bk
  split at bk
  ·cases bk
  ·rename_i d hn hu
   injection bk with bk
   subst bk
   simp only[aq,aoO,aoS] at he
   obtain⟨z',hz,rfl,rfl⟩:=he
   exact fin rfl (Ii hW hF cy hc ⟨_,hu,fun m h=>hn m h⟩ hz)
  ·cases bk
 | makeFunc f first captured =>
  rw[cy] at bk
  simp only[cG,aoP,aoO] at bk
  obtain⟨fs,h1,cs,h2,rfl⟩:=bk
  simp only[aq] at he
  obtain⟨h0,he⟩:=ab he
  simp only[aoQ,aoS] at he
  obtain⟨rfl,rfl⟩:=he
  simp only[Bool.and_eq_true] at h0
  exact fin rfl (LX hW hF cy h1 h2 h0.1 h0.2)
 | slice t x lo hi mx =>
  rw[cy] at bk
  simp only[cG,aoP] at bk
  obtain⟨ix,hc,Mw,h1,AN,h2,AO,h3,bk⟩:=bk
  split at bk
  ·rename_i hu
   injection bk with bk
   subst bk
   simp only[aq,aoO,aoS] at he
   obtain⟨z',hz,rfl,rfl⟩:=he
   exact fin rfl (Cf hW hF cy hc h1 h2 h3 hu hz)
  ·rename_i e hu
   simp only[aoO] at bk
   obtain⟨sz,hs,rfl⟩:=bk
   simp only[aq,aoO,aoS] at he
   obtain⟨z',hz,rfl,rfl⟩:=he
   exact fin rfl (Fs hW hF cy hc h1 h2 h3 hu hs hz)
  ·rename_i n e hu
   simp only[aoP] at bk
   obtain⟨sz,hs,bk⟩:=bk
   obtain⟨h0,bk⟩:=ab bk
   injection bk with bk
   subst bk
   simp only[aq,aoO,aoS] at he
   obtain⟨z',hz,rfl,rfl⟩:=he
   exact fin rfl (Ce hW hF cy hc h1 h2 h3 hu hs (by simpa [api] using h0) hz)
  ·cases bk
 | fieldAddr t x f =>
  rw[cy] at bk
  simp only[cG,aoP] at bk
  obtain⟨ix,hc,bk⟩:=bk
  split at bk
  ·rename_i fs hu
   simp only[aoP] at bk
   obtain⟨q,hq,sz,hs,bk⟩:=bk
   obtain⟨h0,bk⟩:=ab bk
   injection bk with bk
   subst bk
   simp only[aq] at he
   obtain⟨hl,he⟩:=ab he
   simp only[aoO,aoS] at he
   obtain⟨z',hz,rfl,rfl⟩:=he
   exact fin rfl (Ca hW hF cy hc hu hq hs (by simpa [api] using h0) hl hz)
  ·cases bk
 | field t x f =>
  rw[cy] at bk
  simp only[cG,aoP] at bk
  obtain⟨ix,hc,bk⟩:=bk
  split at bk
  ·rename_i fs hu
   simp only[aoP,aoO] at bk
   obtain⟨q,hq,sz,hs,g,hg,rfl⟩:=bk
   simp only[aq] at he
   split at he
   ·rename_i cs hz
    simp only[aoO,aoS] at he
    obtain⟨z',hl,rfl,rfl⟩:=he
    exact fin rfl (OV hW hF cy hc hu hq hs hg hz hl)
   ·cases he
  ·cases bk
 | indexAddr t x i =>
  rw[cy] at bk
  simp only[cG,aoP] at bk
  obtain⟨ix,hc,ii,hi,bk⟩:=bk
  split at bk
  ·rename_i e hu
   simp only[aoO] at bk
   obtain⟨sz,hs,rfl⟩:=bk
   simp only[aq] at he
   split at he
   ·rename_i el own hy
    simp only[aoP] at he
    obtain⟨k,hk,r,hr,he⟩:=he
    obtain⟨h0,he⟩:=ab he
    simp only[aoQ,aoS] at he
    obtain⟨rfl,rfl⟩:=he
    exact fin rfl (T9 hW hF cy hc hi hu hs hk hy hr (by simpa [dR] using h0))
   ·rename_i l of m hy
    simp only[aoP] at he
    obtain⟨k,hk,he⟩:=he
    obtain⟨h0,he⟩:=ab he
    simp only[aoQ,aoS] at he
    obtain⟨rfl,rfl⟩:=he
    exact fin rfl (LW hW hF cy hc hi hu hs hk hy (by simpa [api] using h0))
   ·rename_i b g hy
    split at he
    ·rename_i g' el hT
     obtain⟨h0,he⟩:=ab he
     have Dp:g=g':=by simpa [dR] using h0
     simp only[aoP] at he
     obtain⟨k,hk,r,hr,he⟩:=he
     obtain⟨h0,he⟩:=ab he
     simp only[aoQ,aoS] at he
     obtain⟨rfl,rfl⟩:=he
     exact fin rfl (OY hW hF cy hc hi hu hs hk hy (by rw[hT,Dp]) hr (by simpa [dR] using h0))
    ·cases he
   ·cases he
  ·rename_i n e hu
   simp only[aoO] at bk
   obtain⟨sz,hs,rfl⟩:=bk
   simp only[aq,aoP] at he
   obtain⟨k,hk,he⟩:=he
   obtain⟨h0,he⟩:=ab he
   simp only[Bool.and_eq_true,api] at h0
   simp only[aoO,aoS] at he
   obtain⟨z',hz,rfl,rfl⟩:=he
   exact fin rfl (OX hW hF cy hc hi hu hs hk h0.1 h0.2 hz)
  ·cases bk
 | index t x i =>
  rw[cy] at bk
  simp only[cG,aoP] at bk
  obtain⟨ix,hc,ii,hi,bk⟩:=bk
  split at bk
  ·rename_i hu
   injection bk with bk
   subst bk
   simp only[aq] at he
   split at he
   ·rename_i l hz
    simp only[aoP,aoO,aoS] at he
    obtain⟨k,hk,b,hb,rfl,rfl⟩:=he
    exact fin rfl (Fo hW hF cy hc hi hu hk hz hb)
   ·cases he
  ·rename_i n e hu
   simp only[aoP,aoO] at bk
   obtain⟨sz,hs,g,hg,rfl⟩:=bk
   simp only[aq,aoP] at he
   obtain⟨k,hk,he⟩:=he
   obtain⟨h0,he⟩:=ab he
   split at he
   ·rename_i cs hz
    simp only[aoO,aoS] at he
    obtain⟨z',hl,rfl,rfl⟩:=he
    exact fin rfl (OW hW hF cy hc hi hu hs hg hk (by simpa [api] using h0) hz hl)
   ·cases he
  ·cases bk
 | extract x i =>
  rw[cy] at bk
  simp only[cG,aoO] at bk
  obtain⟨y,hc,rfl⟩:=bk
  simp only[aq] at he
  split at he
  ·rename_i vs hz
   simp only[aoO,aoS] at he
   obtain⟨z',IV,rfl,rfl⟩:=he
   exact fin rfl (Ig hW hF cy hc hz IV)
  ·cases he
 | call c =>
  rw[cy] at bk
  simp only[cG,tQ] at bk
  split at bk
  ·rename_i fx gf
   simp only[aoP,aoO] at bk
   obtain⟨yf,mz,ys,vU,hgo⟩:=bk
   rcases tR bF o.dst yf ys with hcg|⟨n,pre,x,post,hyf,Mu,hcg⟩
   ·rw[hcg] at hgo
    subst hgo
    simp only[aq] at he
    split at he
    ·rename_i f fs cs aat
     obtain⟨h0,he⟩:=ab he
     simp only[aoO,aoS] at he
     obtain⟨⟨r,ch⟩,hr,rfl,rfl⟩:=he
     exact T8 iu hW hF cy gf mz vU aat h0 hr hd K Q hK
    ·cases he
   ·rw[hcg] at hgo
    subst hgo hyf Mu
    simp only[aq] at he
    obtain⟨h0,he⟩:=ab he
    simp only[Bool.and_eq_true,aoP,aoO,aoS] at h0 he
    obtain⟨⟨xv,s1⟩,hx,⟨r,ch⟩,hr,rfl,rfl⟩:=he
    have sq:fx=.func n:=by
     cases fx<;>simp[ak] at mz
     ·rename_i t
      rcases apE (Nat.blt t nt) with hb|hb<;>rw[hb] at mz<;>simp at mz
     ·rw[mz]
    subst sq
    exact OT iu hW hF cy gf vU h0.1 h0.2 hx hr hd K Q hK
  ·rename_i gf
   split at bk
   ·rename_i x t dy jl
    simp only[aoP] at bk
    obtain⟨y,hc,bk⟩:=bk
    split at bk
    ·rename_i hu
     injection bk with bk
     subst bk
     obtain⟨h1,h2⟩:=Ih (P:=P) hW hF cy gf dy jl hc (k:=.str) hu he
     exact fin h1 h2
    ·rename_i e hu
     injection bk with bk
     subst bk
     obtain⟨h1,h2⟩:=Ih (P:=P) hW hF cy gf dy jl hc (k:=.sl) ⟨_,hu⟩ he
     exact fin h1 h2
    ·rename_i n e hu
     injection bk with bk
     subst bk
     obtain⟨h1,h2⟩:=Ih (P:=P) hW hF cy gf dy jl hc (k:=.arr n) ⟨_,hu⟩ he
     exact fin h1 h2
    ·rename_i hu
     injection bk with bk
     subst bk
     obtain⟨h1,h2⟩:=Ud (P:=P) hW hF cy gf dy jl hc hu he
     exact fin h1 h2
    ·cases bk
   ·cases bk
  ·rename_i gf
   split at bk
   ·rename_i x y t u dy jl
    simp only[aoP] at bk
    obtain⟨yx,mz,yy,vU,bk⟩:=bk
    have go:∀ e,P.underlying t=some (.slice e)->((∃ e',P.underlying u=some (.slice e'))\/P.underlying u=some .string) ->
      ((P.info? e).bind fun i=>cond (Nat.blt 0 i.size&&(i.zero.map fun z=>Nat.beq z.cells.size i.size).getD false) (some (cond (isLocal locals o.dst) (fc.appendO i.size i.bytes yx yy) (fc.append (Nat.beq e iF) (iI muts o.dst) i.size i.bytes yx yy))) none)=some io->o.wp P a w K Q:=by
     intro e ht hu bk
     simp only[aoP] at bk
     obtain⟨i,hi,bk⟩:=bk
     obtain⟨h0,bk⟩:=ab bk
     injection bk with bk
     subst bk
     simp only[Bool.and_eq_true,api] at h0
     obtain⟨h0,h1⟩:=h0
     have hT:vG P t e i.size i.bytes:=by
      cases hz:i.zero with
      | none=>rw[hz] at h1;cases h1
      | some zv=>rw[hz] at h1;exact⟨ht,⟨i,zv,hi,hz,rfl,rfl,by simpa [dR] using h1⟩,h0⟩
     cases hob:isLocal locals o.dst with
     | true =>
      rw[hob] at he
      simp only[cond_true,aq] at he
      exact oo (Ie hW hF cy gf dy jl hT hu mz vU he hd)
     | false =>
     rw[hob] at he
     simp only[aoZ,aq] at he
     refine oo (LV hW hF cy gf dy jl hT (fun h=>apQ h) hu mz vU he hd (fun h k hk=>?_))
     obtain⟨k',h1,h2⟩:=tg h
     rw[h1] at hk;injection hk with hk;subst hk
     exact uR _ h2
    split at bk
    ·rename_i e e' ht hu
     exact go e ht (.inl ⟨_,hu⟩) bk
    ·rename_i e ht hu
     exact go e ht (.inr hu) bk
    ·cases bk
   ·cases bk
  ·rename_i gf
   split at bk
   ·rename_i x y t u dy jl
    simp only[aoP] at bk
    obtain⟨ix,hx,iy,hy,bk⟩:=bk
    split at bk
    ·rename_i e e' ht hu
     simp only[aoP] at bk
     obtain⟨sz,hs,bk⟩:=bk
     obtain⟨h0,bk⟩:=ab bk
     injection bk with bk
     subst bk
     simp only[dR,apc] at h0
     subst h0
     simp only[aq] at he
     exact oo (OU hW hF cy gf dy jl ht hs hx hy he hd)
    ·cases bk
   ·cases bk
  ·rename_i gf
   split at bk
   ·rename_i x y dy
    simp only[aoP,aoO] at bk
    obtain⟨ix,hx,iy,hy,rfl⟩:=bk
    simp only[aq,aoO,aoS] at he
    obtain⟨z',hz,rfl,rfl⟩:=he
    exact fin rfl (YB (mx:=true) hW hF cy gf dy hx hy hz)
   ·cases bk
  ·rename_i gf
   split at bk
   ·rename_i x y dy
    simp only[aoP,aoO] at bk
    obtain⟨ix,hx,iy,hy,rfl⟩:=bk
    simp only[aq,aoO,aoS] at he
    obtain⟨z',hz,rfl,rfl⟩:=he
    exact fin rfl (YB (mx:=false) hW hF cy gf dy hx hy hz)
   ·cases bk
  ·injection bk with bk
   subst bk
   simp only[aq,an.eval,za,Option.map_none] at he
   cases he
  ·cases bk
 | makeSlice t x y =>
  rw[cy] at bk
  simp only[cG,aoP] at bk
  obtain⟨yx,mz,bk⟩:=bk
  obtain⟨Ku,bk⟩:=ab bk
  split at bk
  ·rename_i e ht
   simp only[aoP] at bk
   obtain⟨i,hi,zv,hz,zero,Y5,bk⟩:=bk
   obtain⟨h0,bk⟩:=ab bk
   injection bk with bk
   subst bk
   simp only[Bool.and_eq_true,api,dR,apc] at h0
   simp only[aq] at he
   exact oo (O0 hW hF cy Ku ht hi hz Y5 h0.2 h0.1 mz he hd)
  ·cases bk
 | makeMap t r =>
  rw[cy] at bk
  cases r with
  | some r=>simp[cG] at bk
  | none =>
   simp only[cG,aoO] at bk
   obtain⟨m,hm,rfl⟩:=bk
   simp only[aq,aoQ,aoS] at he
   obtain⟨rfl,rfl⟩:=he
   exact oo (O1 hW hF cy hd _ _ _)
 | lookup t x i ok =>
  rw[cy] at bk
  simp only[cG,aoP,aoO] at bk
  obtain⟨ya,Dn,yb,hcb,m,hm,rfl⟩:=bk
  obtain⟨kt,et,z,hT⟩:=ux hm
  cases hb:(!ok&&!m.2.2.1&&iI bF o.dst) with
  | false =>
   rw[hb] at he
   simp only[aoZ,aq] at he
   obtain⟨h1,h2⟩:=Uc hW hF hT cy Dn hcb he
   exact fin h1 h2
  | true =>
   rw[hb] at he
   simp only[cond_true,aq] at he
   simp only[Bool.and_eq_true,apB] at hb
   obtain⟨⟨oD,hva⟩,_⟩:=hb
   subst oD
   rw[hva] at hT
   exact oo (OZ hW hF hT cy Dn hcb he hd)
 | mapUpdate t x i v =>
  rw[cy] at bk
  simp only[cG,aoP,aoO] at bk
  obtain⟨ya,Dn,yb,hcb,yc,Tr,m,hm,rfl⟩:=bk
  obtain⟨kt,et,z,hT⟩:=ux hm
  simp only[aq,aoO,aoS] at he
  obtain⟨s1,he,rfl,rfl⟩:=he
  exact oo (J' hW hF hT (.inl cy) Dn hcb Tr he hd)
 | insert t x i v =>
  rw[cy] at bk
  simp only[cG,aoP,aoO] at bk
  obtain⟨ya,Dn,yb,hcb,yc,Tr,m,hm,rfl⟩:=bk
  obtain⟨kt,et,z,hT⟩:=ux hm
  simp only[aq,aoO,aoS] at he
  obtain⟨s1,he,rfl,rfl⟩:=he
  exact oo (J' hW hF hT (.inr cy) Dn hcb Tr he hd)
 | range t x =>
  rw[cy] at bk
  simp only[cG] at bk
  obtain⟨h0,bk⟩:=ab bk
  simp only[aoP,aoO] at bk
  obtain⟨ya,Dn,m,hm,rfl⟩:=bk
  obtain⟨kt,et,z,hT⟩:=ux hm
  obtain⟨k',h1,h2⟩:=tg h0
  exact oo (ZW hW hF cy Dn hT.ht he (fun k hk=>⟨hd k hk,by rw[h1] at hk;injection hk with hk;subst hk;exact uR _ h2⟩))
 | next x b =>
  rw[cy] at bk
  cases b with
  | true=>simp[cG] at bk
  | false =>
   simp only[cG,aoO] at bk
   obtain⟨ya,Dn,rfl⟩:=bk
   simp[aq] at he
 | entry x =>
  rw[cy] at bk
  simp only[cG,aoO] at bk
  obtain⟨ya,Dn,rfl⟩:=bk
  obtain⟨h1,h2⟩:=ZU hW hF cy Dn he
  exact fin h1 h2
 | _=>rw[cy] at bk;simp[cG] at bk
end
end
section
structure dT (H0:ah) (s:AS):Prop where
 lo:s.lo<=H0.length
 len:H0.length<=s.H.length
 same:∀ l,l<s.lo->s.H[l]?=H0[l]?
def wM(s:AS)(c:fQ):Prop:=s.H.length<=c.heap.length/\∀ l,l<c.lo->c.heap[l]?=s.H[l]?
theorem dT.fp{H0:ah}{s:AS}(h:dT H0 s){c:fQ}(hc:wM s c):dT H0 (s.fp c):=by
 have e:(s.fp c).lo=if c.lo<s.lo then c.lo else s.lo:=by
  simp only[AS.fp]
  by_cases hb:c.lo<s.lo
  ·rw[if_pos hb,show Nat.blt c.lo s.lo=true by simpa [api] using hb];rfl
  ·rw[if_neg hb,show Nat.blt c.lo s.lo=false by simpa [<- arb,api] using hb];rfl
 have:=h.lo
 refine⟨?_,apV h.len hc.1,fun l hl=>?_⟩
 ·rw[e];split<;>omega
 ·rw[e] at hl
  have h1:l<c.lo/\l<s.lo:=by split at hl<;>omega
  exact (hc.2 l h1.1).trans (h.same l h1.2)
theorem dT.dS{H0:ah}{s s' : AS}(h:dT H0 s)(hH:s'.H=s.H)(hl:s'.lo=s.lo):dT H0 s' :=
 ⟨by rw[hl];exact h.lo,by rw[hH];exact h.len,fun l Km=>by rw[hH];exact h.same l (by rw[<- hl];exact Km)⟩
theorem lM(s:AS)(loc:Nat)(o:cj):wM s ⟨s.H.set loc o,loc⟩:=⟨by simp,fun l hl=>by simp only at hl ⊢;rw[apk (by omega)]⟩
theorem Mb(s:AS)(loc:Nat)(hl:loc<s.H.length)(o:cj):wM s ⟨s.H.set loc .dead++[o],loc⟩:=⟨by simp,fun l Km=>by
 simp only at Km ⊢
 rw[ao7 (by simp;omega),apk (by omega)]⟩
theorem kn(s:AS)(o:cj):wM s ⟨s.H++[o],s.H.length⟩:=⟨by simp,fun l hl=>by simp only at hl ⊢;rw[ao7 hl]⟩
theorem y8{H0:ah}{s s1:AS}{sz:Nat}{a v:AV}(he:gl s sz a v=some s1)(h:dT H0 s):dT H0 s1:=by
 have sT:∀ t X,dT H0 (s.br t X):=fun t X=>h.dS rfl rfl
 unfold gl at he
 split at he
 ·cases he
 obtain⟨_,he⟩:=ab he
 split at he
 ·split at he
  ·obtain⟨_,he⟩:=ab he
   injection he with he
   rw[<- he];exact h.fp (lM s _ _)
  ·obtain⟨_,he⟩:=ab he
   injection he with he
   rw[<- he];exact h.fp (lM s _ _)
  ·cases he
 ·split at he
  ·obtain⟨_,he⟩:=ab he
   injection he with he
   rw[<- he];exact sT _ _
  ·cases he
 ·split at he
  ·obtain⟨_,he⟩:=ab he
   simp only[aoP] at he
   obtain⟨r,_,he⟩:=he
   obtain⟨_,he⟩:=ab he
   injection he with he
   rw[<- he];exact sT _ _
  ·cases he
 ·cases he
theorem J9{G:Nat->List AV}{cf:cu}(iu:∀ f args H r c,cf f args H=some (r,c)->jI H c){H0:ah}{s s' : AS}{o:fc}{z:AV}(he:aq G cf s o=some (z,some s'))(h:dT H0 s):dT H0 s':=by
 have sT:∀ t X,dT H0 (s.br t X):=fun t X=>h.dS rfl rfl
 cases o with
 | mov take obj x =>
  cases x<;>simp only[aq,kV] at he<;>try (cases he;done)
  split at he
  ·cases he
  ·cases take
   ·cases he
   ·cases obj
    ·simp only[cond_true,aoZ] at he
     obtain⟨_,he⟩:=ab he
     simp only[aoQ,aoS] at he
     rw[<- he.2];exact sT _ _
    ·simp only[cond_true,aoQ,aoS] at he
     rw[<- he.2];exact h.dS rfl rfl
  ·simp only[aoQ,aoS] at he
   obtain⟨_,he⟩:=he
   obtain⟨_,he⟩:=ab he
   injection he with he
   rw[<- he];exact sT _ _
  ·cases he
  ·cases he
 | jR c x=>simp only[aq] at he;obtain⟨_,he⟩:=ab he;simp at he
 | same agg sz d x =>
  simp only[aq] at he
  split at he
  ·obtain⟨_,he⟩:=ab he;simp at he
  ·cases he
 | boxL x =>
  simp only[aq,aoO,aoS,aoQ] at he
  obtain⟨cs,_,_,rfl⟩:=he
  exact h.dS rfl rfl
 | allocL z0 =>
  simp only[aq,aoQ,aoS] at he
  rw[<- he.2];exact h.dS rfl rfl
 | sQ ty z0 =>
  simp only[aq,aoQ,aoS] at he
  rw[<- he.2];exact h.fp (kn s _)
 | box ty x =>
  simp only[aq,aoP] at he
  obtain⟨cs,_,he⟩:=he
  obtain⟨_,he⟩:=ab he
  simp only[aoQ,aoS] at he
  rw[<- he.2];exact h.fp (kn s _)
 | BB x =>
  simp only[aq,aoP] at he
  obtain⟨cs,_,he⟩:=he
  obtain⟨_,he⟩:=ab he
  simp only[aoQ,aoS] at he
  rw[<- he.2];exact h.fp (kn s _)
 | copyO x y =>
  simp only[aq,pF] at he
  split at he
  ·split at he
   ·obtain⟨_,he⟩:=ab he
    simp only[aoQ,aoS] at he
    rw[<- he.2];exact h.fp (lM s _ _)
   ·cases he
  ·simp at he
  ·cases he
 | nilS=>simp[aq] at he
 | load take agg sz x =>
  simp only[aq,cM] at he
  split at he
  ·simp at he
  ·split at he
   ·simp only[aoO,aoS] at he
    obtain⟨u,_,_,he⟩:=he
    obtain⟨_,he⟩:=ab he
    injection he with he
    rw[<- he];exact h.fp (lM s _ _)
   ·simp at he
   ·simp at he
   ·cases he
  ·split at he
   ·obtain⟨_,he⟩:=ab he
    simp only[aoO,aoS] at he
    obtain⟨u,_,_,he⟩:=he
    obtain⟨_,he⟩:=ab he
    injection he with he
    rw[<- he];exact sT _ _
   ·cases he
  ·split at he
   ·obtain⟨_,he⟩:=ab he
    simp only[aoP] at he
    obtain⟨r,_,he⟩:=he
    obtain⟨_,he⟩:=ab he
    simp at he
   ·cases he
  ·cases he
 | store sz x y =>
  simp only[aq,aoO,aoS,aoQ] at he
  obtain⟨s1,he,_,rfl⟩:=he
  exact (y8 he h).dS (gk _ _).1 (gk _ _).2.2
 | oB sz x y =>
  simp only[aq,aoO,aoS,aoQ] at he
  obtain⟨s1,he,_,rfl⟩:=he
  have h0:dT H0 (kN s (x.addr G s.T)):=by
   unfold kN
   split
   ·split
    ·rename_i ty cs hH
     cases hb:Nat.beq ty aJ with
     | true=>exact h.fp (lM s _ _)
     | false=>exact h
    ·exact h
   ·exact h
  exact (y8 he h0).dS (gk _ _).1 (gk _ _).2.2
 | append isB wr sz bytes x y =>
  simp only[aq,fe] at he
  split at he
  ·split at he
   ·simp only[aoP] at he
    obtain⟨f,_,he⟩:=he
    obtain⟨_,he⟩:=ab he
    simp only[aoQ,aoS] at he
    rw[<- he.2];exact h.dS rfl rfl
   ·cases wr
    ·simp only[aoZ,aoO,aoS,aoQ] at he
     obtain⟨_,_,_,rfl⟩:=he
     exact sT _ _
    ·simp only[cond_true,aoP] at he
     obtain⟨f,_,he⟩:=he
     obtain⟨_,he⟩:=ab he
     simp only[aoQ,aoS] at he
     rw[<- he.2];exact h.dS rfl rfl
   ·cases wr
    ·simp only[aoZ,aoO,aoS,aoQ] at he
     obtain⟨_,_,_,rfl⟩:=he
     exact h
    ·simp only[cond_true,aoP] at he
     obtain⟨f,_,he⟩:=he
     obtain⟨_,he⟩:=ab he
     simp only[aoQ,aoS] at he
     rw[<- he.2];exact h.dS rfl rfl
   ·cases he
  ·cases wr
   ·simp at he
   ·cases he
 | call f args =>
  simp only[aq] at he
  split at he
  ·obtain⟨_,he⟩:=ab he
   simp only[aoO,aoS] at he
   obtain⟨⟨r,c⟩,hr,_,he⟩:=he
   simp only[aoO] at he
   obtain⟨c',rfl,rfl⟩:=he
   obtain⟨h1,h2⟩:=iu _ _ _ _ _ hr
   exact h.fp ⟨by simp only[oy] at h1;omega,(h2 c' rfl).2⟩
  ·cases he
 | tK f pre x post =>
  simp only[aq] at he
  obtain⟨_,he⟩:=ab he
  simp only[aoP,aoO,aoS,aoQ] at he
  obtain⟨⟨xv,s1⟩,hx,⟨r,c⟩,hr,_,rfl⟩:=he
  have h1:dT H0 s1/\s1.H=s.H:=by
   unfold Ax at hx
   split at hx
   ·split at hx
    ·simp only[aoQ,aoS] at hx
     obtain⟨_,rfl⟩:=hx
     exact⟨sT _ _,rfl⟩
    ·cases hx
   ·split at hx
    ·simp only[aoQ,aoS] at hx
     obtain⟨_,rfl⟩:=hx
     exact⟨h,rfl⟩
    ·cases hx
   ·cases hx
  obtain⟨k1,k2⟩:=iu _ _ _ _ _ hr
  cases c with
  | none=>exact h1.1
  | some c' =>
   refine h1.1.fp ⟨?_,?_⟩
   ·have:=h1.1.len;simp only[oy] at k1;rw[h1.2];omega
   ·rw[h1.2];exact (k2 c' rfl).2
 | pick=>simp only[aq] at he;split at he<;>simp at he
 | build=>simp[aq] at he
 | mkslice =>
  simp only[aq,aoP] at he
  obtain⟨_,_,he⟩:=he
  obtain⟨_,he⟩:=ab he
  simp at he
 | nilCheck=>simp only[aq] at he;obtain⟨_,he⟩:=ab he;simp at he
 | bin=>simp[aq] at he
 | un=>simp[aq] at he
 | mm=>simp[aq] at he
 | conv=>simp[aq] at he
 | uz=>simp[aq] at he
 | slice=>simp[aq] at he
 | fieldAddr=>simp only[aq] at he;obtain⟨_,he⟩:=ab he;simp at he
 | field=>simp only[aq] at he;split at he<;>simp at he
 | ixSl =>
  simp only[aq] at he
  split at he
  ·simp only[aoP] at he
   obtain⟨_,_,_,_,he⟩:=he
   obtain⟨_,he⟩:=ab he
   simp at he
  ·simp only[aoP] at he
   obtain⟨_,_,he⟩:=he
   obtain⟨_,he⟩:=ab he
   simp at he
  ·split at he
   ·obtain⟨_,he⟩:=ab he
    simp only[aoP] at he
    obtain⟨_,_,_,_,he⟩:=he
    obtain⟨_,he⟩:=ab he
    simp at he
   ·cases he
  ·cases he
 | ixArr =>
  simp only[aq,aoP] at he
  obtain⟨_,_,he⟩:=he
  obtain⟨_,he⟩:=ab he
  simp at he
 | index =>
  simp only[aq,aoP] at he
  obtain⟨_,_,he⟩:=he
  obtain⟨_,he⟩:=ab he
  split at he<;>simp at he
 | indexStr =>
  simp only[aq] at he
  split at he
  ·simp only[aoP,aoO,aoS] at he
   obtain⟨_,_,_,_,_,he⟩:=he
   cases he
  ·cases he
 | extract=>simp only[aq] at he;split at he<;>simp at he
 | len =>
  simp only[aq] at he
  split at he
  ·split at he
   ·obtain⟨_,he⟩:=ab he
    simp at he
   ·cases he
  ·simp at he
 | mkfunc=>simp only[aq] at he;obtain⟨_,he⟩:=ab he;simp at he
 | tJ f xs =>
  simp only[aq] at he
  split at he
  ·obtain⟨_,he⟩:=ab he
   simp only[aoP] at he
   obtain⟨r,_,he⟩:=he
   split at he<;>simp at he
  ·cases he
 | appendO sz bytes x y =>
  simp only[aq,il] at he
  split at he
  ·simp at he
  simp only[gU,aoP] at he
  obtain⟨f,_,he⟩:=he
  split at he
  ·obtain⟨_,he⟩:=ab he
   simp only[aoQ,aoS] at he
   rw[<- he.2];exact h.fp (kn s _)
  ·obtain⟨_,he⟩:=ab he
   simp only[aoQ,aoS] at he
   rw[<- he.2];exact h.fp (kn s _)
  ·split at he
   ·rename_i hH
    obtain⟨_,he⟩:=ab he
    simp only[aoQ,aoS] at he
    rw[<- he.2];exact h.fp (Mb s _ (aoR.1 hH).1 _)
   ·cases he
  ·cases he
 | lS sz zs ps =>
  simp only[aq,aoP] at he
  obtain⟨f,_,he⟩:=he
  obtain⟨_,he⟩:=ab he
  simp only[aoQ,aoS] at he
  rw[<- he.2];exact h.fp (kn s _)
 | yB sz bytes zero n =>
  simp only[aq,pG,aoP] at he
  obtain⟨f,_,he⟩:=he
  obtain⟨_,he⟩:=ab he
  simp only[aoQ,aoS] at he
  rw[<- he.2];exact h.fp (kn s _)
 | uA kz ka va =>
  simp only[aq,aoQ,aoS] at he
  rw[<- he.2];exact h.fp (kn s _)
 | look ok kz ka va ks zero m k =>
  simp only[aq,sX,aoP] at he
  obtain⟨_,_,he⟩:=he
  obtain⟨_,he⟩:=ab he
  split at he
  ·simp at he
  ·obtain⟨_,he⟩:=ab he
   simp at he
  ·simp only[aoP,aoO,aoS,reduceCtorEq,art,aq7] at he
 | Gf kz ka ks zero m k =>
  simp only[aq,rO] at he
  split at he
  ·split at he
   ·simp only[aoP] at he
    obtain⟨_,_,he⟩:=he
    obtain⟨_,he⟩:=ab he
    simp only[aoP] at he
    obtain⟨o,_,he⟩:=he
    cases o with
    | none=>simp at he
    | some i =>
     simp only[aoO,aoS,aoQ] at he
     obtain⟨_,_,_,he⟩:=he
     rw[<- he];exact h.fp (lM s _ _)
   ·cases he
  ·cases he
 | wJ kz ka va vz ks m k v =>
  simp only[aq,aoO,aoS,aoQ] at he
  obtain⟨s1,he,_,rfl⟩:=he
  have h1:dT H0 s1:=by
   unfold nj at he
   split at he
   ·split at he
    ·simp only[aoP] at he
     obtain⟨_,_,_,_,he⟩:=he
     obtain⟨_,he⟩:=ab he
     simp only[aoO] at he
     obtain⟨_,_,he⟩:=he
     rw[<- he];exact h.fp (lM s _ _)
    ·cases he
   ·cases he
  exact h1.dS (gk _ _).1 (gk _ _).2.2
 | MQ m =>
  simp only[aq] at he
  split at he
  ·simp at he
  ·simp at he
  ·split at he
   ·simp at he
   ·simp at he
   ·cases he
  ·cases he
 | rng kz ka va m =>
  simp only[aq] at he
  split at he
  ·simp only[aoQ,aoS] at he
   rw[<- he.2];exact h.dS rfl rfl
  ·obtain⟨_,he⟩:=ab he
   simp only[aoQ,aoS] at he
   rw[<- he.2];exact h.dS rfl rfl
  ·obtain⟨_,he⟩:=ab he
   simp only[aoQ,aoS] at he
   rw[<- he.2];exact h.dS rfl rfl
  ·split at he
   ·obtain⟨_,he⟩:=ab he
    simp only[aoQ,aoS] at he
    rw[<- he.2]
    exact (h.fp (lM s _ _)).dS rfl rfl
   ·cases he
  ·cases he
 | next it=>simp[aq] at he
 | T5 it =>
  simp only[aq] at he
  split at he
  ·split at he
   ·obtain⟨_,he⟩:=ab he
    simp at he
   ·cases he
  ·cases he
section
variable {P:Program}{G:Nat->List AV}{base nt:Nat}{L:List Nat}{gh:Gh}{w w' : World}{a:Act}{s:AS}{H:ah}
structure Inv (G:Nat->List AV) (base nt:Nat) (L:List Nat) (H0:ah) (gq:Gh) (w0:World) (s:AS) (gh:Gh) (w:World) (a:Act):Prop where
 W:aK G base s.H gh w
 F:FR L nt gh w a s
 E:Ext H0.length gq w0 gh w
 lo:dT H0 s
theorem Inv.out{H0:ah}{gq aH:Gh}{w0 w' : World}{d:Option Nat}{x:AV}{s' : AS}{v' : Value}(h:Inv G base nt L H0 gq w0 s gh w a)(hO:Out G base nt L gh w a s d x s' v' aH w')(hl:dT H0 s') :
  Inv G base nt L H0 gq w0 (s'.bM d x) aH w' (a.put d v') :=
 ⟨by rw[(gG s' d x).1];exact hO.W,hO.F,h.E.trans hO.E h.lo.len,hl.dS (gG s' d x).1 (gG s' d x).2.2⟩
def kj(G:Nat->List AV)(cf:cu)(draw:Bool)(s:AS)(o:aj):Option (AV × AS) :=
 let run:Option (AV × AS):=(aq G cf s o.op).bind fun r=>match r.2 with
  | none=>cond (draw&&(aO r.1).isSome) none (some (r.1,s))
  | some s'=>cond draw none (some (r.1,s'))
 match o.guard with
 | none=>run
 | some (g,want)=>match s.T g with
  | .bool b=>cond (b==want) run (some (.undef,s))
  | .tuple []=>some (.undef,s)
  | _=>none
theorem nk{G:Nat->List AV}{cf:cu}{draw:Bool}{s:AS}{o:aj} : bt G cf draw s o=(kj G cf draw s o).map fun r=>r.2.bM o.dst r.1:=by
 have cz:((aq G cf s o.op).bind fun r=>match r.2 with
   | none=>cond (draw&&(aO r.1).isSome) none (some (s.bM o.dst r.1))
   | some s'=>cond draw none (some (s'.bM o.dst r.1))) =
  ((aq G cf s o.op).bind fun r=>match r.2 with
   | none=>cond (draw&&(aO r.1).isSome) none (some (r.1,s))
   | some s'=>cond draw none (some (r.1,s'))).map fun r=>r.2.bM o.dst r.1:=by
  cases aq G cf s o.op with
  | none=>rfl
  | some r =>
   obtain⟨z,s'⟩:=r
   cases s' with
   | none=>simp only[aoW];cases (draw&&(aO z).isSome)<;>rfl
   | some s'=>cases draw<;>rfl
 unfold bt kj
 simp only
 cases o.guard with
 | none=>exact cz
 | some g =>
  obtain⟨g,want⟩:=g
  simp only
  generalize s.T g=X
  cases X with
  | bool b =>
   simp only
   cases (b==want)
   ·rfl
   ·exact cz
  | tuple vs=>cases vs<;>rfl
  | _=>rfl
theorem gL{bF locals muts:List Nat}{ops:Array Oper}{o:Oper}{io:aj}(h:qI P bF locals muts nt ops o=some io) :
  cG P bF locals muts nt o.dst o.op=some io.op/\oH nt ops o.guard=some io.guard/\io.dst=o.dst/\∀ k,o.dst=some k->k<nt:=by
 simp only[qI,aoP] at h
 obtain⟨p,hp,g,hg,h⟩:=h
 split at h
 ·rename_i hd
  injection h with h
  subst h
  exact⟨hp,hg,hd.symm,fun k hk=>by rw[hd] at hk;cases hk⟩
 ·rename_i d hd
  obtain⟨h0,h⟩:=ab h
  injection h with h
  subst h
  exact⟨hp,hg,hd.symm,fun k hk=>by rw[hd] at hk;injection hk with hk;subst hk;simpa [api] using h0⟩
theorem ky{cf:cu}(iu:cP P G cf){H0:ah}{gq:Gh}{w0:World}(hI:Inv G base nt L H0 gq w0 s gh w a){bF locals muts:List Nat}{ops:Array Oper}{o:Oper}{io:aj}
  (hc:qI P bF locals muts nt ops o=some io) (uQ:∀ x,x∈locals->x∈L) (uR:∀ x,x∈muts->x∈L) {draw:Bool} {z:AV} {s1:AS} (he:kj G cf draw s io=some (z,s1)) (K:Act->World->Prop) (Q:Exit->Act->World->Prop)
  (hK:∀ a' aH w',Inv G base nt L H0 gq w0 (s1.bM o.dst z) aH w' a'->K a' w') :
  if Region.wanted o (yielded ops a.tmps) then o.wp P a w K Q\/(o.asks P a w/\LetsOut Q) else K (a.put o.dst undef) w:=by
 obtain⟨cy,hg,Mh,hd⟩:=gL hc
 have Y0:s1=s->z=.undef->K (a.put o.dst undef) w:=by
  rintro rfl rfl
  exact hK _ gh w (hI.out (Out.pure hI.W hI.F hd (.cF .undef)) hI.lo)
 have cz:((aq G cf s io.op).bind fun r=>match r.2 with
   | none=>cond (draw&&(aO r.1).isSome) none (some (r.1,s))
   | some s'=>cond draw none (some (r.1,s')))=some (z,s1)->o.wp P a w K Q:=by
  intro h
  simp only[aoP] at h
  obtain⟨⟨z',s'⟩,bc,h⟩:=h
  cases s' with
  | none =>
   simp only at h
   have h' : z'=z/\s=s1:=by
    cases hb:(draw&&(aO z').isSome) with
    | true=>rw[hb] at h;cases h
    | false=>rw[hb] at h;simpa using h
   obtain⟨rfl,rfl⟩:=h'
   exact xI iu hI.W hI.F cy uQ uR bc hd K Q (fun v' aH w' hO=>hK _ aH w' (hI.out hO hI.lo))
  | some s' =>
   simp only at h
   have h' : z'=z/\s'=s1:=by
    cases draw with
    | true=>cases h
    | false=>simpa using h
   obtain⟨rfl,rfl⟩:=h'
   exact xI iu hI.W hI.F cy uQ uR bc hd K Q (fun v' aH w' hO=>hK _ aH w' (hI.out hO (J9 (fun f args H r c h=>(iu f args H r c h).2.1) bc hI.lo)))
 cases hog:o.guard with
 | none =>
  rw[hog] at hg
  simp only[oH,aoQ] at hg
  have hw:Region.wanted o (yielded ops a.tmps)=true:=by simp[Region.wanted,hog]
  rw[if_pos hw]
  unfold kj at he
  rw[<- hg] at he
  exact .inl (cz he)
 | some jw =>
  obtain⟨j,want⟩:=jw
  rw[hog] at hg
  simp only[oH,aoP] at hg
  obtain⟨t,⟨oj,hoj,NI⟩,hg⟩:=hg
  obtain⟨aU,hg⟩:=ab hg
  injection hg with hg
  have ht:t<nt:=by simpa [api] using aU
  have htm:a.tmps[t]?=some (fj a t):=by
   have:t<a.tmps.size:=by rw[hI.F.size];exact ht
   simp[fj,this]
  have hy:∀ v,fj a t=v->yielded ops a.tmps j=match v with|.bool b=>some b|_=>none:=by
   intro v hv
   unfold yielded
   rw[hoj]
   simp only[aoW,NI,htm,hv]
   cases v<;>rfl
  have pn:=hI.F.slot t ht
  change SR gh s.H.length nt w s.T s.gen (fj a) t (fj a t) (s.T t) at pn
  unfold kj at he
  rw[<- hg] at he
  simp only at he
  split at he
  ·rename_i b hT
   rw[hT] at pn
   have hv:=VR.jm (CR.dropped (pn:CR gh s.H.length w (.sl t) (fj a t) (.bool b)))
   have hw:Region.wanted o (yielded ops a.tmps)=(b==want):=by
    simp only[Region.wanted,hog,hy _ hv]
    cases b<;>cases want<;>rfl
   rw[hw]
   cases hb:(b==want) with
   | true =>
    rw[hb] at he
    rw[if_pos rfl]
    exact .inl (cz he)
   | false =>
    rw[hb] at he
    simp only[aoZ,aoQ,aoS] at he
    rw[if_neg (by simp)]
    exact Y0 he.2.symm he.1.symm
  ·rename_i hT
   rw[hT] at pn
   have hv:=VR.MA (CR.dropped (pn:CR gh s.H.length w (.sl t) (fj a t) (.tuple [])))
   have hw:Region.wanted o (yielded ops a.tmps)=false:=by
    simp only[Region.wanted,hog,hy _ hv]
    rfl
   rw[hw,if_neg (by simp)]
   simp only[aoQ,aoS] at he
   exact Y0 he.2.symm he.1.symm
  ·cases he
theorem A6{cf:cu}(iu:cP P G cf){H0:ah}{gq:Gh}{w0:World}{bF locals muts:List Nat}{ops:Array Oper}(uQ:∀ x,x∈locals->x∈L)(uR:∀ x,x∈muts->x∈L)(Q:Exit->Act->World->Prop) :
  ∀ (l:List Oper) (is:List aj) (s s' : AS) (gh:Gh) (w:World) (a:Act),Inv G base nt L H0 gq w0 s gh w a->fA P bF locals muts nt ops l=some is->bK G cf false is s=some s' ->
   (∀ a' aH w',Inv G base nt L H0 gq w0 s' aH w' a'->Q .normal a' w')->wpList P ops Q l a w
 | [],is,s,s',gh,w,a,hI,hc,he,hQ=>by
  simp only[fA,aoQ] at hc
  subst hc
  simp only[bK,aoQ] at he
  subst he
  exact hQ a gh w hI
 | o :: l,is,s,s',gh,w,a,hI,hc,he,hQ=>by
  simp only[fA,aoP,aoO] at hc
  obtain⟨io,kX,is',Dq,rfl⟩:=hc
  simp only[bK,aoP,nk,aoO] at he
  obtain⟨s1,⟨⟨z,s2⟩,hz,rfl⟩,he⟩:=he
  unfold wpList
  refine ky iu hI kX uQ uR hz _ Q (fun a' aH w' iG=>?_)
  rw[(gL kX).2.2.1] at he
  exact A6 iu uQ uR Q l is' _ s' aH w' a' iG Dq he hQ
end
end
section
structure qq (s s' : AS) (ts:List Nat):Prop where
 H:s.H=s'.H
 T:∀ t,t∈ts->s.T t=s'.T t
 B:∀ b,s.T b=s'.T b\/aO (s.T b)=none
section
variable {G:Nat->List AV}{cf:cu}{s s' : AS}{ts:List Nat}
theorem qq.eval(h:qq s s' ts){y:an}(hy:∀ t,t∈y.tmps->t∈ts):y.eval G s'.T=y.eval G s.T:=by
 cases y<;>try rfl
 rename_i t
 exact (h.T t (hy t (by simp[an.tmps]))).symm
theorem qq.addr(h:qq s s' ts){y:an}(hy:∀ t,t∈y.tmps->t∈ts):y.addr G s'.T=y.addr G s.T:=by
 cases y<;>try rfl
 rename_i t
 simp only[an.addr]
 rw[h.T t (hy t (by simp[an.tmps]))]
theorem qq.box(h:qq s s' ts)(b:Nat){g:Nat}{cs:List AV}(hb:s.T b=.lbox g cs):s'.T b=.lbox g cs:=by
 rcases h.B b with h|h
 ·rw[<- h,hb]
 ·rw[hb] at h;cases h
theorem qq.row(h:qq s s' ts)(b:Nat){g:Nat}{e:List (List AV)}(hb:s.T b=.lsl g e):s'.T b=.lsl g e:=by
 rcases h.B b with h|h
 ·rw[<- h,hb]
 ·rw[hb] at h;cases h
theorem qq.live(h:qq s s' ts){A:AV}(hl:bZ s A=true):bZ s' A=true:=by
 cases A<;>simp only[bZ] at hl ⊢<;>try (cases hl;done)
 ·split at hl
  ·rename_i hT;rw[h.box _ hT];exact hl
  ·cases hl
 ·split at hl
  ·rename_i hT;rw[h.row _ hT];exact hl
  ·cases hl
theorem qq.load(h:qq s s' ts){take agg:Bool}{sz:Nat}{A z:AV}(he:cM s take agg sz A=some (z,none)):cM s' take agg sz A=some (z,none):=by
 have key:∀ {X:Option AV} {x y:AS},X.map (fun v=>(v,cond (take&&!agg) (some x) none))=some (z,none)->X.map (fun v=>(v,cond (take&&!agg) (some y) none))=some (z,none):=by
  intro X x y hX
  cases X with
  | none=>cases hX
  | some v=>cases hb:(take&&!agg)<;>simp_all
 cases A<;>simp only[cM] at he ⊢<;>try (cases he;done)
 ·exact he
 ·rw[<- h.H]
  split at he
  ·exact key he
  ·exact he
  ·exact he
  ·cases he
 ·split at he
  ·rename_i hT
   rw[h.box _ hT]
   obtain⟨h0,he⟩:=ab he
   simp only[h0,cond_true]
   exact key he
  ·cases he
 ·split at he
  ·rename_i hT
   rw[h.row _ hT]
   exact he
  ·cases he
theorem qq.mov(h:qq s s' ts){take obj:Bool}{y:an}{z:AV}(hy:∀ t,t∈y.tmps->t∈ts)(he:kV G s take obj y=some (z,none)):kV G s' take obj y=some (z,none):=by
 cases y with
 | tmp t =>
  have e:=h.T t (hy t (by simp[an.tmps]))
  simp only[kV] at he ⊢
  rw[<- e]
  generalize s.T t=X at he ⊢
  cases X<;>try exact he
  ·rename_i el own
   cases take<;>cases own<;>simp_all
  ·cases take
   ·exact he
   ·cases obj
    ·simp only[cond_true,aoZ] at he
     obtain⟨_,he⟩:=ab he
     simp at he
    ·simp at he
 | _=>exact he
theorem Ia(h:qq s s' ts){op:fc}(ht:∀ t,t∈op.tmps->t∈ts){z:AV}(he:aq G cf s op=some (z,none)):aq G cf s' op=some (z,none):=by
 cases op with
 | mov take obj x=>exact h.mov ht he
 | pick c x y =>
  have h1:=h.eval (G:=G) (y:=c) (fun t hm=>ht t (by simp[fc.tmps,hm]))
  have h2:=h.addr (G:=G) (y:=x) (fun t hm=>ht t (by simp[fc.tmps,hm]))
  have h3:=h.addr (G:=G) (y:=y) (fun t hm=>ht t (by simp[fc.tmps,hm]))
  simp only[aq] at he ⊢
  rw[h1,h2,h3]
  exact he
 | jR c x =>
  have h1:=h.addr (G:=G) (y:=x) (fun t hm=>ht t (by simp[fc.tmps,hm]))
  simp only[aq] at he ⊢
  rw[h1];exact he
 | same agg sz d x =>
  have h1:=h.addr (G:=G) (y:=x) (fun t hm=>ht t (by simp[fc.tmps,hm]))
  have h2:=h.eval (G:=G) (y:=.tmp d) (fun t hm=>ht t (by simp only[an.tmps,ao3] at hm;subst hm;simp[fc.tmps]))
  simp only[an.eval] at h2
  simp only[aq] at he ⊢
  rw[h1,h2]
  split at he
  ·rename_i v hl
   rw[h.load hl];exact he
  ·cases he
 | boxL x=>simp[aq] at he
 | allocL z0=>simp[aq] at he
 | sQ ty z0=>simp[aq] at he
 | box ty x =>
  simp only[aq,aoP] at he
  obtain⟨_,_,he⟩:=he
  obtain⟨_,he⟩:=ab he
  simp at he
 | build z0 ps =>
  have e1:(ps.map fun p=>(p.1,p.2.1,(p.2.2.eval G s'.T).drop))=ps.map fun p=>(p.1,p.2.1,(p.2.2.eval G s.T).drop) :=
   aph fun p hp=>by rw[h.eval (G:=G) (y:=p.2.2) (fun t hm=>ht t (by simp only[fc.tmps,apT];exact⟨p,hp,hm⟩))]
  simp only[aq] at he ⊢
  rw[e1];exact he
 | mkslice isB sz zs ps =>
  have e1:(ps.map fun p=>(p.1,(p.2.eval G s'.T).drop))=ps.map fun p=>(p.1,(p.2.eval G s.T).drop) :=
   aph fun p hp=>by rw[h.eval (G:=G) (y:=p.2) (fun t hm=>ht t (by simp only[fc.tmps,apT];exact⟨p,hp,hm⟩))]
  simp only[aq] at he ⊢
  rw[e1];exact he
 | load take agg sz x =>
  simp only[aq] at he ⊢
  rw[h.addr (G:=G) (y:=x) ht]
  exact h.load he
 | oB sz x y=>simp[aq] at he
 | store sz x y =>
  simp only[aq,aoO,aoS] at he
  obtain⟨_,_,_,he⟩:=he
  cases he
 | nilCheck x =>
  simp only[aq] at he ⊢
  rw[h.addr (G:=G) (y:=x) ht]
  obtain⟨h0,he⟩:=ab he
  rw[h.live h0];exact he
 | bin op q x y =>
  simp only[aq] at he ⊢
  rw[h.eval (G:=G) (y:=x) (fun t hm=>ht t (by simp[fc.tmps,hm])),h.eval (G:=G) (y:=y) (fun t hm=>ht t (by simp[fc.tmps,hm]))]
  exact he
 | un op x=>simp only[aq] at he ⊢;rw[h.eval (G:=G) (y:=x) ht];exact he
 | mm mx x y =>
  simp only[aq] at he ⊢
  rw[h.eval (G:=G) (y:=x) (fun t hm=>ht t (by simp[fc.tmps,hm])),h.eval (G:=G) (y:=y) (fun t hm=>ht t (by simp[fc.tmps,hm]))]
  exact he
 | conv c x=>simp only[aq] at he ⊢;rw[h.eval (G:=G) (y:=x) ht];exact he
 | uz t x=>simp only[aq] at he ⊢;rw[h.eval (G:=G) (y:=x) ht];exact he
 | slice k x lo hi mx =>
  have opt:∀ o:Option an,(∀ t,t∈o.toList.flatMap an.tmps->t∈ts)->o.map (·.eval G s'.T)=o.map (·.eval G s.T):=by
   intro o ho
   cases o with
   | none=>rfl
   | some y=>simp only[Option.map_some];rw[h.eval (G:=G) (y:=y) (fun t hm=>ho t (by simp[hm]))]
  simp only[aq] at he ⊢
  rw[h.eval (G:=G) (y:=x) (fun t hm=>ht t (by simp only[fc.tmps,aoX];exact .inl (.inl (.inl hm)))),
   opt lo (fun t hm=>ht t (by simp only[fc.tmps,aoX];exact .inl (.inl (.inr hm)))),
   opt hi (fun t hm=>ht t (by simp only[fc.tmps,aoX];exact .inl (.inr hm))),
   opt mx (fun t hm=>ht t (by simp only[fc.tmps,aoX];exact .inr hm))]
  exact he
 | fieldAddr off x =>
  simp only[aq] at he ⊢
  rw[h.addr (G:=G) (y:=x) ht]
  obtain⟨h0,he⟩:=ab he
  rw[h.live h0];exact he
 | field agg off sz x =>
  simp only[aq] at he ⊢
  rw[h.eval (G:=G) (y:=x) ht];exact he
 | ixSl sz x i =>
  simp only[aq] at he ⊢
  rw[h.addr (G:=G) (y:=x) (fun t hm=>ht t (by simp[fc.tmps,hm])),h.eval (G:=G) (y:=i) (fun t hm=>ht t (by simp[fc.tmps,hm]))]
  split at he
  ·exact he
  ·exact he
  ·split at he
   ·rename_i hT
    simp only[h.row _ hT]
    exact he
   ·cases he
  ·cases he
 | ixArr n sz x i =>
  simp only[aq] at he ⊢
  rw[h.addr (G:=G) (y:=x) (fun t hm=>ht t (by simp[fc.tmps,hm])),h.eval (G:=G) (y:=i) (fun t hm=>ht t (by simp[fc.tmps,hm]))]
  simp only[aoP] at he ⊢
  obtain⟨k,hk,he⟩:=he
  refine⟨k,hk,?_⟩
  obtain⟨h0,he⟩:=ab he
  simp only[Bool.and_eq_true] at h0
  rw[h0.1,h.live h0.2];exact he
 | index agg n sz x i =>
  simp only[aq] at he ⊢
  rw[h.eval (G:=G) (y:=x) (fun t hm=>ht t (by simp[fc.tmps,hm])),h.eval (G:=G) (y:=i) (fun t hm=>ht t (by simp[fc.tmps,hm]))]
  exact he
 | indexStr x i =>
  simp only[aq] at he ⊢
  rw[h.eval (G:=G) (y:=x) (fun t hm=>ht t (by simp[fc.tmps,hm])),h.eval (G:=G) (y:=i) (fun t hm=>ht t (by simp[fc.tmps,hm]))]
  exact he
 | extract x i=>simp only[aq] at he ⊢;rw[h.eval (G:=G) (y:=x) ht];exact he
 | len k x =>
  simp only[aq] at he ⊢
  rw[h.addr (G:=G) (y:=x) ht]
  split at he
  ·split at he
   ·rename_i hT
    simp only[h.row _ hT]
    exact he
   ·cases he
  ·exact he
 | append isB wr sz bytes x y =>
  have h2:=h.eval (G:=G) (y:=y) (fun t hm=>ht t (by simp[fc.tmps,hm]))
  have h1:=h.eval (G:=G) (y:=x) (fun t hm=>ht t (by simp[fc.tmps,hm]))
  simp only[aq,fe] at he ⊢
  cases x with
  | tmp t =>
   exfalso
   simp only at he
   split at he
   ·simp only[aoP] at he
    obtain⟨f,_,he⟩:=he
    obtain⟨_,he⟩:=ab he
    simp at he
   ·cases wr
    ·simp at he
    ·simp only[cond_true,aoP] at he
     obtain⟨f,_,he⟩:=he
     obtain⟨_,he⟩:=ab he
     simp at he
   ·cases wr
    ·simp at he
    ·simp only[cond_true,aoP] at he
     obtain⟨f,_,he⟩:=he
     obtain⟨_,he⟩:=ab he
     simp at he
   ·cases he
  | _=>simp only at he ⊢;rw[h2];exact he
 | call f args =>
  have hf:=h.eval (G:=G) (y:=f) (fun t hm=>ht t (by simp[fc.tmps,hm]))
  have ha:∀ y,y∈args->y.addr G s'.T=y.addr G s.T:=fun y hy=>h.addr (G:=G) (fun t hm=>ht t (by
   simp only[fc.tmps,aoX,apT];exact .inr ⟨y,hy,hm⟩))
  have e1:(args.map fun a=>a.addr G s'.T)=args.map fun a=>a.addr G s.T:=aph ha
  have e2:(args.map fun a=>(a.addr G s'.T).aX)=args.map fun a=>(a.addr G s.T).aX:=aph fun y hy=>by rw[ha y hy]
  simp only[aq] at he ⊢
  rw[hf,e1,e2,<- h.H]
  split at he
  ·obtain⟨h0,he⟩:=ab he
   rw[h0]
   simp only[cond_true,aoO,aoS] at he ⊢
   obtain⟨⟨r,c⟩,hr,h1,h2⟩:=he
   refine⟨(r,c),hr,h1,?_⟩
   cases c with
   | none=>rfl
   | some c=>cases h2
  ·cases he
 | tJ f args =>
  have hf:=h.eval (G:=G) (y:=f) (fun t hm=>ht t (by simp[fc.tmps,hm]))
  have ha:∀ y,y∈args->y.addr G s'.T=y.addr G s.T:=fun y hy=>h.addr (G:=G) (fun t hm=>ht t (by
   simp only[fc.tmps,aoX,apT];exact .inr ⟨y,hy,hm⟩))
  have e1:(args.map fun a=>a.addr G s'.T)=args.map fun a=>a.addr G s.T:=aph ha
  have e2:(args.map fun a=>(a.addr G s'.T).aX)=args.map fun a=>(a.addr G s.T).aX:=aph fun y hy=>by rw[ha y hy]
  simp only[aq] at he ⊢
  rw[hf,e1,e2,<- h.H]
  exact he
 | tK f pre x post =>
  exfalso
  simp only[aq] at he
  obtain⟨_,he⟩:=ab he
  simp only[aoP,aoO,aoS,reduceCtorEq,art,aq7] at he
 | mkfunc f a b =>
  have ha:∀ y,y∈a->y.addr G s'.T=y.addr G s.T:=fun y hy=>h.addr (G:=G) (fun t hm=>ht t (by
   simp only[fc.tmps,aoX,apT];exact .inl ⟨y,hy,hm⟩))
  have hb:∀ y,y∈b->y.addr G s'.T=y.addr G s.T:=fun y hy=>h.addr (G:=G) (fun t hm=>ht t (by
   simp only[fc.tmps,aoX,apT];exact .inr ⟨y,hy,hm⟩))
  have e1:(a.map fun a=>a.addr G s'.T)=a.map fun a=>a.addr G s.T:=aph ha
  have e2:(b.map fun a=>a.addr G s'.T)=b.map fun a=>a.addr G s.T:=aph hb
  have e3:(a.map fun a=>(a.addr G s'.T).drop)=a.map fun a=>(a.addr G s.T).drop:=aph fun y hy=>by rw[ha y hy]
  have e4:(b.map fun a=>(a.addr G s'.T).drop)=b.map fun a=>(a.addr G s.T).drop:=aph fun y hy=>by rw[hb y hy]
  simp only[aq] at he ⊢
  rw[e1,e2,e3,e4];exact he
 | appendO sz bytes x y =>
  have h1:=h.addr (G:=G) (y:=x) (fun t hm=>ht t (by simp[fc.tmps,hm]))
  have h2:=h.eval (G:=G) (y:=y) (fun t hm=>ht t (by simp[fc.tmps,hm]))
  simp only[aq,il,h1,h2] at he ⊢
  split at he
  ·exact he
  exfalso
  simp only[gU,aoP] at he
  obtain⟨f,_,he⟩:=he
  split at he
  ·obtain⟨_,he⟩:=ab he
   simp at he
  ·obtain⟨_,he⟩:=ab he
   simp at he
  ·split at he
   ·obtain⟨_,he⟩:=ab he
    simp at he
   ·cases he
  ·cases he
 | lS sz zs ps =>
  exfalso
  simp only[aq,aoP] at he
  obtain⟨f,_,he⟩:=he
  obtain⟨_,he⟩:=ab he
  simp at he
 | yB sz bytes zero n =>
  exfalso
  simp only[aq,pG,aoP] at he
  obtain⟨f,_,he⟩:=he
  obtain⟨_,he⟩:=ab he
  simp at he
 | BB x =>
  simp only[aq,aoP] at he
  obtain⟨_,_,he⟩:=he
  obtain⟨_,he⟩:=ab he
  simp at he
 | copyO x y =>
  have h1:=h.addr (G:=G) (y:=x) (fun t hm=>ht t (by simp[fc.tmps,hm]))
  have h2:=h.eval (G:=G) (y:=y) (fun t hm=>ht t (by simp[fc.tmps,hm]))
  simp only[aq] at he ⊢
  rw[h1,h2]
  unfold pF at he ⊢
  rw[<- h.H]
  split at he
  ·split at he
   ·obtain⟨_,he⟩:=ab he
    simp at he
   ·cases he
  ·exact he
  ·cases he
 | nilS neg x =>
  simp only[aq] at he ⊢
  rw[h.eval (G:=G) (y:=x) ht];exact he
 | uA kz ka va=>simp[aq] at he
 | look ok kz ka va ks zero m k =>
  have h1:=h.addr (G:=G) (y:=m) (fun t hm=>ht t (by simp[fc.tmps,hm]))
  have h2:=h.eval (G:=G) (y:=k) (fun t hm=>ht t (by simp[fc.tmps,hm]))
  simp only[aq] at he ⊢
  rw[h1,h2]
  unfold sX uy at he ⊢
  rw[<- h.H];exact he
 | Gf kz ka ks zero m k =>
  have h1:=h.addr (G:=G) (y:=m) (fun t hm=>ht t (by simp[fc.tmps,hm]))
  have h2:=h.eval (G:=G) (y:=k) (fun t hm=>ht t (by simp[fc.tmps,hm]))
  simp only[aq] at he ⊢
  rw[h1,h2]
  unfold rO at he ⊢
  rw[<- h.H]
  split at he
  ·split at he
   ·simp only[aoP] at he ⊢
    obtain⟨kc,pk,he⟩:=he
    obtain⟨h0,he⟩:=ab he
    refine⟨kc,pk,?_⟩
    rw[h0,cond_true]
    simp only[aoP] at he ⊢
    obtain⟨o,ho,he⟩:=he
    refine⟨o,ho,?_⟩
    cases o with
    | none=>exact he
    | some i=>simp at he
   ·cases he
  ·cases he
 | wJ kz ka va vz ks m k v=>simp[aq] at he
 | MQ m =>
  have h1:=h.addr (G:=G) (y:=m) (fun t hm=>ht t (by simp[fc.tmps,hm]))
  simp only[aq] at he ⊢
  rw[h1,<- h.H];exact he
 | rng kz ka va m =>
  simp only[aq] at he
  split at he
  ·simp at he
  ·obtain⟨_,he⟩:=ab he
   simp at he
  ·obtain⟨_,he⟩:=ab he
   simp at he
  ·split at he
   ·obtain⟨_,he⟩:=ab he
    simp at he
   ·cases he
  ·cases he
 | next it=>simp[aq] at he
 | T5 it =>
  cases it with
  | tmp t =>
   have e:=h.T t (ht t (by simp[fc.tmps,an.tmps]))
   simp only[aq] at he ⊢
   rw[<- e];exact he
  | _=>simp only[aq] at he;cases he
theorem Ic{o:aj}{z:AV}{s1:AS}(he:kj G cf true s o=some (z,s1)):s1=s/\aO z=none:=by
 have cz:((aq G cf s o.op).bind fun r=>match r.2 with
   | none=>cond (true&&(aO r.1).isSome) none (some (r.1,s))
   | some s'=>cond true none (some (r.1,s')))=some (z,s1)->s1=s/\aO z=none:=by
  intro h
  simp only[aoP] at h
  obtain⟨⟨z',s'⟩,_,h⟩:=h
  cases s' with
  | none =>
   simp only[aql] at h
   cases hb:aO z' with
   | none =>
    rw[hb] at h
    simp only[Option.isSome_none,aoZ,aoQ,aoS] at h
    exact⟨h.2.symm,by rw[<- h.1,hb]⟩
   | some k=>rw[hb] at h;cases h
  | some s'=>cases h
 unfold kj at he
 split at he
 ·exact cz he
 ·split at he
  ·rename_i want _ _ b _
   simp only at he
   cases hc:(b==want) with
   | false =>
    rw[hc] at he
    simp only[aoZ,aoQ,aoS] at he
    exact⟨he.2.symm,by rw[<- he.1];rfl⟩
   | true =>
    rw[hc] at he
    exact cz he
  ·simp only[aoQ,aoS] at he
   exact⟨he.2.symm,by rw[<- he.1];rfl⟩
  ·cases he
theorem vQ(h:qq s s' ts){o:aj}(ht:∀ t,t∈o.looks->t∈ts){z:AV}{s1:AS}(he:kj G cf true s o=some (z,s1)):kj G cf true s' o=some (z,s'):=by
 have cz:((aq G cf s o.op).bind fun r=>match r.2 with
   | none=>cond (true&&(aO r.1).isSome) none (some (r.1,s))
   | some s'=>cond true none (some (r.1,s')))=some (z,s1)->((aq G cf s' o.op).bind fun r=>match r.2 with
   | none=>cond (true&&(aO r.1).isSome) none (some (r.1,s'))
   | some s'=>cond true none (some (r.1,s')))=some (z,s'):=by
  intro h1
  simp only[aoP] at h1
  obtain⟨⟨z',s2⟩,he,h1⟩:=h1
  cases s2 with
  | some s2=>cases h1
  | none =>
   rw[Ia h (fun t hm=>ht t (by simp only[aj.looks,aoX];exact .inl hm)) he]
   simp only[aql,aoW] at h1 ⊢
   cases hb:aO z' with
   | some k=>rw[hb] at h1;cases h1
   | none =>
    rw[hb] at h1
    simp only[Option.isSome_none,aoZ,aoQ,aoS] at h1 ⊢
    exact⟨h1.1,trivial⟩
 unfold kj at he ⊢
 cases hg:o.guard with
 | none=>rw[hg] at he;exact cz he
 | some gw =>
  obtain⟨g,want⟩:=gw
  rw[hg] at he
  have e:s'.T g=s.T g:=(h.T g (ht g (by simp[aj.looks,hg]))).symm
  simp only at he ⊢
  rw[e]
  generalize s.T g=X at he ⊢
  cases X with
  | bool b =>
   simp only at he ⊢
   cases hc:(b==want) with
   | false =>
    rw[hc] at he
    simp only[aoZ,aoQ,aoS] at he ⊢
    exact⟨he.1,trivial⟩
   | true=>rw[hc] at he;exact cz he
  | tuple vs =>
   cases vs with
   | nil=>simp only[aoQ,aoS] at he ⊢;exact⟨he.1,trivial⟩
   | cons v vs=>cases he
  | _=>cases he
end
theorem pI{G:Nat->List AV}{cf:cu} : ∀ (is:List aj) (s s' : AS),bK G cf true is s=some s' ->
  ∃ (S:Nat->AS) (V:Nat->AV),S 0=s/\S is.length=s'/\∀ i io,is[i]?=some io->kj G cf true (S i) io=some (V i,S i)/\aO (V i)=none/\S (i+1)=(S i).bM io.dst (V i)
 | [],s,s',h=>by
  simp only[bK,aoQ] at h
  exact⟨fun _=>s,fun _=>.undef,rfl,h,fun i io h=>by simp at h⟩
 | o :: r,s,s',h=>by
  simp only[bK,aoP,nk,aoO] at h
  obtain⟨s1,⟨⟨z,s2⟩,hz,rfl⟩,h⟩:=h
  obtain⟨rfl,hg⟩:=Ic hz
  obtain⟨S,V,h0,hn,hS⟩:=pI r _ s' h
  refine⟨fun i=>match i with|0=>s2|i+1=>S i,fun i=>match i with|0=>z|i+1=>V i,rfl,hn,fun i io hi=>?_⟩
  cases i with
  | zero =>
   simp only[ao4,aoQ] at hi
   subst hi
   exact⟨hz,hg,h0⟩
  | succ i=>exact hS i io (by simpa using hi)
structure Agree (s:AS) (D:Nat->Option Nat) (V:Nat->AV) (A:Nat->Prop) (x:AS):Prop where
 H:x.H=s.H
 gen:x.gen=s.gen
 lo:x.lo=s.lo
 zq:∀ i,A i->∀ d,D i=some d->x.T d=V i
 not:∀ t,(∀ i,A i->D i≠some t)->x.T t=s.T t
theorem Agree.put{s x:AS}{D:Nat->Option Nat}{V:Nat->AV}{A:Nat->Prop}(h:Agree s D V A x){i:Nat}(hd:∀ j,A j->j≠i->∀ d,D i=some d->D j≠some d):Agree s D V (fun j=>A j\/j=i) (x.bM (D i) (V i)):=by
 cases hD:D i with
 | none =>
  refine⟨h.H,h.gen,h.lo,fun j hj d NI=>?_,fun t ht=>h.not t (fun j hj=>ht j (.inl hj))⟩
  rcases hj with hj|rfl
  ·exact h.zq j hj d NI
  ·rw[hD] at NI;cases NI
 | some d =>
  refine⟨h.H,h.gen,h.lo,fun j hj d' NI=>?_,fun t ht=>?_⟩
  ·simp only[AS.bM,AS.br,db]
   by_cases hJ:j=i
   ·subst hJ
    rw[hD] at NI;injection NI with NI;subst NI
    simp
   ·rcases hj with hj|hj
    ·rw[if_neg]
     ·exact h.zq j hj d' NI
     ·rintro rfl
      exact hd j hj hJ d' hD NI
    ·exact absurd hj hJ
  ·simp only[AS.bM,AS.br,db]
   rw[if_neg]
   ·exact h.not t (fun j hj=>ht j (.inl hj))
   ·rintro rfl
    exact ht i (.inr rfl) hD
theorem Agree.eq{s x y:AS}{D:Nat->Option Nat}{V:Nat->AV}{A B:Nat->Prop}(hAB:∀ i,A i↔B i)(h:Agree s D V A x)(h' : Agree s D V B y):x=y:=by
 have hT:x.T=y.T:=by
  funext t
  by_cases hc:∃ i,A i/\D i=some t
  ·obtain⟨i,hi,hd⟩:=hc
   rw[h.zq i hi t hd,h'.zq i ((hAB i).1 hi) t hd]
  ·rw[h.not t (fun i hi hd=>hc ⟨i,hi,hd⟩),h'.not t (fun i hi hd=>hc ⟨i,(hAB i).2 hi,hd⟩)]
 cases x;cases y
 have:=h.H;have:=h.gen;have:=h.lo;have:=h'.H;have:=h'.gen;have:=h'.lo
 simp_all
theorem mV:∀ (n:Nat) (l:List Nat),l.Nodup->(∀ i,i∈l->i<n)->l.length<=n
 | 0,l,_,h=>by
  cases l with
  | nil=>exact aoU _
  | cons i l=>exact absurd (h i ao9) (arf _)
 | n+1,l,nP,h=>by
  have ih:=mV n (l.erase n) (nP.erase n) (fun i hi=>by
   have:=(nP.mem_erase_iff).1 hi
   have:=h i this.2
   omega)
  rw[List.length_erase] at ih
  split at ih<;>omega
structure Order (L:List Nat) (ops:Array Oper) (is:List aj):Prop where
 len:ops.size=is.length
 back:∀ (i:Nat) (o:Oper),ops[i]?=some o->∀ e,e∈o.after->Region.binds .any e=true->e.on<i
 MZ:∀ (i:Nat) (io:aj) (d:Nat),is[i]?=some io->io.dst=some d->d∉L
 once:∀ (i j:Nat) (p q:aj) (d:Nat),is[i]?=some p->is[j]?=some q->i≠j->q.dst=some d->p.dst≠some d
 look:∀ (i j:Nat) (o o' : Oper) (p q:aj) (d:Nat),ops[i]?=some o->ops[j]?=some o'->is[i]?=some p->is[j]?=some q->i≠j->q.dst=some d->d∈p.looks ->
  (j<i/\∃ e,e∈o.after/\Region.binds .any e=true/\e.on=j)\/(i<j/\∃ e,e∈o'.after/\Region.binds .any e=true/\e.on=i)
theorem pB{o:Oper}{j:Nat}(h:og o j=true):∃ e,e∈o.after/\Region.binds .any e=true/\e.on=j:=by
 unfold og at h
 rw[Array.any_eq_true] at h
 obtain⟨k,hk,h⟩:=h
 simp only[Bool.and_eq_true,dR,apc] at h
 exact⟨o.after[k],Array.getElem_mem hk,h.1,h.2⟩
theorem Gy{L:List Nat}{ops:Array Oper}{is:List aj}(hl:ops.size=is.length)(h:uC L (ops.toList.zip is)=true):Order L ops is:=by
 have mem:∀ (i:Nat) (o:Oper) (io:aj),ops[i]?=some o->is[i]?=some io->((o,io),i)∈(ops.toList.zip is).zipIdx:=by
  intro i o io h1 h2
  rw[apn]
  refine⟨i,?_⟩
  rw[aqC,(aqs (z:=(o,io))).2 ⟨by simpa using h1,h2⟩]
  simp
 have tu:∀ (i:Nat) (io:aj),is[i]?=some io->∃ o,ops[i]?=some o:=by
  intro i io hi
  have:i<ops.size:=by rw[hl];exact (aoR.1 hi).1
  exact⟨_,ao2 this⟩
 have aa0:∀ (i:Nat) (o:Oper),ops[i]?=some o->∃ io,is[i]?=some io:=by
  intro i o hi
  have:i<is.length:=by rw[<- hl];exact (aoY.1 hi).1
  exact⟨_,aoT this⟩
 unfold uC at h
 simp only[aoV] at h
 have GA:∀ (i j:Nat) (o o' : Oper) (p q:aj),ops[i]?=some o->ops[j]?=some o'->is[i]?=some p->is[j]?=some q->i≠j->∀ d,q.dst=some d ->
   p.dst≠some d/\(d∈p.looks->if j<i then og o j=true else og o' i=true):=by
  intro i j o o' p q h1 h2 h3 h4 je d hd
  have:=h _ (mem i o p h1 h3)
  simp only[Bool.and_eq_true,aoV] at this
  have:=this.2 _ (mem j o' q h2 h4)
  simp only[aqi,dR,apc,hd] at this
  rcases this with this|this
  ·exact absurd this je
  simp only[Bool.and_eq_true] at this
  refine⟨fun AJ=>?_,fun nL=>?_⟩
  ·rw[AJ] at this
   simp at this
  ·have h5:=this.2
   simp only[aqi,apB,aqm,apL] at h5
   rcases h5 with h5|h5
   ·exact absurd nL h5
   ·by_cases hJ:j<i
    ·rw[if_pos hJ]
     rw[show Nat.blt j i=true by simpa [api] using hJ] at h5
     exact h5
    ·rw[if_neg hJ]
     rw[show Nat.blt j i=false by simpa [<- arb,api] using hJ] at h5
     exact h5
 refine⟨hl,fun i o hi e he hb=>?_,fun i io d hi hd=>?_,fun i j p q d hp hq je hd=>?_,fun i j o o' p q d h1 h2 h3 h4 je hd nL=>?_⟩
 ·obtain⟨io,kX⟩:=aa0 i o hi
  have:=h _ (mem i o io hi kX)
  simp only[Bool.and_eq_true,aoV] at this
  have:=this.1.1
  rw[aqG] at this
  have:=this e he
  simpa [hb,api] using this
 ·obtain⟨o,ho⟩:=tu i io hi
  have:=h _ (mem i o io ho hi)
  simp only[Bool.and_eq_true,aoV,hd] at this
  simpa using this.1.2
 ·obtain⟨o,ho⟩:=tu i p hp
  obtain⟨o',mG⟩:=tu j q hq
  exact (GA i j o o' p q ho mG hp hq je d hd).1
 ·have:=(GA i j o o' p q h1 h2 h3 h4 je d hd).2 nL
  by_cases hJ:j<i
  ·rw[if_pos hJ] at this
   exact .inl ⟨hJ,pB this⟩
  ·rw[if_neg hJ] at this
   exact .inr ⟨by omega,pB this⟩
section
variable {P:Program}{G:Nat->List AV}{base nt:Nat}{L:List Nat}{gh:Gh}{w w' : World}{a:Act}{s:AS}{H:ah}
theorem gm{bF locals muts:List Nat}{ops:Array Oper} : ∀ {l:List Oper} {is:List aj},fA P bF locals muts nt ops l=some is->l.length=is.length /\
  ∀ (i:Nat) (o:Oper),l[i]?=some o->∃ io,is[i]?=some io/\qI P bF locals muts nt ops o=some io
 | [],is,h=>by simp[fA] at h;subst h;exact⟨rfl,fun i o h=>by simp at h⟩
 | o :: l,is,h=>by
  simp only[fA,aoP,aoO] at h
  obtain⟨io,kX,is',Dq,rfl⟩:=h
  obtain⟨h1,h2⟩:=gm Dq
  refine⟨by simp[h1],fun i o' hi=>?_⟩
  cases i with
  | zero=>simp only[ao4,aoQ] at hi;subst hi;exact⟨io,rfl,kX⟩
  | succ i=>exact h2 i o' (by simpa using hi)
theorem HW{cf:cu}(iu:cP P G cf){H0:ah}{gq:Gh}{w0:World}{bF locals muts:List Nat}{ops:Array Oper}(uQ:∀ x,x∈locals->x∈L)(uR:∀ x,x∈muts->x∈L)(Q:Exit->Act->World->Prop)
  {is:List aj} (hI:Inv G base nt L H0 gq w0 s gh w a) (hc:fA P bF locals muts nt ops ops.toList=some is) (cX:Order L ops is) {s' : AS} (he:bK G cf true is s=some s')
  (hQ:∀ a' aH w',Inv G base nt L H0 gq w0 s' aH w' a'->Q .normal a' w'):wpAny P .any ops Q ops.size (Array.replicate ops.size false) a w:=by
 obtain⟨S,V,h0,hn,hS⟩:=pI is s s' he
 obtain⟨hlen,nX⟩:=gm hc
 let D:Nat->Option Nat:=fun i=>(is[i]?).bind (·.dst)
 have hD:∀ i io,is[i]?=some io->D i=io.dst:=fun i io h=>by simp[D,h]
 have ud:∀ i d,D i=some d->∃ io,is[i]?=some io/\io.dst=some d:=by
  intro i d h
  simp only[D,aoP] at h
  exact h
 have uh:∀ i j d,i≠j->D i=some d->D j≠some d:=by
  intro i j d je hi hj
  obtain⟨p,hp,AJ⟩:=ud i d hi
  obtain⟨q,hq,te⟩:=ud j d hj
  exact cX.once i j p q d hp hq je te AJ
 have oP:∀ k,k<=is.length->Agree s D V (fun i=>i<k) (S k):=by
  intro k
  induction k with
  | zero=>intro _;rw[h0];exact⟨rfl,rfl,rfl,fun i hi=>absurd hi (arf _),fun t _=>rfl⟩
  | succ k ih =>
   intro hk
   have kX:=aoT (show k<is.length by omega)
   obtain⟨_,_,h3⟩:=hS k _ kX
   rw[h3,<- hD k _ kX]
   have:=(ih (by omega)).put (i:=k) (fun j hj bB d hd=>uh k j d (ap3 bB) hd)
   refine⟨this.H,this.gen,this.lo,fun i hi=>this.zq i (by rcases ap7 i k with h|h;exact .inl h;exact .inr (by omega)),fun t ht=>this.not t (fun i hi=>ht i (by rcases hi with h|h<;>omega))⟩
 have aft:∀ i d,D i=some d->aO (V i)=none:=by
  intro i d hd
  obtain⟨io,kX,_⟩:=ud i d hd
  exact (hS i io kX).2.1
 have main:∀ (n:Nat) (listed:Array Bool) (x:AS) (gh:Gh) (w:World) (a:Act),listed.size=ops.size->(∀ l:List Nat,l.Nodup->(∀ i,i∈l->i<ops.size/\listed.getD i true=false)->l.length<=n) ->
   (∀ j o,ops[j]?=some o->listed.getD j false=true->∀ e,e∈o.after->Region.binds .any e=true->listed.getD e.on false=true) ->
   Agree s D V (fun i=>listed.getD i false=true) x->Inv G base nt L H0 gq w0 x gh w a->wpAny P .any ops Q n listed a w:=by
  intro n
  induction n with
  | zero =>
   intro listed x gh w a gA ta fD hA hI
   have dq:∀ i,i<ops.size->listed.getD i false=true:=by
    intro i hi
    cases hb:listed.getD i true with
    | true =>
     have:i<listed.size:=by omega
     simpa [this] using hb
    | false =>
     have:=ta [i] (by simp) (fun j hj=>by simp at hj;subst hj;exact⟨hi,hb⟩)
     simp at this
   have lk:Region.ready .any ops listed=[]:=by
    cases hr:Region.ready .any ops listed with
    | nil=>rfl
    | cons i r =>
     have hm:i∈Region.ready .any ops listed:=by rw[hr];exact ao9
     obtain⟨h1,o,h2,_⟩:=mem_ready.1 hm
     have aU:=(aoY.1 h2).1
     have:=dq i aU
     have gW:i<listed.size:=by omega
     simp[gW] at this h1
     rw[this] at h1
     cases h1
   refine⟨lk,?_⟩
   have hx:x=s':=by
    rw[<- hn]
    refine hA.eq (B:=fun i=>i<is.length) (fun i=>?_) (oP _ (aoU _))
    constructor
    ·intro h
     have aU:i<listed.size:=by
      rcases ap7 i listed.size with h'|h'
      ·exact h'
      ·simp[aqf h'] at h
     rw[<- cX.len];omega
    ·intro h
     exact dq i (by rw[cX.len];exact h)
   rw[hx] at hI
   exact hQ a gh w hI
  | succ n ih =>
   intro listed x gh w a gA ta fD hA hI
   refine⟨fun lk=>?_,fun i hi=>?_⟩
   ·
    have dq:∀ i,i<ops.size->listed.getD i false=true:=by
     intro i
     induction i using Nat.strongRecOn with
     | _ i AN =>
      intro aU
      have gW:i<listed.size:=by omega
      cases hb:listed.getD i true with
      | true=>simpa [gW] using hb
      | false =>
       exfalso
       have ho:=ao2 aU
       have:i∈Region.ready .any ops listed:=mem_ready.2 ⟨hb,_,ho,fun e he iE=>by
        have wG:=cX.back i _ ho e he iE
        exact AN e.on wG (by omega)⟩
       rw[lk] at this
       cases this
    have hx:x=s':=by
     rw[<- hn]
     refine hA.eq (B:=fun i=>i<is.length) (fun i=>?_) (oP _ (aoU _))
     constructor
     ·intro h
      have aU:i<listed.size:=by
       rcases ap7 i listed.size with h'|h'
       ·exact h'
       ·simp[aqf h'] at h
      rw[<- cX.len];omega
     ·intro h
      exact dq i (by rw[cX.len];exact h)
    rw[hx] at hI
    exact hQ a gh w hI
   ·obtain⟨zF,o,ho,me⟩:=mem_ready.1 hi
    have aU:=(aoY.1 ho).1
    have gW:i<listed.size:=by omega
    obtain⟨io,kX,bk⟩:=nX i o (by simpa using ho)
    have qu:¬ (listed.getD i false=true):=by
     simp[gW] at zF ⊢
     exact zF
    have FK:=oP i (by rw[<- cX.len];omega)
    have qo:qq (S i) x io.looks:=by
     refine⟨by rw[FK.H,hA.H],fun t ht=>?_,fun b=>?_⟩
     ·by_cases hw:∃ j,D j=some t
      ·obtain⟨j,hj⟩:=hw
       have uniq:∀ k,D k=some t->k=j:=by
        intro k hk
        by_cases Hl:k=j
        ·exact Hl
        ·exact absurd hj (uh k j t Hl hk)
       obtain⟨q,hq,te⟩:=ud j t hj
       by_cases je:i=j
       ·subst je
        rw[FK.not t (fun k hk hd=>by have:=uniq k hd;omega),hA.not t (fun k hk hd=>by rw[uniq k hd] at hk;exact qu hk)]
       ·have hoj:∃ o',ops[j]?=some o':=⟨_,ao2 (show j<ops.size by rw[cX.len];exact (aoR.1 hq).1)⟩
        obtain⟨o',mG⟩:=hoj
        rcases cX.look i j o o' io q t ho mG kX hq je te ht with ⟨hJ,e,he,iE,Mq⟩|⟨hJ,e,he,iE,Mq⟩
        ·have UH:=me e he iE
         rw[Mq] at UH
         rw[FK.zq j hJ t hj,hA.zq j UH t hj]
        ·have UH:¬ (listed.getD j false=true):=by
          intro h
          have:=fD j o' mG h e he iE
          rw[Mq] at this
          exact qu this
         rw[FK.not t (fun k hk hd=>by have:=uniq k hd;omega),hA.not t (fun k hk hd=>by rw[uniq k hd] at hk;exact UH hk)]
      ·rw[FK.not t (fun k _ hd=>hw ⟨k,hd⟩),hA.not t (fun k _ hd=>hw ⟨k,hd⟩)]
     ·by_cases hw:∃ j,D j=some b
      ·obtain⟨j,hj⟩:=hw
       obtain⟨q,hq,te⟩:=ud j b hj
       have hbL:=cX.MZ j q b hq te
       have h1:aO (x.T b)=none:=by
        cases hg:aO (x.T b) with
        | none=>rfl
        | some k=>exact absurd (hI.F.obj b (by rw[hg];rfl)) hbL
       have hsb:aO (s.T b)=none:=by
        cases hg:aO (s.T b) with
        | none=>rfl
        | some k=>exact absurd (‹Inv G base nt L H0 gq w0 s _ _ _›.F.obj b (by rw[hg];rfl)) hbL
       refine .inr ?_
       by_cases hJ:j<i
       ·rw[FK.zq j hJ b hj];exact aft j b hj
       ·rw[FK.not b (fun k hk hd=>by
         by_cases Hl:k=j
         ·omega
         ·exact uh k j b Hl hd hj)]
        exact hsb
      ·exact .inl (by rw[FK.not b (fun k _ hd=>hw ⟨k,hd⟩),hA.not b (fun k _ hd=>hw ⟨k,hd⟩)])
    have bc:=vQ qo (fun t h=>h) (hS i io kX).1
    unfold wpOp
    rw[ho]
    refine ky iu hI bk uQ uR bc _ Q (fun a' aH w' iG=>?_)
    rw[<- (gL bk).2.2.1,<- hD i io kX] at iG
    have dB:∀ j,(listed.setIfInBounds i true).getD j false=true↔(listed.getD j false=true\/j=i):=by
     intro j
     by_cases hJ:i=j
     ·subst hJ
      simp[gW]
     ·rw[getD_set_ne false hJ]
      simp[ap3 hJ]
    refine ih (listed.setIfInBounds i true) _ aH w' a' (by simpa using gA) (fun l nP hl=>?_) (fun j o' mG hj e he iE=>?_) ?_ iG
    ·have oL:i∉l:=by
      intro hm
      have:=(hl i hm).2
      simp[gW] at this
     have:=ta (i :: l) (ap5.2 ⟨oL,nP⟩) (fun j hj=>by
      rcases ao8.1 hj with rfl|hj
      ·exact⟨aU,zF⟩
      ·have h1:=hl j hj
       have hJ:i≠j:=by rintro rfl;exact oL hj
       rw[getD_set_ne true hJ] at h1
       exact h1)
     simp at this
     omega
    ·rcases (dB j).1 hj with h|rfl
     ·exact (dB _).2 (.inl (fD j o' mG h e he iE))
     ·rw[ho] at mG
      injection mG with mG
      subst mG
      exact (dB _).2 (.inl (me e he iE))
    ·have:=hA.put (i:=i) (fun j hj bB d hd=>uh i j d (ap3 bB) hd)
     exact⟨this.H,this.gen,this.lo,fun j hj=>this.zq j ((dB j).1 hj),fun t ht=>this.not t (fun j hj=>ht j ((dB j).2 hj))⟩
 refine main ops.size _ s gh w a (by simp) (fun l nP hl=>?_) (fun j o hj h=>?_) ?_ hI
 ·exact mV ops.size l nP (fun i hi=>(hl i hi).1)
 ·exfalso
  have:(Array.replicate ops.size false).getD j false=false:=by
   by_cases h:j<ops.size<;>simp[h]
  rw[this] at h
  cases h
 ·have jg:∀ i,¬ ((Array.replicate ops.size false).getD i false=true):=by
   intro i h
   have:(Array.replicate ops.size false).getD i false=false:=by
    by_cases h:i<ops.size<;>simp[h]
   rw[this] at h
   cases h
  exact⟨rfl,rfl,rfl,fun i hi=>absurd hi (jg i),fun t _=>rfl⟩
end
end
section
theorem pe{o:aj}{d:Nat}(h:fy o=some d):o=⟨some d,none,.allocL (rG o)⟩:=by
 unfold fy at h
 split at h
 ·injection h with h;subst h;rfl
 ·cases h
theorem gu{M:List Nat}{o:aj}{d:Nat}{y:an}(h:dP M o=some (d,y)):d∈M/\∃ sz,o=⟨none,none,.store sz (.tmp d) y⟩:=by
 unfold dP at h
 split at h
 ·rename_i sz e y'
  obtain⟨h0,h⟩:=ab h
  injection h with h
  injection h with h1 h2
  subst h1 h2
  exact⟨by simpa using h0,sz,rfl⟩
 ·cases h
def disown:AV->AV
 | .slice e true=>.slice e false
 | v=>v
theorem vB(s:AS)(t u:Nat):(s.bD (.tmp t)).T u=if u=t then disown (s.T t) else s.T u:=by
 unfold AS.bD
 simp only
 split
 ·rename_i e h
  simp only[AS.br,db,h,disown]
 ·rename_i h
  by_cases hu:u=t
  ·subst hu
   rw[if_pos rfl]
   generalize s.T u=X at h
   cases X<;>try rfl
   rename_i e own
   cases own
   ·rfl
   ·exact absurd rfl (h e)
  ·rw[if_neg hu]
section
variable {G:Nat->List AV}{cf:cu}
theorem yz:∀ (M:List Nat) (s s1:AS),bK G cf false (lE M) s=some s1 ->
  s1.H=s.H/\s1.lo=s.lo/\s1.gen=s.gen+M.length/\∀ t,s1.T t=if t∈M then .undef else s.T t
 | [],s,s1,h=>by
  simp only[lE,List.flatMap_nil,bK,aoQ] at h
  subst h
  simp
 | d :: M,s,s1,h=>by
  have e:lE (d :: M)=⟨some d,none,.allocL []⟩ :: ⟨some d,none,.mov false false (.cg .undef)⟩ :: lE M:=rfl
  rw[e] at h
  simp only[bK,bt,aq,kV,an.eval,aoW,aoZ,aqb,AS.bM] at h
  obtain⟨h1,h2,h3,h4⟩:=yz M _ _ h
  refine⟨h1,h2,?_,fun t=>?_⟩
  ·rw[h3];simp[AS.br];omega
  ·rw[h4]
   simp only[AS.br,db,ao8]
   by_cases ht:t∈M
   ·simp[ht]
   ·by_cases hd:t=d<;>simp[ht,hd]
theorem Gt:∀ (l:List aj) (s s' : AS),(∀ o,o∈l->(fy o).isSome=true)->(l.filterMap fy).Nodup->bK G cf false l s=some s' ->
  s'.H=s.H/\s'.lo=s.lo/\s'.gen=s.gen+l.length/\(∀ t,t∉l.filterMap fy->s'.T t=s.T t)/\∀ k o d,l[k]?=some o->fy o=some d->s'.T d=.lbox (s.gen+k) (rG o)
 | [],s,s',_,_,h=>by
  simp only[bK,aoQ] at h
  subst h
  exact⟨rfl,rfl,rfl,fun _ _=>rfl,fun k o d hk=>by simp at hk⟩
 | o :: l,s,s',hl,nP,h=>by
  obtain⟨d,hd⟩:=apI.1 (hl o ao9)
  have hf:(o :: l).filterMap fy=d :: l.filterMap fy:=by simp[aqh,hd]
  rw[hf] at nP
  obtain⟨sE,vX⟩:=ap5.1 nP
  have ho:=pe hd
  rw[ho] at h
  simp only[bK,bt,aq,aoW,aoZ,AS.bM] at h
  obtain⟨h1,h2,h3,h4,h5⟩:=Gt l _ s' (fun o ho=>hl o (apd _ ho)) vX h
  refine⟨h1,h2,?_,fun t ht=>?_,fun k o' d' hk IH=>?_⟩
  ·rw[h3];simp[AS.br];omega
  ·rw[hf,ao8,not_or] at ht
   rw[h4 t ht.2]
   simp[AS.br,db,ht.1]
  ·cases k with
   | zero =>
    simp only[ao4,aoQ] at hk
    subst hk
    rw[hd] at IH
    injection IH with IH
    subst IH
    rw[h4 d sE]
    simp[AS.br,db]
   | succ k =>
    rw[h5 k o' d' (by simpa using hk) IH]
    simp[AS.br];omega
theorem Tc{s:AS}{sz d:Nat}{y:an}{z:AV}{s' : AS}(h:aq G cf s (.store sz (.tmp d) y)=some (z,some s')){g:Nat}{cs:List AV}(hT:s.T d=.lbox g cs) :
  ∃ vs,(y.eval G s.T).cells=some vs/\vs.length=sz/\sz<=cs.length/\vs.all al=true/\z=.undef/\s'=(s.br d (.lbox g (putAt cs 0 vs))).bD y:=by
 simp only[aq,an.addr,hT,aoO,aoS,aoQ] at h
 obtain⟨s1,h,rfl,rfl⟩:=h
 unfold gl at h
 split at h
 ·cases h
 rename_i vs po
 obtain⟨h0,h⟩:=ab h
 simp only[hT,Nat.zero_add] at h
 obtain⟨h1,h⟩:=ab h
 injection h with h
 simp only[Bool.and_eq_true,dR,apc,Nat.ble_eq] at h0 h1
 exact⟨vs,po,h0,h1.1.2,h1.2,rfl,by rw[h]⟩
theorem JP{s:AS}{sz d:Nat}{y:an}{g:Nat}{cs vs:List AV}(hT:s.T d=.lbox g cs)(h1:(y.eval G s.T).cells=some vs)(h2:vs.length=sz)(h3:sz<=cs.length)(h4:vs.all al=true) :
  aq G cf s (.store sz (.tmp d) y)=some (.undef,some ((s.br d (.lbox g (putAt cs 0 vs))).bD y)):=by
 simp only[aq,an.addr,hT]
 unfold gl
 rw[h1]
 simp only[hT,Nat.zero_add,h4,Bool.and_true]
 have e1:Nat.beq vs.length sz=true:=by rw[dR];simpa using h2
 have e2:Nat.beq g g=true:=by rw[dR];simp
 have e3:Nat.ble sz cs.length=true:=by simpa [Nat.ble_eq] using h3
 simp[e1,e2,e3]
end
section
variable {G:Nat->List AV}{cf:cu}
theorem eval_eq{T T' : aw}{y:an}(h:∀ t,t∈y.tmps->T' t=T t):y.eval G T'=y.eval G T:=by
 cases y<;>try rfl
 exact h _ (by simp[an.tmps])
theorem kA(s:AS){y:an}(h:∀ t,y≠.tmp t):s.bD y=s:=by
 cases y<;>try rfl
 exact absurd rfl (h _)
theorem pf(s:AS)(y:an):(s.bD y).H=s.H/\(s.bD y).gen=s.gen/\(s.bD y).lo=s.lo:=by
 cases y<;>try exact⟨rfl,rfl,rfl⟩
 unfold AS.bD
 simp only
 split<;>exact⟨rfl,rfl,rfl⟩
theorem rA(s:AS)(y:an){t:Nat}(h:t∉y.tmps):(s.bD y).T t=s.T t:=by
 cases y<;>try rfl
 rename_i u
 rw[vB,if_neg (by simpa [an.tmps] using h)]
theorem Gv{M:List Nat} : ∀ (l:List aj) (s s' : AS),(∀ o,o∈l->(dP M o).isSome=true) ->
  (∀ (i j:Nat) (p q:aj) (d:Nat) (y:an) (e:Nat) (x:an),l[i]?=some p->l[j]?=some q->i≠j->dP M p=some (d,y)->dP M q=some (e,x)->d≠e/\∀ t,t∈y.tmps->t∉x.tmps) ->
  (∀ (p:aj) (d:Nat) (y:an),p∈l->dP M p=some (d,y)->∀ t,t∈y.tmps->t∉M)->(∀ d,d∈M->∃ g z,s.T d=.lbox g z)->bK G cf false l s=some s' ->
  s'.H=s.H/\s'.lo=s.lo/\s'.gen=s.gen /\
  (∀ t,(∀ p d y,p∈l->dP M p=some (d,y)->t≠d/\t∉y.tmps)->s'.T t=s.T t) /\
  ∀ p d y,p∈l->dP M p=some (d,y)->∃ sz g z vs,p=⟨none,none,.store sz (.tmp d) y⟩/\s.T d=.lbox g z/\(y.eval G s.T).cells=some vs/\vs.length=sz/\sz<=z.length/\vs.all al=true /\
   s'.T d=.lbox g (putAt z 0 vs)/\∀ t,t∈y.tmps->s'.T t=disown (s.T t)
 | [],s,s',_,_,_,_,h=>by
  simp only[bK,aoQ] at h
  subst h
  exact⟨rfl,rfl,rfl,fun _ _=>rfl,fun p d y hp=>by cases hp⟩
 | o :: l,s,s',hl,afh,qW,Mg,h=>by
  obtain⟨⟨d,y⟩,hd⟩:=apI.1 (hl o ao9)
  obtain⟨Hi,sz,ho⟩:=gu hd
  obtain⟨g,z,hT⟩:=Mg d Hi
  have NP:=qW o d y ao9 hd
  have hyd:d∉y.tmps:=fun hm=>NP d hm Hi
  simp only[bK,aoP] at h
  obtain⟨s1,h1,h⟩:=h
  rw[ho] at h1
  simp only[bt,aoP] at h1
  obtain⟨⟨zv,s2⟩,bc,h1⟩:=h1
  have NO:∃ s3,s2=some s3:=by
   cases s2 with
   | some s3=>exact⟨s3,rfl⟩
   | none=>simp[aq] at bc
  obtain⟨s3,rfl⟩:=NO
  obtain⟨vs,c1,c2,c3,c4,c5,c6⟩:=Tc bc hT
  simp only[aoZ,AS.bM,aoQ] at h1
  subst h1
  subst c6
  have kT:∀ t,t∉y.tmps->((s.br d (.lbox g (putAt z 0 vs))).bD y).T t=if t=d then .lbox g (putAt z 0 vs) else s.T t:=by
   intro t ht
   rw[rA _ _ ht]
   simp only[AS.br,db]
  have kY:∀ t,t∈y.tmps->((s.br d (.lbox g (putAt z 0 vs))).bD y).T t=disown (s.T t):=by
   intro t ht
   cases y with
   | tmp u =>
    simp only[an.tmps,ao3] at ht
    subst ht
    rw[vB,if_pos rfl]
    have:t≠d:=fun h=>hyd (by simp[an.tmps,h])
    simp[AS.br,db,this]
   | _=>simp[an.tmps] at ht
  have FV:∀ p e x,p∈l->dP M p=some (e,x)->d≠e/\(∀ t,t∈y.tmps->t∉x.tmps):=by
   intro p e x hp hq
   obtain⟨j,hj⟩:=apn.1 hp
   exact afh 0 (j+1) o p d y e x rfl (by simpa using hj) (by omega) hd hq
  obtain⟨e1,e2,e3,e4,e5⟩:=Gv l _ s' (fun o ho=>hl o (apd _ ho)) (fun i j p q d y e x hi hj je=>afh (i+1) (j+1) p q d y e x (by simpa using hi) (by simpa using hj) (by omega))
   (fun p d y hp=>qW p d y (apd _ hp)) (fun e he=>by
    rw[kT e (fun hm=>NP e hm he)]
    split
    ·exact⟨_,_,rfl⟩
    ·exact Mg e he) h
  refine⟨by rw[e1,(pf _ _).1];rfl,by rw[e2,(pf _ _).2.2];rfl,by rw[e3,(pf _ _).2.1];rfl,fun t ht=>?_,fun p e x hp hq=>?_⟩
  ·have h0:=ht o d y ao9 hd
   rw[e4 t (fun p d y hp hq=>ht p d y (apd _ hp) hq),kT t h0.2,if_neg h0.1]
  ·rcases ao8.1 hp with rfl|hp
   ·rw[hd] at hq
    injection hq with hq
    injection hq with q1 q2
    subst q1 q2
    refine⟨sz,g,z,vs,ho,hT,c1,c2,c3,c4,?_,fun t ht=>?_⟩
    ·rw[e4 d (fun p e x hp hq=>⟨(FV p e x hp hq).1,fun hm=>qW p e x (apd _ hp) hq d hm Hi⟩),kT d hyd,if_pos rfl]
    ·rw[e4 t (fun p e x hp hq=>⟨fun h=>NP t ht (by rw[h];exact (gu hq).1),(FV p e x hp hq).2 t ht⟩),kY t ht]
   ·obtain⟨heM,_⟩:=gu hq
    obtain⟨hde,hyx⟩:=FV p e x hp hq
    have hxM:=qW p e x (apd _ hp) hq
    obtain⟨ja,g',z',vs',f1,f2,f3,f4,f5,f6,f7,f8⟩:=e5 p e x hp hq
    rw[kT e (fun hm=>NP e hm heM),if_neg (ap3 hde)] at f2
    have qo:∀ t,t∈x.tmps->((s.br d (.lbox g (putAt z 0 vs))).bD y).T t=s.T t:=by
     intro t ht
     rw[kT t (fun hm=>hyx t hm ht),if_neg (fun h=>hxM t ht (by rw[h];exact Hi))]
    rw[eval_eq qo] at f3
    exact⟨ja,g',z',vs',f1,f2,f3,f4,f5,f6,f7,fun t ht=>by rw[f8 t ht,qo t ht]⟩
end
section
variable {G:Nat->List AV}{base nt:Nat}{L:List Nat}{gh:Gh}{w w' : World}{a:Act}{s:AS}
theorem Inv.rename{H0:ah}{gq:Gh}{w0:World}(hI:Inv G base nt L H0 gq w0 s gh w a){d g:Nat}{cs:List AV}(hT:s.T d=.lbox g cs)(hd:d<nt){k:Nat}(hk:s.gen<=k) :
  Inv G base nt L H0 gq w0 { s with T:=s.T.put d (.lbox k cs),gen:=k+1 } gh w a:=by
 refine⟨hI.W,?_,hI.E,hI.lo.dS rfl rfl⟩
 refine hI.F.update (touch:=fun _=>False) (Step.refl _ _ _ _ (fun b hb=>hI.W.bG b hb)) hI.F.defers hI.F.size (aoU _) (Nat.le_succ_of_le hk) (fun i=>i=d) ?_ ?_ ?_
 ·intro i hi
  exact⟨by simp[db,hi],fun _=>⟨rfl,id,id,fun _=>id⟩⟩
 ·rintro i rfl
  exact .inr (.inr ⟨hI.F.obj i (by rw[hT];rfl),k,hk,by simp[db,aO]⟩)
 ·rintro i rfl hi
  have h:=hI.F.slot i hi
  rw[hT] at h
  obtain⟨_,b,hv,hb⟩:=h
  simp only[db,ap4]
  exact⟨aqH _,b,hv,hb⟩
end
theorem A4:∀ (M l:List Nat),l.Nodup->(∀ x,x∈l->x∈M)->l.length<=M.length
 | [],l,_,h=>by
  cases l with
  | nil=>exact aoU _
  | cons i l=>exact absurd (h i ao9) (by simp)
 | m :: M,l,nP,h=>by
  have ih:=A4 M (l.erase m) (nP.erase m) (fun i hi=>by
   have:=(nP.mem_erase_iff).1 hi
   rcases ao8.1 (h i this.2) with h|h
   ·exact absurd h this.1
   ·exact h)
  rw[List.length_erase] at ih
  simp only[List.length_cons]
  split at ih<;>omega
section
variable {G:Nat->List AV}{base nt:Nat}{L:List Nat}{gh:Gh}{w w' : World}{a:Act}
theorem Inv.Bb{H0:ah}{gq:Gh}{w0:World} : ∀ (l:List Nat) (x:AS) (g0:Nat),Inv G base nt L H0 gq w0 x gh w a->l.Nodup->(∀ d,d∈l->d<nt/\∃ g cs,x.T d=.lbox g cs)->x.gen<=g0->l≠[] ->
  ∃ x',Inv G base nt L H0 gq w0 x' gh w a/\x'.H=x.H/\x'.lo=x.lo/\x'.gen=g0+l.length/\(∀ t,t∉l->x'.T t=x.T t)/\∀ (k d:Nat),l[k]?=some d->∀ g cs,x.T d=.lbox g cs->x'.T d=.lbox (g0+k) cs
 | [],x,g0,_,_,_,_,bB=>absurd rfl bB
 | d :: l,x,g0,hI,nP,hb,hg,_=>by
  obtain⟨sE,vX⟩:=ap5.1 nP
  obtain⟨Ts,g,cs,hT⟩:=hb d ao9
  have hI1:=hI.rename hT Ts hg
  by_cases hl:l=[]
  ·subst hl
   refine⟨_,hI1,rfl,rfl,rfl,fun t ht=>?_,fun k e hk g' NC he=>?_⟩
   ·simp only[ao3] at ht
    simp[db,ht]
   ·cases k with
    | zero =>
     simp only[ao4,aoQ] at hk
     subst hk
     rw[hT] at he
     injection he with h1 h2
     simp[db,h2]
    | succ k=>simp at hk
  ·obtain⟨x',r1,r2,r3,r4,r5,r6⟩:=Inv.Bb l _ (g0+1) hI1 vX (fun e he=>by
    obtain⟨h1,g',NC,h2⟩:=hb e (apd _ he)
    have bB:e≠d:=fun h=>sE (h ▸ he)
    exact⟨h1,g',NC,by simp[db,bB,h2]⟩) (aoU _) hl
   refine⟨x',r1,r2,r3,by rw[r4];simp;omega,fun t ht=>?_,fun k e hk g' NC he=>?_⟩
   ·rw[ao8,not_or] at ht
    rw[r5 t ht.2]
    simp[db,ht.1]
   ·cases k with
    | zero =>
     simp only[ao4,aoQ] at hk
     subst hk
     rw[hT] at he
     injection he with h1 h2
     rw[r5 d sE]
     simp[db,h2]
    | succ k =>
     have iV:l[k]?=some e:=by simpa using hk
     have bB:e≠d:=fun h=>sE (h ▸ ao0 iV)
     rw[r6 k e iV g' NC (by simp[db,bB,he])]
     congr 1
     omega
end
structure qz (L:List Nat) (ops:Array Oper) (is:List aj):Prop where
 len:ops.size=is.length
 back:∀ (i:Nat) (o:Oper),ops[i]?=some o->∀ e,e∈o.after->Region.binds .any e=true->e.on<i
 inL:∀ d,d∈ay is->d∈L
 some:ay is≠[]
 MZ:∀ (i:Nat) (io:aj) (d:Nat),is[i]?=.some io->AQ (ay is) io=true->io.dst=.some d->d∉L
 qT:∀ (i:Nat) (io:aj),is[i]?=.some io->AQ (ay is) io=true->∀ t,t∈io.looks->t∉ay is
 once:∀ (i j:Nat) (p q:aj) (d:Nat),is[i]?=.some p->is[j]?=.some q->i≠j->q.dst=.some d->p.dst≠.some d
 look:∀ (i j:Nat) (o o' : Oper) (p q:aj) (d:Nat),ops[i]?=.some o->ops[j]?=.some o'->is[i]?=.some p->is[j]?=.some q->i≠j->q.dst=.some d->d∈p.looks ->
  (j<i/\∃ e,e∈o.after/\Region.binds .any e=true/\e.on=j)\/(i<j/\∃ e,e∈o'.after/\Region.binds .any e=true/\e.on=i)
 sY:∀ (i:Nat) (io:aj) (d:Nat) (y:an),is[i]?=.some io->dP (ay is) io=.some (d,y)->∀ t,t∈y.tmps->t∉ay is
 adn:∀ (i j:Nat) (p q:aj) (d:Nat) (y:an) (e:Nat) (x:an),is[i]?=.some p->is[j]?=.some q->i≠j->dP (ay is) p=.some (d,y)->dP (ay is) q=.some (e,x)->d≠e
 Dd:∀ (i j:Nat) (p q:aj) (d:Nat) (y:an),is[i]?=.some p->is[j]?=.some q->i≠j->dP (ay is) p=.some (d,y)->∀ t,t∈y.tmps->t∉q.looks
 SX:∀ (i j:Nat) (p q:aj) (d:Nat) (y:an) (t:Nat),is[i]?=.some p->is[j]?=.some q->dP (ay is) p=.some (d,y)->q.dst=.some t->t=d\/t∈y.tmps->j<i
theorem CN{L:List Nat}{ops:Array Oper}{is:List aj}(hl:ops.size=is.length)(h:rn L (ops.toList.zip is)=true):qz L ops is:=by
 have mem:∀ (i:Nat) (o:Oper) (io:aj),ops[i]?=some o->is[i]?=some io->((o,io),i)∈(ops.toList.zip is).zipIdx:=by
  intro i o io h1 h2
  rw[apn]
  refine⟨i,?_⟩
  rw[aqC,(aqs (z:=(o,io))).2 ⟨by simpa using h1,h2⟩]
  simp
 have tu:∀ (i:Nat) (io:aj),is[i]?=some io->∃ o,ops[i]?=some o:=by
  intro i io hi
  have:i<ops.size:=by rw[hl];exact (aoR.1 hi).1
  exact⟨_,ao2 this⟩
 have aa0:∀ (i:Nat) (o:Oper),ops[i]?=some o->∃ io,is[i]?=some io:=by
  intro i o hi
  have:i<is.length:=by rw[<- hl];exact (aoY.1 hi).1
  exact⟨_,aoT this⟩
 have hM:(ops.toList.zip is).map (·.2)=is:=by
  apply List.map_snd_zip
  simp[hl]
 unfold rn at h
 simp only[hM,Bool.and_eq_true,aoV,apB,aqD] at h
 obtain⟨⟨bB,ai9⟩,h⟩:=h
 have GA:∀ (i j:Nat) (o o' : Oper) (p q:aj),ops[i]?=some o->ops[j]?=some o'->is[i]?=some p->is[j]?=some q->i≠j->∀ d,q.dst=some d ->
   p.dst≠some d/\(d∈p.looks->if j<i then og o j=true else og o' i=true):=by
  intro i j o o' p q h1 h2 h3 h4 je d hd
  have:=(h _ (mem i o p h1 h3)).2 _ (mem j o' q h2 h4)
  simp only[aqi,dR,apc,hd] at this
  rcases this with this|this
  ·exact absurd this je
  simp only[Bool.and_eq_true] at this
  refine⟨fun AJ=>?_,fun nL=>?_⟩
  ·rw[AJ] at this
   simp at this
  ·have h5:=this.2
   simp only[aqi,apB,aqm,apL] at h5
   rcases h5 with h5|h5
   ·exact absurd nL h5
   ·by_cases hJ:j<i
    ·rw[if_pos hJ]
     rw[show Nat.blt j i=true by simpa [api] using hJ] at h5
     exact h5
    ·rw[if_neg hJ]
     rw[show Nat.blt j i=false by simpa [<- arb,api] using hJ] at h5
     exact h5
 have KH:∀ (i:Nat) (p:aj) (d:Nat) (y:an),is[i]?=some p->dP (ay is) p=some (d,y)->(∀ t,t∈y.tmps->t∉ay is)/\∀ (j:Nat) (q:aj),is[j]?=some q->i≠j ->
   (∀ e x,dP (ay is) q=some (e,x)->d≠e)/\(∀ t,t∈y.tmps->t∉q.looks)/\∀ t,q.dst=some t->t=d\/t∈y.tmps->j<i:=by
  intro i p d y hi hs
  obtain⟨o,ho⟩:=tu i p hi
  have:=(h _ (mem i o p ho hi)).1.2
  simp only[kindOk,hs,Bool.and_eq_true,aoV,apB,aqm,apL] at this
  refine⟨this.1,fun j q hj je=>?_⟩
  obtain⟨o',mG⟩:=tu j q hj
  have h2:=this.2 _ (mem j o' q mG hj)
  simp only[aqi,dR,apc] at h2
  rcases h2 with h2|h2
  ·exact absurd h2 je
  simp only[Bool.and_eq_true,aoV,apB,apL] at h2
  refine⟨fun e x he hde=>?_,h2.1.2,fun t ht htd=>?_⟩
  ·have:=h2.1.1
   rw[he] at this
   simp[hde] at this
  ·have:=h2.2
   rw[ht] at this
   simp only[aqi,apB,Bool.or_eq_false_iff,apL,api] at this
   rcases this with this|this
   ·rcases htd with h|h
    ·exact absurd h this.1
    ·exact absurd h this.2
   ·exact this
 have Y7:∀ (i:Nat) (p:aj),is[i]?=some p->AQ (ay is) p=true->(∀ d,p.dst=some d->d∉L)/\∀ t,t∈p.looks->t∉ay is:=by
  intro i p hi hp
  obtain⟨o,ho⟩:=tu i p hi
  have:=(h _ (mem i o p ho hi)).1.2
  have hn:dP (ay is) p=none:=by
   simp only[AQ,Bool.and_eq_true,aqj] at hp
   exact hp.2
  simp only[kindOk,hn,hp,cond_true,Bool.and_eq_true,aoV,apB,aqm,apL] at this
  refine⟨fun d hd=>?_,this.2⟩
  have h1:=this.1
  rw[hd] at h1
  simpa using h1
 refine⟨hl,fun i o hi e he hb=>?_,fun d hd=>by simpa using ai9 d hd,bB,fun i io d hi hp hd=>(Y7 i io hi hp).1 d hd,fun i io hi hp=>(Y7 i io hi hp).2,fun i j p q d hp hq je hd=>?_,fun i j o o' p q d h1 h2 h3 h4 je hd nL=>?_,
  fun i io d y hi hs=>(KH i io d y hi hs).1,fun i j p q d y e x hi hj je hs qy=>((KH i p d y hi hs).2 j q hj je).1 e x qy,fun i j p q d y hi hj je hs=>((KH i p d y hi hs).2 j q hj je).2.1,fun i j p q d y t hi hj hs hq ht=>?_⟩
 ·obtain⟨io,kX⟩:=aa0 i o hi
  have:=(h _ (mem i o io hi kX)).1.1
  simp only[Am] at this
  rw[aqG] at this
  have:=this e he
  simpa [hb,api] using this
 ·obtain⟨o,ho⟩:=tu i p hp
  obtain⟨o',mG⟩:=tu j q hq
  exact (GA i j o o' p q ho mG hp hq je d hd).1
 ·have:=(GA i j o o' p q h1 h2 h3 h4 je d hd).2 nL
  by_cases hJ:j<i
  ·rw[if_pos hJ] at this
   exact .inl ⟨hJ,pB this⟩
  ·rw[if_neg hJ] at this
   exact .inr ⟨by omega,pB this⟩
 ·by_cases je:i=j
  ·subst je
   rw[hi] at hj
   injection hj with hj
   subst hj
   obtain⟨_,sz,hp⟩:=gu hs
   rw[hp] at hq
   cases hq
  ·exact ((KH i p d y hi hs).2 j q hj je).2.2 t hq ht
end
section
def Bo(M:List Nat)(is:List aj)(A:Nat->Prop)(t:Nat):Prop:=∃ (j:Nat) (o:aj) (e:Nat) (y:an),A j/\is[j]?=some o/\dP M o=some (e,y)/\t∈y.tmps
structure NA (G:Nat->List AV) (is:List aj) (s s2 s3:AS) (D:Nat->Option Nat) (V:Nat->AV) (A:Nat->Prop) (x:AS):Prop where
 H:x.H=s.H
 lo:x.lo=s.lo
 zq:∀ i,A i->∀ d,D i=some d->¬ Bo (ay is) is A d->x.T d=V i
 not:∀ t,t∉ay is->(∀ i,A i->D i≠some t)->¬ Bo (ay is) is A t->x.T t=s.T t
 spd:∀ t,Bo (ay is) is A t->x.T t=disown (s2.T t)
 bxA:∀ (i:Nat) (o:aj) (d:Nat),A i->is[i]?=some o->fy o=some d->(∀ (j:Nat) (p:aj) (e:Nat) (y:an),A j->is[j]?=some p->dP (ay is) p=some (e,y)->e≠d)->∃ g,x.T d=.lbox g (rG o)
 bxS:∀ (j:Nat) (p:aj) (d:Nat) (y:an),A j->is[j]?=some p->dP (ay is) p=some (d,y)->∃ g k z vs,s3.T d=.lbox k z/\(y.eval G s3.T).cells=some vs/\x.T d=.lbox g (putAt z 0 vs)
section
variable {G:Nat->List AV}{is:List aj}{L:List Nat}{ops:Array Oper}{s s2 s3 x:AS}{D:Nat->Option Nat}{V:Nat->AV}{A:Nat->Prop}
theorem rW{i:Nat}{o:aj}{d:Nat}(hi:is[i]?=some o)(h:fy o=some d):d∈ay is:=by
 unfold ay
 rw[arl]
 exact⟨o,ao0 hi,h⟩
theorem rk{d:Nat}(h:d∈ay is):∃ (i:Nat) (o:aj),is[i]?=some o/\fy o=some d:=by
 unfold ay at h
 rw[arl] at h
 obtain⟨o,ho,h⟩:=h
 obtain⟨i,hi⟩:=apn.1 ho
 exact⟨i,o,hi,h⟩
theorem gr{o:aj}{d:Nat}(h:fy o=some d):o.dst=some d:=by rw[pe h]
theorem XZ{M:List Nat}{o:aj}{d:Nat}(h:fy o=some d):dP M o=none:=by rw[pe h];rfl
theorem X0{M:List Nat}{o:aj}{p:Nat × an}(h:dP M o=some p):fy o=none:=by
 obtain⟨d,y⟩:=p
 obtain⟨_,sz,ho⟩:=gu h
 rw[ho];rfl
theorem R0{M:List Nat}{o:aj}(h:AQ M o=true):dP M o=none/\fy o=none:=by
 simp only[AQ,Bool.and_eq_true,aqj] at h
 exact⟨h.2,h.1⟩
theorem Bo.notM(cX:qz L ops is){t:Nat}(h:Bo (ay is) is A t):t∉ay is:=by
 obtain⟨j,o,e,y,_,hj,hs,ht⟩:=h
 exact cX.sY j o e y hj hs t ht
theorem Bo.more{B:Nat->Prop}(hAB:∀ i,A i->B i){t:Nat}(h:Bo (ay is) is A t):Bo (ay is) is B t:=by
 obtain⟨j,o,e,y,h1,h2⟩:=h
 exact⟨j,o,e,y,hAB j h1,h2⟩
theorem Bo.less{i:Nat}{o:aj}(hi:is[i]?=some o)(hs:dP (ay is) o=none){t:Nat}(h:Bo (ay is) is (fun j=>A j\/j=i) t):Bo (ay is) is A t:=by
 obtain⟨j,p,e,y,h1,h2,h3,h4⟩:=h
 rcases h1 with h1|rfl
 ·exact⟨j,p,e,y,h1,h2,h3,h4⟩
 ·rw[hi] at h2
  injection h2 with h2
  subst h2
  rw[hs] at h3
  cases h3
theorem NA.pure(cX:qz L ops is)(h:NA G is s s2 s3 D V A x){i:Nat}{o:aj}(hi:is[i]?=some o)(hP:AQ (ay is) o=true)(hD:D i=o.dst)
  (Hg:∀ (j d:Nat),D j=some d->∃ q,is[j]?=some q/\AQ (ay is) q=true/\q.dst=some d)
  (fD:∀ (j:Nat) (p:aj) (d:Nat) (y:an) (t:Nat),A j->is[j]?=some p->dP (ay is) p=some (d,y)->t∈y.tmps->o.dst≠some t) :
  NA G is s s2 s3 D V (fun j=>A j\/j=i) (x.bM (D i) (V i)):=by
 obtain⟨hS,hA⟩:=R0 hP
 have other:∀ t,D i≠some t->(x.bM (D i) (V i)).T t=x.T t:=by
  intro t ht
  cases hd:D i with
  | none=>rfl
  | some d =>
   simp only[AS.bM,AS.br,db]
   rw[if_neg]
   rintro rfl
   exact ht hd
 have Ss:∀ t,t∈ay is->D i≠some t:=fun t ht hd=>cX.MZ i o t hi hP (by rw[<- hD];exact hd) (cX.inL t ht)
 refine⟨by rw[(gG _ _ _).1,h.H],by rw[(gG _ _ _).2.2,h.lo],fun j hj d hd Cr=>?_,fun t ht jg Cr=>?_,fun t ht=>?_,fun j p d hj hp hd jg=>?_,fun j p d y hj hp hd=>?_⟩
 ·by_cases hJ:j=i
  ·subst hJ
   rw[hd]
   simp[AS.bM,AS.br,db]
  ·rcases hj with hj|hj
   ·rw[other d (fun hdi=>by
     obtain⟨q,hq,_,te⟩:=Hg j d hd
     exact cX.once i j o q d hi hq (ap3 hJ) te (by rw[<- hD];exact hdi))]
    exact h.zq j hj d hd (fun hs=>Cr (hs.more fun _=>.inl))
   ·exact absurd hj hJ
 ·rw[other t (jg i (.inr rfl))]
  exact h.not t ht (fun j hj=>jg j (.inl hj)) (fun hs=>Cr (hs.more fun _=>.inl))
 ·have ht':=ht.less hi hS
  obtain⟨j,p,e,y,h1,h2,h3,h4⟩:=id ht'
  rw[other t (fun hd=>fD j p e y t h1 h2 h3 h4 (by rw[<- hD];exact hd))]
  exact h.spd t ht'
 ·have hJ:j≠i:=by
   rintro rfl
   rw[hi] at hp
   injection hp with hp
   subst hp
   rw[hA] at hd
   cases hd
  rcases hj with hj|hj
  ·rw[other d (Ss d (rW hp hd))]
   exact h.bxA j p d hj hp hd (fun k q e y hk=>jg k q e y (.inl hk))
  ·exact absurd hj hJ
 ·have hJ:j≠i:=by
   rintro rfl
   rw[hi] at hp
   injection hp with hp
   subst hp
   rw[hS] at hd
   cases hd
  rcases hj with hj|hj
  ·rw[other d (Ss d (gu hd).1)]
   exact h.bxS j p d y hj hp hd
  ·exact absurd hj hJ
theorem NA.alloc(cX:qz L ops is)(h:NA G is s s2 s3 D V A x){i:Nat}{o:aj}{d:Nat}(hi:is[i]?=some o)(hA:fy o=some d)
  (Hg:∀ (j d:Nat),D j=some d->∃ q,is[j]?=some q/\AQ (ay is) q=true/\q.dst=some d) {g n:Nat}
  (fD:∀ (j:Nat) (p:aj) (e:Nat) (y:an),A j->is[j]?=some p->dP (ay is) p=some (e,y)->e≠d) :
  NA G is s s2 s3 D V (fun j=>A j\/j=i) (({ x with gen:=n } : AS).bM (some d) (.lbox g (rG o))):=by
 have Hi:=rW hi hA
 have other:∀ t,t≠d->(({ x with gen:=n } : AS).bM (some d) (.lbox g (rG o))).T t=x.T t:=by
  intro t ht
  simp[AS.bM,AS.br,db,ht]
 have acb:∀ j e,D j=some e->e≠d:=by
  rintro j e hj rfl
  obtain⟨q,hq,hp,te⟩:=Hg j e hj
  exact cX.MZ j q e hq hp te (cX.inL e Hi)
 have noS:dP (ay is) o=none:=XZ hA
 refine⟨h.H,h.lo,fun j hj e he Cr=>?_,fun t ht jg Cr=>?_,fun t ht=>?_,fun j p e hj hp he jg=>?_,fun j p e y hj hp he=>?_⟩
 ·rcases hj with hj|rfl
  ·rw[other e (acb j e he)]
   exact h.zq j hj e he (fun hs=>Cr (hs.more fun _=>.inl))
  ·obtain⟨q,hq,hp,_⟩:=Hg j e he
   rw[hi] at hq
   injection hq with hq
   subst hq
   rw[(R0 hp).2] at hA
   cases hA
 ·rw[other t (fun h=>ht (h ▸ Hi))]
  exact h.not t ht (fun j hj=>jg j (.inl hj)) (fun hs=>Cr (hs.more fun _=>.inl))
 ·have ht':=ht.less hi noS
  rw[other t (fun h=>ht'.notM cX (h ▸ Hi))]
  exact h.spd t ht'
 ·by_cases hJ:j=i
  ·subst hJ
   rw[hi] at hp
   injection hp with hp
   subst hp
   rw[hA] at he
   injection he with he
   subst he
   exact⟨g,by simp[AS.bM,AS.br,db]⟩
  ·rcases hj with hj|hj
   ·rw[other e (by
     rintro rfl
     exact cX.once i j o p e hi hp (ap3 hJ) (gr he) (gr hA))]
    exact h.bxA j p e hj hp he (fun k q e y hk=>jg k q e y (.inl hk))
   ·exact absurd hj hJ
 ·rcases hj with hj|rfl
  ·rw[other e (fD j p e y hj hp he)]
   exact h.bxS j p e y hj hp he
  ·rw[hi] at hp
   injection hp with hp
   subst hp
   rw[noS] at he
   cases he
theorem NA.store(cX:qz L ops is)(h:NA G is s s2 s3 D V A x){i:Nat}{o:aj}{d:Nat}{y:an}(hi:is[i]?=some o)(hs:dP (ay is) o=some (d,y))
  (Hg:∀ (j d:Nat),D j=some d->∃ q,is[j]?=some q/\AQ (ay is) q=true/\q.dst=some d) (zF:¬ A i) {g k:Nat} {z vs:List AV}
  (h3:s3.T d=.lbox k z) (po:(y.eval G s3.T).cells=some vs) (hy:∀ t,t∈y.tmps->x.T t=s2.T t) :
  NA G is s s2 s3 D V (fun j=>A j\/j=i) ((x.br d (.lbox g (putAt z 0 vs))).bD y):=by
 obtain⟨Hi,sz,ho⟩:=gu hs
 have NP:=cX.sY i o d y hi hs
 have other:∀ t,t∉y.tmps->t≠d->((x.br d (.lbox g (putAt z 0 vs))).bD y).T t=x.T t:=by
  intro t h1 h2
  rw[rA _ _ h1]
  simp[AS.br,db,h2]
 have atd:((x.br d (.lbox g (putAt z 0 vs))).bD y).T d=.lbox g (putAt z 0 vs):=by
  rw[rA _ _ (fun hm=>NP d hm Hi)]
  simp[AS.br,db]
 have aty:∀ t,t∈y.tmps->((x.br d (.lbox g (putAt z 0 vs))).bD y).T t=disown (x.T t):=by
  intro t ht
  cases y with
  | tmp u =>
   simp only[an.tmps,ao3] at ht
   subst ht
   rw[vB,if_pos rfl]
   have:t≠d:=fun h=>NP t (by simp[an.tmps]) (h ▸ Hi)
   simp[AS.br,db,this]
  | _=>simp[an.tmps] at ht
 have spI:∀ t,t∈y.tmps->Bo (ay is) is (fun j=>A j\/j=i) t:=fun t ht=>⟨i,o,d,y,.inr rfl,hi,hs,ht⟩
 have spy:∀ t,Bo (ay is) is A t->t∉y.tmps:=by
  rintro t ⟨j,p,e,y',hj,hp,qy,ht⟩ hm
  have hJ:j≠i:=by rintro rfl;exact zF hj
  refine cX.Dd j i p o e y' hp hi hJ qy t ht ?_
  rw[ho]
  simp[aj.looks,fc.tmps,hm]
 have ahe:∀ t,Bo (ay is) is (fun j=>A j\/j=i) t->Bo (ay is) is A t\/t∈y.tmps:=by
  rintro t ⟨j,p,e,y',hj,hp,qy,ht⟩
  rcases hj with hj|rfl
  ·exact .inl ⟨j,p,e,y',hj,hp,qy,ht⟩
  ·rw[hi] at hp
   injection hp with hp
   subst hp
   rw[hs] at qy
   injection qy with qy
   injection qy with _ qy
   subst qy
   exact .inr ht
 have acb:∀ j e,D j=some e->e≠d:=by
  rintro j e hj rfl
  obtain⟨q,hq,hp,te⟩:=Hg j e hj
  exact cX.MZ j q e hq hp te (cX.inL e Hi)
 refine⟨by rw[(pf _ _).1];exact h.H,by rw[(pf _ _).2.2];exact h.lo,fun j hj e he Cr=>?_,fun t ht jg Cr=>?_,fun t ht=>?_,fun j p e hj hp he jg=>?_,fun j p e y' hj hp he=>?_⟩
 ·rw[other e (fun hm=>Cr (spI e hm)) (acb j e he)]
  rcases hj with hj|rfl
  ·exact h.zq j hj e he (fun hs=>Cr (hs.more fun _=>.inl))
  ·obtain⟨q,hq,hp,_⟩:=Hg j e he
   rw[hi] at hq
   injection hq with hq
   subst hq
   rw[(R0 hp).1] at hs
   cases hs
 ·rw[other t (fun hm=>Cr (spI t hm)) (fun h=>ht (h ▸ Hi))]
  exact h.not t ht (fun j hj=>jg j (.inl hj)) (fun hs=>Cr (hs.more fun _=>.inl))
 ·rcases ahe t ht with h1|h1
  ·rw[other t (spy t h1) (fun h=>h1.notM cX (h ▸ Hi))]
   exact h.spd t h1
  ·rw[aty t h1,hy t h1]
 ·rcases hj with hj|rfl
  ·have Mi:e≠d:=by
    rintro rfl
    exact jg i o e y (.inr rfl) hi hs rfl
   rw[other e (fun hm=>NP e hm (rW hp he)) Mi]
   exact h.bxA j p e hj hp he (fun k q e y hk=>jg k q e y (.inl hk))
  ·rw[hi] at hp
   injection hp with hp
   subst hp
   rw[X0 hs] at he
   cases he
 ·by_cases hJ:j=i
  ·subst hJ
   rw[hi] at hp
   injection hp with hp
   subst hp
   rw[hs] at he
   injection he with he
   injection he with e1 e2
   subst e1 e2
   exact⟨g,k,z,vs,h3,po,atd⟩
  ·rcases hj with hj|hj
   ·rw[other e (fun hm=>NP e hm (gu he).1) (cX.adn j i p o e y' d y hp hi hJ he hs)]
    exact h.bxS j p e y' hj hp he
   ·exact absurd hj hJ
end
end
theorem l9:∀ (l:List aj),(∀ (i j:Nat) (p q:aj) (d:Nat),l[i]?=some p->l[j]?=some q->i≠j->fy p=some d->fy q≠some d)->(l.filterMap fy).Nodup
 | [],_=>by simp
 | o :: l,h=>by
  have ih:=l9 l (fun i j p q d hi hj je=>h (i+1) (j+1) p q d (by simpa using hi) (by simpa using hj) (by omega))
  cases ho:fy o with
  | none=>simpa [aqh,ho] using ih
  | some d =>
   simp only[aqh,ho]
   refine ap5.2 ⟨fun hm=>?_,ih⟩
   rw[arl] at hm
   obtain⟨q,hq,te⟩:=hm
   obtain⟨j,hj⟩:=apn.1 hq
   exact h 0 (j+1) o q d rfl (by simpa using hj) (by omega) ho te
theorem lV:∀ (l:List aj),(rl l).filterMap fy=ay l
 | []=>rfl
 | o :: l=>by
  have ih:=lV l
  unfold rl ay at *
  cases ho:fy o with
  | none=>simpa [aqh,aqx,ho] using ih
  | some d=>simpa [aqh,aqx,ho] using ih
theorem tY:∀ (l:List aj),(∀ o,o∈l->(fy o).isSome=true)->∀ (k:Nat),(l.filterMap fy)[k]?=(l[k]?).bind fy
 | [],_,k=>by simp
 | o :: l,h,k=>by
  obtain⟨d,hd⟩:=apI.1 (h o ao9)
  have ih:=tY l (fun o ho=>h o (apd _ ho))
  simp only[aqh,hd]
  cases k with
  | zero=>simp[hd]
  | succ k=>simpa using ih k
theorem sD:∀ (l:List aj),(∀ o,o∈l->(fy o).isSome=true)->(l.filterMap fy).length=l.length
 | [],_=>rfl
 | o :: l,h=>by
  obtain⟨d,hd⟩:=apI.1 (h o ao9)
  have ih:=sD l (fun o ho=>h o (apd _ ho))
  simp[aqh,hd,ih]
structure Ho (G:Nat->List AV) (cf:cu) (is:List aj) (s s1 s2 s3 s' : AS) (V:Nat->AV) (S:Nat->AS) (D:Nat->Option Nat):Prop where
 H1:s1.H=s.H
 lo1:s1.lo=s.lo
 g1:s1.gen=s.gen+(ay is).length
 T1:∀ t,s1.T t=if t∈ay is then .undef else s.T t
 DP:∀ (i:Nat) (io:aj),is[i]?=some io->AQ (ay is) io=true->D i=io.dst/\kj G cf true (S i) io=some (V i,S i)
 gV:∀ (i:Nat),i<is.length->aO (V i)=none
 aeo:∀ (i d:Nat),D i=some d->∃ q,is[i]?=some q/\AQ (ay is) q=true/\q.dst=some d
 wr:∀ (k:Nat),k<=is.length->Agree s1 D V (fun i=>i<k) (S k)
 Zg:Agree s1 D V (fun i=>i<is.length) s2
 H3:s3.H=s2.H
 lo3:s3.lo=s2.lo
 g3:s3.gen=s2.gen+(ay is).length
 T3:∀ t,t∉ay is->s3.T t=s2.T t
 A3:∀ (i:Nat) (o:aj) (d:Nat),is[i]?=some o->fy o=some d->∃ (k:Nat),(ay is)[k]?=some d/\s3.T d=.lbox (s2.gen+k) (rG o)
 H4:s'.H=s3.H
 lo4:s'.lo=s3.lo
 g4:s'.gen=s3.gen
 T4:∀ t,(∀ (i:Nat) (p:aj) (d:Nat) (y:an),is[i]?=some p->dP (ay is) p=some (d,y)->t≠d/\t∉y.tmps)->s'.T t=s3.T t
 S4:∀ (i:Nat) (p:aj) (d:Nat) (y:an),is[i]?=some p->dP (ay is) p=some (d,y)->∃ sz g z vs,p=⟨none,none,.store sz (.tmp d) y⟩/\s3.T d=.lbox g z/\(y.eval G s3.T).cells=some vs/\vs.length=sz/\sz<=z.length/\vs.all al=true /\
   s'.T d=.lbox g (putAt z 0 vs)/\∀ t,t∈y.tmps->s'.T t=disown (s3.T t)
theorem pieces{G:Nat->List AV}{cf:cu}{L:List Nat}{ops:Array Oper}{is:List aj}(cX:qz L ops is){s s1 s2 s3 s' : AS}(h1:bK G cf false (lE (ay is)) s=some s1)(h2:bK G cf true (oW (ay is) is) s1=some s2)
  (h3:bK G cf false (rl is) s2=some s3) (h4:bK G cf false (wj (ay is) is) s3=some s'):∃ V S D,Ho G cf is s s1 s2 s3 s' V S D:=by
 obtain⟨m1,m2,m3,m4⟩:=yz _ _ _ h1
 obtain⟨S,V,h0,hn,hS⟩:=pI _ s1 s2 h2
 have hlen:(oW (ay is) is).length=is.length:=by simp[oW]
 have vh:∀ (i:Nat),(oW (ay is) is)[i]?=(is[i]?).map fun o=>cond (AQ (ay is) o) o ago:=fun i=>by simp[oW]
 let D:Nat->Option Nat:=fun i=>((oW (ay is) is)[i]?).bind (·.dst)
 have hD:∀ (i:Nat) (io:aj),(oW (ay is) is)[i]?=some io->D i=io.dst:=fun i io h=>by simp[D,h]
 have hDP:∀ (i:Nat) (io:aj),is[i]?=some io->AQ (ay is) io=true->(oW (ay is) is)[i]?=some io:=fun i io h hp=>by rw[vh,h];simp[hp]
 have ud:∀ (i d:Nat),D i=some d->∃ q,is[i]?=some q/\AQ (ay is) q=true/\q.dst=some d:=by
  intro i d h
  simp only[D,vh,aoP,aoO] at h
  obtain⟨_,⟨q,hq,rfl⟩,hd⟩:=h
  cases hp:AQ (ay is) q with
  | true=>rw[hp] at hd;exact⟨q,hq,hp,hd⟩
  | false=>rw[hp] at hd;cases hd
 have uh:∀ (i j d:Nat),i≠j->D i=some d->D j≠some d:=by
  intro i j d je hi hj
  obtain⟨p,hp,_,AJ⟩:=ud i d hi
  obtain⟨q,hq,_,te⟩:=ud j d hj
  exact cX.once i j p q d hp hq je te AJ
 have oP:∀ k,k<=is.length->Agree s1 D V (fun i=>i<k) (S k):=by
  intro k
  induction k with
  | zero=>intro _;rw[h0];exact⟨rfl,rfl,rfl,fun i hi=>absurd hi (arf _),fun t _=>rfl⟩
  | succ k ih =>
   intro hk
   have kX:=aoT (show k<(oW (ay is) is).length by omega)
   obtain⟨_,_,h3⟩:=hS k _ kX
   rw[h3,<- hD k _ kX]
   have:=(ih (by omega)).put (i:=k) (fun j hj bB d hd=>uh k j d (ap3 bB) hd)
   refine⟨this.H,this.gen,this.lo,fun i hi=>this.zq i (by rcases ap7 i k with h|h;exact .inl h;exact .inr (by omega)),fun t ht=>this.not t (fun i hi=>ht i (by rcases hi with h|h<;>omega))⟩
 have aaa:∀ o,o∈rl is->(fy o).isSome=true:=fun o ho=>(apK.1 ho).2
 have nP:(ay is).Nodup:=l9 is (fun i j p q d hi hj je hp hq=>cX.once i j p q d hi hj je (gr hq) (gr hp))
 obtain⟨a1,a2,a3,a4,a5⟩:=Gt (rl is) s2 s3 aaa (by rw[lV];exact nP) h3
 rw[lV] at a4
 have afD:(rl is).length=(ay is).length:=by rw[<- lV,sD _ aaa]
 have hA3:∀ (i:Nat) (o:aj) (d:Nat),is[i]?=some o->fy o=some d->∃ (k:Nat),(ay is)[k]?=some d/\s3.T d=.lbox (s2.gen+k) (rG o):=by
  intro i o d hi ho
  have hm:o∈rl is:=apK.2 ⟨ao0 hi,by simp[ho]⟩
  obtain⟨k,hk⟩:=apn.1 hm
  refine⟨k,?_,a5 k o d hk ho⟩
  rw[<- lV,tY _ aaa,hk]
  exact ho
 have ae5:∀ o,o∈wj (ay is) is->(dP (ay is) o).isSome=true:=fun o ho=>(apK.1 ho).2
 have ae' : ∀ p,p∈wj (ay is) is->∃ (i:Nat),is[i]?=some p:=fun p hp=>apn.1 (apK.1 hp).1
 have hpw:is.Pairwise (fun p q=>∀ (d:Nat) (y:an) (e:Nat) (x:an),dP (ay is) p=some (d,y)->dP (ay is) q=some (e,x)->d≠e/\(∀ t,t∈y.tmps->t∉x.tmps)):=by
  rw[List.pairwise_iff_getElem]
  intro i j hi hj je d y e x hp hq
  have e1:=aoT hi
  have e2:=aoT hj
  refine⟨cX.adn i j _ _ d y e x e1 e2 (by omega) hp hq,fun t ht hm=>cX.Dd i j _ _ d y e1 e2 (by omega) hp t ht ?_⟩
  obtain⟨_,sz,ho⟩:=gu hq
  rw[ho]
  simp[aj.looks,fc.tmps,hm]
 have aaN:=hpw.filter (fun o=>(dP (ay is) o).isSome)
 rw[List.pairwise_iff_getElem] at aaN
 obtain⟨e1,e2,e3,e4,e5⟩:=Gv (M:=ay is) (wj (ay is) is) s3 s' ae5 (fun i j p q d y e x hi hj je hp hq=>by
   obtain⟨jT,rfl⟩:=aoR.1 hi
   obtain⟨iL,rfl⟩:=aoR.1 hj
   rcases Nat.lt_or_gt_of_ne je with h|h
   ·exact aaN i j jT iL h d y e x hp hq
   ·have:=aaN j i iL jT h e x d y hq hp
    exact⟨ap3 this.1,fun t h1 h2=>this.2 t h2 h1⟩)
  (fun p d y hp hs=>by
   obtain⟨i,hi⟩:=ae' p hp
   exact cX.sY i p d y hi hs)
  (fun d hd=>by
   obtain⟨i,o,hi,ho⟩:=rk hd
   obtain⟨k,_,hk⟩:=hA3 i o d hi ho
   exact⟨_,_,hk⟩) h4
 refine⟨V,S,D,m1,m2,m3,m4,fun i io hi hp=>⟨hD i io (hDP i io hi hp),(hS i io (hDP i io hi hp)).1⟩,fun i hi=>?_,ud,oP,?_,a1,a2,by rw[a3,afD],a4,hA3,e1,e2,e3,fun t ht=>e4 t (fun p d y hp hs=>?_),fun i p d y hi hs=>e5 p d y ?_ hs⟩
 ·have kX:=aoT (show i<(oW (ay is) is).length by omega)
  exact (hS i _ kX).2.1
 ·have:=oP _ (aoU _)
  rw[<- hlen,hn] at this
  rw[<- hlen]
  exact this
 ·obtain⟨i,hi⟩:=ae' p hp
  exact ht i p d y hi hs
 ·exact apK.2 ⟨ao0 hi,by simp[hs]⟩
end Go.Abs
