/-
  A part of the proof of ScopeFinds: AbsOps2, AbsOps3, AbsOps4, AbsOps5, AbsOps6, AbsStep, AbsOps7, AbsOps8.
-/
import Derived.Great.BuildSlice
import Derived.Test.YthbncinhhdogpaaGreatDoorP01
set_option linter.unusedSimpArgs false
set_option linter.unusedVariables false
set_option linter.defProp false
namespace Go.Abs
section
section
variable {P:Program}{G:Nat->List AV}{base nt:Nat}{L:List Nat}{gh:Gh}{w:World}{a:Act}{s:AS}
theorem y3(hF:FR L nt gh w a s){v:Value}{z:AV}(hv:mA gh s.H.length nt w s.T s.gen (fB a) v z)(hl:cg s z=true) :
  ∃ b o,v=.pointer (some ⟨b,o,none⟩):=by
 cases z<;>simp only[cg,aqf] at hl
 case eptr cs =>
  have hp:=VR.uR (hv:VR gh s.H.length w v (.eptr cs))
  cases hp;exact⟨_,_,rfl⟩
 case ref loc off=>exact⟨_,_,(VR.lS (hv:VR gh s.H.length w v (.ref loc off))).2⟩
 case lref b g off =>
  obtain⟨hb,hg,hr⟩:=(hv:_/\_/\_)
  split at hl
  ·rename_i g' cs hT
   have DX:g=g':=by simpa [dX] using hl
   obtain⟨k,hk,_⟩:=vb hF hb hT
   exact⟨_,_,hr (by rw[hT,DX];rfl) k hk⟩
  ·cases hl
 case eref b g i zz off =>
  obtain⟨hb,hg,hr⟩:=(hv:_/\_/\_)
  split at hl
  ·rename_i g' e hT
   obtain⟨h1,h2⟩:=by simpa [dX,ap0] using hl
   obtain⟨ad,cap,tZ,bI⟩:=n4 hF hb hT
   rcases bI with ⟨rfl,_⟩|⟨k,_,_,_,_,rfl,_⟩
   ·simp at h2
   ·exact⟨_,_,hr (by rw[hT,h1];rfl) k _ _ tZ⟩
  ·cases hl
theorem FY(hW:aM G base s.H gh w)(hF:FR L nt gh w a s){o:Oper}{x:Operand}{y:ar}(ho:o.op=.nilCheck x)(hc:ak nt x=some y)(hl:cg s (y.addr G s.T)=true) :
  ∃ v,(execOp a.eval o).run P w=.ok (.value v) w/\mA gh s.H.length nt w s.T s.gen (fB a) v (y.addr G s.T):=by
 have hv:=arg_val hW hF hc
 have hd:(y.addr G s.T).drop=y.addr G s.T:=by cases hz:y.addr G s.T<;>rw[hz] at hl<;>first|rfl|(simp[cg] at hl)
 rw[hd] at hv
 obtain⟨b,of,hp⟩:=y3 hF hv hl
 refine⟨a.eval x,?_,hv⟩
 simp[execOp,ho,hp]
theorem Lr(hF:FR L nt gh w a s){v:Value}{z z' : AV}(hv:mA gh s.H.length nt w s.T s.gen (fB a) v z)(hl:cg s z=true){off:Nat}(ho:gQ off z=some z') :
  ∃ b o,v=.pointer (some ⟨b,o,none⟩)/\mA gh s.H.length nt w s.T s.gen (fB a) (.pointer (some ⟨b,o+off,none⟩)) z':=by
 cases z<;>simp only[gQ,apv,reduceCtorEq] at ho<;>subst ho
 case eptr cs =>
  have hp:=VR.uR (hv:VR gh s.H.length w v (.eptr cs))
  cases hp with
  | eptr b o _ f cP cy =>
   refine⟨b,o,rfl,.cK (.plain _ _ (.eptr b (o+off) _ (fun j=>f (off+j)) ?_ ?_))⟩
   ·intro j x hx
    rw[ap'] at hx
    have:=cP (off+j) x hx
    rw[aq']
    exact this
   ·intro j x hx
    rw[ap'] at hx
    exact cy (off+j) x hx
 case ref loc of =>
  obtain⟨aU,rfl⟩:=VR.lS (hv:VR gh s.H.length w v (.ref loc of))
  exact⟨_,_,rfl,.cK (.ref loc (of+off) aU)⟩
 case lref b g of =>
  obtain⟨k,o,rfl⟩:=y3 hF hv hl
  obtain⟨hb,hg,hr⟩:=(hv:_/\_/\_)
  refine⟨k,o,rfl,hb,hg,fun h1 b' h2=>?_⟩
  have:=hr h1 b' h2
  injection this with this;injection this with this;injection this with e1 e2
  rw[e1,e2]
 case eref b g i zz of =>
  obtain⟨k,o,rfl⟩:=y3 hF hv hl
  obtain⟨hb,hg,hr⟩:=(hv:_/\_/\_)
  refine⟨k,o,rfl,hb,hg,fun h1 b' c1 c2 h2=>?_⟩
  have:=hr h1 b' c1 c2 h2
  injection this with this;injection this with this;injection this with e1 e2
  rw[e1,e2,aq']
theorem Bq{z:AV}(hl:cg s z=true):z.drop=z:=by cases z<;>first|rfl|(simp[cg] at hl)
theorem CG(hW:aM G base s.H gh w)(hF:FR L nt gh w a s){o:Oper}{t:TypeId}{x:Operand}{f:Nat}{y:ar}{fs:Array Go.Field}{q:Go.Field}{sz:Nat}{z:AV}
  (ho:o.op=.fieldAddr t x f) (hc:ak nt x=some y) (hu:P.underlying t=some (.struct fs)) (hq:fs[f]?=some q) (hs:dg P q.type=some sz) (h0:0<sz)
  (hl:cg s (y.addr G s.T)=true) (he:gQ q.offset (y.addr G s.T)=some z) :
  ∃ v,(execOp a.eval o).run P w=.ok (.value v) w/\mA gh s.H.length nt w s.T s.gen (fB a) v z:=by
 have hv:=arg_val hW hF hc
 rw[Bq hl] at hv
 obtain⟨b,of,hp,tZ⟩:=Lr hF hv hl he
 refine⟨_,?_,tZ⟩
 have bC:¬ sz=0:=by omega
 simp[execOp,ho,hp,Instr.fieldAt,run_underlying hu,hq,Instr.sureAddr,fieldPlace,dE hs,bC,gI]
theorem Py(hW:aM G base s.H gh w)(hF:FR L nt gh w a s){o:Oper}{t e:TypeId}{x i:Operand}{n sz k:Nat}{y yi:ar}{z:AV}
  (ho:o.op=.indexAddr t x i) (hc:ak nt x=some y) (hi:ak nt i=some yi) (hu:P.underlying t=some (.array n e)) (hs:dg P e=some sz)
  (hk:asNat (yi.eval G s.T)=some k) (hkn:k<n) (hl:cg s (y.addr G s.T)=true) (he:gQ (k*sz) (y.addr G s.T)=some z) :
  ∃ v,(execOp a.eval o).run P w=.ok (.value v) w/\mA gh s.H.length nt w s.T s.gen (fB a) v z:=by
 have hv:=arg_val hW hF hc
 rw[Bq hl] at hv
 obtain⟨b,of,hp,tZ⟩:=Lr hF hv hl he
 obtain⟨kd,M5⟩:=kA hW hF hi hk
 refine⟨_,?_,tZ⟩
 have h1:k<n:=hkn
 simp[execOp,ho,hp,M5,Instr.indexAt,asIntOf,run_underlying hu,Instr.sureAddr,dE hs,h1,gI]
theorem U0(hW:aM G base s.H gh w)(hF:FR L nt gh w a s){o:Oper}{t e:TypeId}{x i:Operand}{sz k:Nat}{y yi:ar}{el:List (List AV)}{own:Bool}{r:List AV}
  (ho:o.op=.indexAddr t x i) (hc:ak nt x=some y) (hi:ak nt i=some yi) (hu:P.underlying t=some (.slice e)) (hs:dg P e=some sz)
  (hk:asNat (yi.eval G s.T)=some k) (hy:y.addr G s.T=.slice el own) (hr:el[k]?=some r) (Qs:r.length=sz) :
  ∃ v,(execOp a.eval o).run P w=.ok (.value v) w/\mA gh s.H.length nt w s.T s.gen (fB a) v (.eptr r):=by
 have hv:=VR.iK (mV hW hF hc hy rfl)
 obtain⟨kd,M5⟩:=kA hW hF hi hk
 generalize hA:a.eval x=V at hv
 cases hv with
 | cW=>simp at hr
 | slice b of n cap jj _ f hn jP bI cP cy =>
  have Be:k<el.length:=(apw.1 hr).1
  have gM:jj=sz:=by rw[<- Qs,bI k r hr]
  subst gM
  refine⟨.pointer (some ⟨b,of+k*jj,none⟩),?_,.cK (.plain _ _ (.eptr b (of+k*jj) r (f k) (fun j x hx=>cP k j r x hr hx) (fun j x hx=>cy k j r x hr hx)))⟩
  have h1:k<n:=by omega
  simp[execOp,ho,hA,M5,Instr.indexAt,asIntOf,run_underlying hu,dE hs,h1,gI]
theorem MF(hW:aM G base s.H gh w)(hF:FR L nt gh w a s){o:Oper}{t e:TypeId}{x i:Operand}{sz k l of m zz:Nat}{y yi:ar}
  (ho:o.op=.indexAddr t x i) (hc:ak nt x=some y) (hi:ak nt i=some yi) (hu:P.underlying t=some (.slice e)) (hs:dg P e=some sz)
  (hk:asNat (yi.eval G s.T)=some k) (hy:y.addr G s.T=.sref l of m zz) (hkm:k<m) :
  ∃ v,(execOp a.eval o).run P w=.ok (.value v) w/\mA gh s.H.length nt w s.T s.gen (fB a) v (.ref l (of+k*sz)):=by
 obtain⟨aU,cap,_,_,hA⟩:=VR.jA (mV hW hF hc hy rfl)
 obtain⟨kd,M5⟩:=kA hW hF hi hk
 refine⟨.pointer (some ⟨gh.ρ l,of+k*sz,none⟩),?_,.cK (.ref l (of+k*sz) aU)⟩
 simp[execOp,ho,hA,M5,Instr.indexAt,asIntOf,run_underlying hu,dE hs,hkm,gI]
theorem Pz(hW:aM G base s.H gh w)(hF:FR L nt gh w a s){o:Oper}{t e:TypeId}{x i:Operand}{sz k b g:Nat}{y yi:ar}{el:List (List AV)}{r:List AV}
  (ho:o.op=.indexAddr t x i) (hc:ak nt x=some y) (hi:ak nt i=some yi) (hu:P.underlying t=some (.slice e)) (hs:dg P e=some sz)
  (hk:asNat (yi.eval G s.T)=some k) (hy:y.addr G s.T=.lsr b g) (hT:s.T b=.lsl g el) (hr:el[k]?=some r) (Qs:r.length=sz) :
  ∃ v,(execOp a.eval o).run P w=.ok (.value v) w/\mA gh s.H.length nt w s.T s.gen (fB a) v (.eref b g k sz 0):=by
 have hv:=arg_val hW hF hc
 rw[hy] at hv
 obtain⟨hb,hg,hrr⟩:=(hv:_/\_/\_)
 obtain⟨kd,M5⟩:=kA hW hF hi hk
 have mC:=hrr (by rw[hT];rfl)
 have Be:k<el.length:=(apw.1 hr).1
 obtain⟨ad,cap,tZ,bI⟩:=n4 hF hb hT
 rcases bI with ⟨rfl,_⟩|⟨c,C,ty,jj,_,rfl,hκ,hS,K2,hC,hl,hrw,fF⟩
 ·simp at hr
 ·have h1:k<el.length:=Be
  refine⟨.pointer (some ⟨c,k*sz,none⟩),?_,hb,hg,fun _ b' c1 c2 h2=>?_⟩
  ·simp[execOp,ho,mC,tZ,M5,Instr.indexAt,asIntOf,run_underlying hu,dE hs,h1,gI]
  ·rw[tZ] at h2
   injection h2 with h2 _ _
   injection h2 with h2
   injection h2 with h2
   subst h2;simp
theorem U7(hW:aM G base s.H gh w)(hF:FR L nt gh w a s){o:Oper}{c x y:Operand}{ic ix iy:ar}{t:Bool}
  (ho:o.op=.pick c x y) (hc:ak nt c=some ic) (hx:ak nt x=some ix) (hy:ak nt y=some iy) (ht:ic.eval G s.T=.bool t) :
  ∃ v,(execOp a.eval o).run P w=.ok (.value v) w/\mA gh s.H.length nt w s.T s.gen (fB a) v (cond t (ix.addr G s.T).drop (iy.addr G s.T).drop):=by
 have hb:=(cc hW hF hc ht rfl).jz
 have h1:=arg_val hW hF hx
 have h2:=arg_val hW hF hy
 cases t
 ·exact⟨_,by simp[execOp,ho,hb,asBool],h2⟩
 ·exact⟨_,by simp[execOp,ho,hb,asBool],h1⟩
theorem afN(hW:aM G base s.H gh w)(hF:FR L nt gh w a s){o:Oper}{op:UnOp}{t:TypeId}{x:Operand}{ix:ar}{z:AV}
  (ho:o.op=.unOp op t x) (hc:ak nt x=some ix) (he:zJ op (ix.eval G s.T)=some z) :
  ∃ v,(execOp a.eval o).run P w=.ok (.value v) w/\mA gh s.H.length nt w s.T s.gen (fB a) v z:=by
 generalize hz:ix.eval G s.T=X at he
 unfold zJ at he
 split at he<;>first|(injection he with he;subst he)|cases he
 ·have hv:=(cc hW hF hc hz rfl).jR
  exact⟨_,by simp[execOp,ho,hv,Op.unary,Op.intArith],.cK (.plain _ _ (.int _ _))⟩
 ·have hv:=(cc hW hF hc hz rfl).jz
  exact⟨_,by simp[execOp,ho,hv,Op.unary],.cK (.plain _ _ (.bool _))⟩
theorem PD(hW:aM G base s.H gh w)(hF:FR L nt gh w a s){o:Oper}{st dt:TypeId}{x:Operand}{ix:ar}{k k' : IntKind}{z:AV}
  (ho:o.op=.convert st dt x) (hc:ak nt x=some ix) (hs:P.underlying st=some (.int k')) (hd:P.underlying dt=some (.int k)) (he:ko (.toInt k) (ix.eval G s.T)=some z) :
  ∃ v,(execOp a.eval o).run P w=.ok (.value v) w/\mA gh s.H.length nt w s.T s.gen (fB a) v z:=by
 generalize hz:ix.eval G s.T=X at he
 cases X<;>simp[ko] at he
 subst he
 have hv:=(cc hW hF hc hz rfl).jR
 exact⟨_,by simp[execOp,ho,hv,convert,run_underlying hs,run_underlying hd,Conv.intToInt],.cK (.plain _ _ (.int _ _))⟩
theorem I4(hW:aM G base s.H gh w)(hF:FR L nt gh w a s){o:Oper}{st dt:TypeId}{x:Operand}{ix:ar}{z:AV}
  (ho:o.op=.convert st dt x) (hc:ak nt x=some ix) (hs:P.underlying st=some .string) (hd:P.underlying dt=some .string) (he:ko .DO (ix.eval G s.T)=some z) :
  ∃ v,(execOp a.eval o).run P w=.ok (.value v) w/\mA gh s.H.length nt w s.T s.gen (fB a) v z:=by
 generalize hz:ix.eval G s.T=X at he
 cases X<;>simp[ko] at he
 subst he
 obtain⟨b,hv,hl⟩:=(cc hW hF hc hz rfl).jS
 exact⟨_,by simp[execOp,ho,hv,convert,run_underlying hs,run_underlying hd],.cK (.plain _ _ (.str _ _ hl))⟩
theorem foldl_push(ns:List Int):∀ s:ByteArray,(ns.foldl (fun r n=>r.push (UInt8.ofNat n.toNat)) s).data.toList=s.data.toList++ns.map fun n=>UInt8.ofNat n.toNat:=by
 induction ns with
 | nil=>intro s;simp
 | cons n ns ih=>intro s;rw[aqr,ih];simp[ByteArray.push]
theorem wk:∀ {e:List (List AV)} {l:List UInt8},bytesOf e=some l->∃ ns:List Int,e=ns.map (fun n=>[AV.int .u8 n])/\l=ns.map fun n=>UInt8.ofNat n.toNat
 | [],l,h=>by simp[bytesOf] at h;exact⟨[],rfl,by simp[h]⟩
 | r :: e,l,h=>by
  unfold bytesOf at h
  split at h
  ·rename_i hh;cases hh
  ·rename_i n r' heq
   injection heq with h1 h2
   subst h1 h2
   simp only[apt] at h
   obtain⟨l',K3,rfl⟩:=h
   obtain⟨ns,rfl,rfl⟩:=wk K3
   exact⟨n :: ns,rfl,rfl⟩
  ·cases h
theorem N1{n0:Nat}{V:Value}{ns:List Int}(hv:PR gh.S w V (.slice (ns.map fun n=>[AV.int .u8 n]) false)) :
  ∃ q:ByteArray,(Conv.bytesToString V).run P w=.ok (.string q) w/\q.data.toList=ns.map (fun n=>UInt8.ofNat n.toNat)/\∃ b c d,V=.slice b c d:=by
 generalize hE:(ns.map fun n=>[AV.int .u8 n])=E at hv
 cases hv with
 | cW =>
  have:ns=[]:=by simpa using hE
  subst this
  exact⟨ByteArray.empty,by simp[Conv.bytesToString],rfl,_,_,_,rfl⟩
 | slice b of n cap jj _ f hn jP bI cP cy =>
  subst hE
  have hlen:n=ns.length:=by rw[<- hn];simp
  have Qh:(loadCells ⟨b,of,none⟩ n).run P w=.ok (ns.map (Value.int .u8)).toArray w:=by
   have:=run_loadCells_list (P:=P) w ⟨b,of,none⟩ (ns.map (Value.int .u8)) (fun j v hj=>by
    simp only[apG,apt] at hj
    obtain⟨m,hm,rfl⟩:=hj
    have hr:(ns.map fun n=>[AV.int .u8 n])[j]?=some [AV.int .u8 m]:=by simp[hm]
    have Bk:jj=1:=by rw[<- bI j _ hr];rfl
    subst Bk
    obtain⟨_,h1,_⟩:=cP j 0 _ _ hr rfl
    have h2:=cy j 0 _ _ hr rfl
    have h3:f j 0=.int .u8 m:=by generalize f j 0=F at h2;cases h2;rfl
    rw[gI,<- h3,<- h1];simp)
   rw[apQ,<- hlen] at this
   exact this
  refine⟨_,run_bytesToString w _ n cap ns Qh,?_,_,_,_,rfl⟩
  rw[foldl_push];simp[ByteArray.empty,ByteArray.emptyWithCapacity];rfl
theorem FV(hW:aM G base s.H gh w)(hF:FR L nt gh w a s){o:Oper}{st dt e:TypeId}{x:Operand}{ix:ar}{z:AV}
  (ho:o.op=.convert st dt x) (hc:ak nt x=some ix) (hs:P.underlying st=some (.slice e)) (hE:P.underlying e=some (.int .u8)) (hd:P.underlying dt=some .string) (he:ko .xK (ix.eval G s.T)=some z) :
  ∃ v,(execOp a.eval o).run P w=.ok (.value v) w/\mA gh s.H.length nt w s.T s.gen (fB a) v z:=by
 generalize hz:ix.eval G s.T=X at he
 cases X<;>simp only[ko,reduceCtorEq,apt] at he
 obtain⟨l,hl,rfl⟩:=he
 obtain⟨ns,rfl,rfl⟩:=wk hl
 have hv:=VR.iK (cc hW hF hc hz rfl)
 obtain⟨q,h1,h2,b,c,d,hV⟩:=N1 (P:=P) (n0:=0) hv
 refine⟨.string q,?_,.cK (.plain _ _ (.str _ _ h2))⟩
 have h3:(convert st dt (a.eval x)).run P w=.ok (.string q) w:=by rw[hV] at h1 ⊢;rw[run_convert_bytes_string w st dt e b c d hs hE hd,h1]
 simp[execOp,ho,h3]
end
end
section
section
variable {P:Program}{G:Nat->List AV}{base nt:Nat}{L:List Nat}{gh:Gh}{w:World}{a:Act}{s:AS}
theorem Hr{x:AV}(h:x.plain=true):aq x=true:=by cases x<;>first|rfl|(simp[AV.plain] at h)
theorem I2(hW:aM G base s.H gh w)(hF:FR L nt gh w a s){o:Oper}{t:TypeId}{x:Operand}{ix:ar}{z:AV}
  (ho:o.op=.makeInterface t x) (hc:ak nt x=some ix) (hd:∃ d,P.underlying t=some d/\∀ m,d≠.interface m) (he:vQ t (ix.eval G s.T)=some z) :
  ∃ v,(execOp a.eval o).run P w=.ok (.value v) w/\mA gh s.H.length nt w s.T s.gen (fB a) v z:=by
 generalize hz:ix.eval G s.T=X at he
 unfold vQ at he
 obtain⟨h0,h1⟩:=ab he
 injection h1 with h1
 subst h1
 have hf:aq X=true:=by
  rcases Bool.or_eq_true_iff.1 h0 with h|h
  ·rw[<- gK];exact Hr h
  ·cases X<;>first|rfl|(simp at h)
 have hv:=cc hW hF hc hz hf
 obtain⟨d,hd,hn⟩:=hd
 have yD:P.concrete t=true:=by unfold Program.concrete;rw[hd];cases d<;>first|rfl|exact absurd rfl (hn _)
 exact⟨_,by simp[execOp,ho,run_makeInterface w t _ yD],.cK (.iface _ _ _ hv)⟩
theorem Hp{n:Nat}{agg:Bool}{sz off:Nat}{xs:List AV}{z:AV}(hl:ah false agg sz off xs=some z){t:TypeId}(hg:lj P t=some agg)(hs:dg P t=some sz)
  {cs:Array Value} (gM:cs.size=xs.length) (fX:∀ (j:Nat) (v:Value),cs[j]?=some v->v.oneCell'=true)
  (h:∀ (j:Nat) (v:Value) (x:AV),cs[j]?=some v->xs[j]?=some x->VR gh n w v x) :
  ∃ v,(part t cs off).run P w=.ok v w/\VR gh n w v z:=by
 unfold ah at hl
 cases agg
 ·simp only[apE,apt] at hl
  obtain⟨x,hx,rfl⟩:=hl
  have hj:off<cs.size:=by rw[gM];exact (apw.1 hx).1
  have hv:cs[off]?=some cs[off]:=apJ hj
  exact⟨cs[off],by simp[part,iu hg,hv],VR.dropped (h off _ x hv hx)⟩
 ·simp only[cond_true] at hl
  obtain⟨h0,h1⟩:=ab hl
  have h0' : off+sz<=xs.length:=by simpa [Nat.ble_eq] using h0
  injection h1 with h1
  subst h1
  refine⟨.agg (cs.extract off (off+sz)),by simp[part,iu hg,dE hs],.agg _ _ (by simp;omega) ?_ ?_⟩
  ·intro j v hj
   rw[arQ] at hj
   split at hj
   ·exact fX _ v hj
   ·cases hj
  ·intro j v x hj hx
   rw[arQ] at hj
   split at hj
   ·rename_i aU
    simp only[apG,apt] at hx
    obtain⟨y,hy,rfl⟩:=hx
    rw[apR,ap'] at hy
    split at hy
    ·exact VR.dropped (h _ v y hj hy)
    ·cases hy
   ·cases hj
theorem Pw(hW:aM G base s.H gh w)(hF:FR L nt gh w a s){o:Oper}{t:TypeId}{x:Operand}{f:Nat}{ix:ar}{fs:Array Go.Field}{q:Go.Field}{agg:Bool}{sz:Nat}{xs:List AV}{z:AV}
  (ho:o.op=.field t x f) (hc:ak nt x=some ix) (hu:P.underlying t=some (.struct fs)) (hq:fs[f]?=some q) (hs:dg P q.type=some sz) (hg:lj P q.type=some agg)
  (hz:ix.eval G s.T=.agg xs) (he:ah false agg sz q.offset xs=some z) :
  ∃ v,(execOp a.eval o).run P w=.ok (.value v) w/\mA gh s.H.length nt w s.T s.gen (fB a) v z:=by
 obtain⟨cs,hA,gM,fX,h⟩:=(cc hW hF hc hz rfl).jQ
 obtain⟨v,h1,h2⟩:=Hp he hg hs gM fX h
 exact⟨v,by simp[execOp,ho,hA,Instr.field,run_underlying hu,hq,asAgg,h1],.cK h2⟩
theorem Px(hW:aM G base s.H gh w)(hF:FR L nt gh w a s){o:Oper}{t e:TypeId}{x i:Operand}{n sz k:Nat}{ix ii:ar}{agg:Bool}{xs:List AV}{z:AV}
  (ho:o.op=.index t x i) (hc:ak nt x=some ix) (hi:ak nt i=some ii) (hu:P.underlying t=some (.array n e)) (hs:dg P e=some sz) (hg:lj P e=some agg)
  (hk:asNat (ii.eval G s.T)=some k) (hkn:k<n) (hz:ix.eval G s.T=.agg xs) (he:ah false agg sz (k*sz) xs=some z) :
  ∃ v,(execOp a.eval o).run P w=.ok (.value v) w/\mA gh s.H.length nt w s.T s.gen (fB a) v z:=by
 obtain⟨cs,hA,gM,fX,h⟩:=(cc hW hF hc hz rfl).jQ
 obtain⟨kd,M5⟩:=kA hW hF hi hk
 obtain⟨v,h1,h2⟩:=Hp he hg hs gM fX h
 exact⟨v,by simp[execOp,ho,hA,M5,Instr.index,asIntOf,run_underlying hu,dE hs,hkn,h1],.cK h2⟩
theorem FW(hW:aM G base s.H gh w)(hF:FR L nt gh w a s){o:Oper}{t:TypeId}{x i:Operand}{k:Nat}{ix ii:ar}{l:List UInt8}{b:UInt8}
  (ho:o.op=.index t x i) (hc:ak nt x=some ix) (hi:ak nt i=some ii) (hu:P.underlying t=some .string)
  (hk:asNat (ii.eval G s.T)=some k) (hz:ix.eval G s.T=.str l) (hb:l[k]?=some b) :
  ∃ v,(execOp a.eval o).run P w=.ok (.value v) w/\mA gh s.H.length nt w s.T s.gen (fB a) v (.int .u8 b.toNat):=by
 obtain⟨q,hA,hl⟩:=(cc hW hF hc hz rfl).jS
 obtain⟨kd,M5⟩:=kA hW hF hi hk
 have hq:q[k]?=some b:=by
  obtain⟨⟨d⟩⟩:=q
  simp at hl;subst hl
  have Be:=(apw.1 hb).1
  have HY:k<(ByteArray.mk ⟨d⟩).size:=Be
  rw[ByteArray.getElem?_lt' _ _ HY]
  rw[apy Be] at hb
  exact hb
 exact⟨_,by simp[execOp,ho,hA,M5,Instr.index,asIntOf,run_underlying hu,hq],.cK (.plain _ _ (.int _ _))⟩
theorem VR.x4{n:Nat}{v:Value}{x:AV}(h:VR gh n w v x):VR gh n w v x.aX:=by
 cases x<;>try exact VR.dropped h
 obtain⟨cs,rfl,hs,fX,h⟩:=h.jQ
 refine .agg _ _ (by simp[hs]) fX fun j v x hj hx=>?_
 simp only[apG,apt] at hx
 obtain⟨y,hy,rfl⟩:=hx
 exact VR.dropped (h j v y hj hy)
theorem I0(hW:aM G base s.H gh w)(hF:FR L nt gh w a s){o:Oper}{x:Operand}{i:Nat}{ix:ar}{vs:List AV}{z:AV}
  (ho:o.op=.extract x i) (hc:ak nt x=some ix) (hz:ix.eval G s.T=.tuple vs) (hi:vs[i]?=some z) :
  ∃ v,(execOp a.eval o).run P w=.ok (.value v) w/\mA gh s.H.length nt w s.T s.gen (fB a) v z.aX:=by
 obtain⟨us,hA,gM,h⟩:=(cc hW hF hc hz rfl).sv
 have hj:i<us.size:=by rw[gM];exact (apw.1 hi).1
 have hv:us[i]?=some us[i]:=apJ hj
 exact⟨us[i],by simp[execOp,ho,hA,Instr.extract,hv],.cK (VR.x4 (h i _ z hv hi))⟩
theorem U1{t:TypeId}{k:lO}{V:Value}{X z:AV}{n:Nat}(hv:VR gh n w V X.drop)(ht:match k with|.str=>P.underlying t=some .string|.sl=>∃ e,P.underlying t=some (.slice e)|.arr m=>∃ e,P.underlying t=some (.array m e))
  (he:kJ k X=some z) (ty:TypeId):∃ v,(Builtin.len_ #[t] ty #[V]).run P w=.ok v w/\VR gh n w v z:=by
 cases k<;>cases X<;>simp only[kJ,apv,reduceCtorEq] at he<;>subst he
 case str.str l =>
  obtain⟨q,rfl,rfl⟩:=hv.jS
  refine⟨.int .i64 q.size,by simp[Builtin.len_,run_underlying ht,goInt],?_⟩
  exact .plain _ _ (by rw[show (q.data.toList.length:Int)=(q.size:Int) by simp];exact .int _ _)
 case sl.slice el own =>
  obtain⟨e,ht⟩:=ht
  have hp:=hv.iK
  cases hp with
  | cW=>exact⟨.int .i64 0,by simp[Builtin.len_,run_underlying ht,goInt],.plain _ _ (.int _ _)⟩
  | slice b of m cap sz _ f hn jP bI cP cy=>exact⟨.int .i64 el.length,by simp[Builtin.len_,run_underlying ht,goInt,hn],.plain _ _ (.int _ _)⟩
 case sl.sref loc off m zz =>
  obtain⟨e,ht⟩:=ht
  obtain⟨_,cap,_,_,rfl⟩:=hv.jA
  exact⟨.int .i64 m,by simp[Builtin.len_,run_underlying ht,goInt],.plain _ _ (.int _ _)⟩
 case sl.ae =>
  obtain⟨e,ht⟩:=ht
  have hp:=hv.kH
  subst hp
  exact⟨.int .i64 0,by simp[Builtin.len_,run_underlying ht,goInt],.plain _ _ (.int _ _)⟩
 all_goals
  obtain⟨e,ht⟩:=ht
  exact⟨.int .i64 _,by simp[Builtin.len_,run_underlying ht,goInt],.plain _ _ (.int _ _)⟩
theorem jL:∀ {xs:List Operand} {ys:List ar},iX nt xs=some ys->xs.length=ys.length/\∀ (j:Nat) (x:Operand) (y:ar),xs[j]?=some x->ys[j]?=some y->ak nt x=some y
 | [],ys,h=>by simp[iX] at h;subst h;exact⟨rfl,fun j x y h=>by simp at h⟩
 | x :: r,ys,h=>by
  simp only[iX,apu,apt] at h
  obtain⟨y,hy,zs,hz,rfl⟩:=h
  obtain⟨h1,h2⟩:=jL hz
  refine⟨by simp[h1],fun j u v hu hv=>?_⟩
  cases j with
  | zero=>simp at hu hv;subst hu hv;exact hy
  | succ j=>exact h2 j u v (by simpa using hu) (by simpa using hv)
theorem B1(hW:aM G base s.H gh w)(hF:FR L nt gh w a s){xs:List Operand}{ys:List ar}(hc:iX nt xs=some ys)(hf:(ys.map fun y=>y.addr G s.T).all aq=true) :
  ∀ (j:Nat) (v:Value) (x:AV),(xs.map a.eval)[j]?=some v->(ys.map fun y=>(y.addr G s.T).drop)[j]?=some x->VR gh s.H.length w v x:=by
 obtain⟨hl,h⟩:=jL hc
 intro j v x hj hx
 simp only[apG,apt] at hj hx
 obtain⟨o,ho,rfl⟩:=hj
 obtain⟨y,hy,rfl⟩:=hx
 have hfy:aq (y.addr G s.T)=true:=apA.1 hf _ (ap9.2 ⟨y,apF hy,rfl⟩)
 exact mV hW hF (h j o y ho hy) rfl hfy
theorem MG(hW:aM G base s.H gh w)(hF:FR L nt gh w a s){o:Oper}{f:Fn}{fs cs:Array Operand}{ifs ics:List ar}
  (ho:o.op=.makeFunc f fs cs) (h1:iX nt fs.toList=some ifs) (h2:iX nt cs.toList=some ics)
  (hf1:(ifs.map fun y=>y.addr G s.T).all aq=true) (hf2:(ics.map fun y=>y.addr G s.T).all aq=true) :
  ∃ v,(execOp a.eval o).run P w=.ok (.value v) w/\mA gh s.H.length nt w s.T s.gen (fB a) v (.func f (ifs.map fun y=>(y.addr G s.T).drop) (ics.map fun y=>(y.addr G s.T).drop)):=by
 refine⟨.func f (fs.map a.eval) (cs.map a.eval),by simp[execOp,ho,Instr.makeFunc],.cK (.func _ _ _ _ _ ?_ ?_ ?_ ?_)⟩
 ·simpa using (jL h1).1
 ·simpa using (jL h2).1
 ·intro j v x hj hx
  exact B1 hW hF h1 hf1 j v x (by simpa using hj) hx
 ·intro j v x hj hx
  exact B1 hW hF h2 hf2 j v x (by simpa using hj) hx
end
end
section
section
variable {P:Program}{G:Nat->List AV}{base nt:Nat}{L:List Nat}{gh:Gh}{w:World}{a:Act}{s:AS}
theorem jJ(hW:aM G base s.H gh w)(hF:FR L nt gh w a s){x:Option Operand}{ix:Option ar}(hc:gO nt x=some ix){d ND n:Nat}(hb:bound d (ix.map (·.eval G s.T)) ND=some n) :
  (x.map a.eval=none/\ix=none/\n=d)\/(ix.isSome=true/\n<=ND/\∃ k,x.map a.eval=some (.int k (n:Int))):=by
 cases x with
 | none=>simp[gO] at hc;subst hc;simp[bound] at hb;exact .inl ⟨rfl,rfl,hb.symm⟩
 | some x =>
  simp only[gO,apt] at hc
  obtain⟨y,hy,rfl⟩:=hc
  simp only[bound,Option.map_some,apu] at hb
  obtain⟨m,hm,hb⟩:=hb
  obtain⟨h1,h2⟩:=ab hb
  injection h2 with h2
  subst h2
  obtain⟨k,hk⟩:=kA hW hF hy hm
  exact .inr ⟨rfl,by simpa [Nat.ble_eq] using h1,k,by simp[hk]⟩
theorem qF{isSlice:Bool}{len cap l h m:Nat}{lo hi mx:Option Value}
  (hm:(mx=none/\m=cap)\/(m<=cap/\∃ k,mx=some (.int k (m:Int)))) (hh:(hi=none/\h=len/\mx=none)\/(h<=m/\∃ k,hi=some (.int k (h:Int))))
  (hl:(lo=none/\l=0)\/(l<=h/\∃ k,lo=some (.int k (l:Int)))) :
  (Instr.sliceBounds isSlice len cap lo hi mx).run P w=.ok (l,h,m) w:=by
 have sb:∀ (k:IntKind) (n y:Nat) (code:BoundsCode),n<=y->(Instr.sliceBound (.int k (n:Int)) y code).run P w=.ok n w:=by
  intro k n y code hn
  rw[run_sliceBound w k n y code (by omega) (by omega)];simp
 rcases hm with ⟨rfl,rfl⟩|⟨hm,km,rfl⟩<;>rcases hh with ⟨rfl,rfl,hx⟩|⟨hh,kh,rfl⟩<;>rcases hl with ⟨rfl,rfl⟩|⟨hl,kl,rfl⟩ <;>
  first|(cases hx;done)|simp[Instr.sliceBounds,sb, *]
theorem CM(hW:aM G base s.H gh w)(hF:FR L nt gh w a s){o:Oper}{t:TypeId}{x:Operand}{lo hi mx:Option Operand}{ix:ar}{Nh Bm Bn:Option ar}{z:AV}
  (ho:o.op=.slice t x lo hi mx) (hc:ak nt x=some ix) (h1:gO nt lo=some Nh) (h2:gO nt hi=some Bm) (h3:gO nt mx=some Bn) (hu:P.underlying t=some .string)
  (he:iC .str (ix.eval G s.T) (Nh.map (·.eval G s.T)) (Bm.map (·.eval G s.T)) (Bn.map (·.eval G s.T))=some z) :
  ∃ v,(execOp a.eval o).run P w=.ok (.value v) w/\mA gh s.H.length nt w s.T s.gen (fB a) v z:=by
 generalize hz:ix.eval G s.T=X at he
 cases X<;>simp only[iC,reduceCtorEq,apu] at he
 rename_i l
 obtain⟨h,hh,l0,hl,he⟩:=he
 obtain⟨hn,he⟩:=ab he
 injection he with he
 subst he
 obtain⟨q,hA,hq⟩:=(cc hW hF hc hz rfl).jS
 have gM:q.size=l.length:=by rw[<- hq];simp
 have M7:mx.map a.eval=none/\Bn=none:=by
  cases mx with
  | none=>simp[gO] at h3;subst h3;exact⟨rfl,rfl⟩
  | some m=>simp only[gO,apt] at h3;obtain⟨_,_,rfl⟩:=h3;simp at hn
 have bh:=jJ hW hF h2 hh
 have bl:=jJ hW hF h1 hl
 have hb:(Instr.sliceBounds false q.size q.size (lo.map a.eval) (hi.map a.eval) none).run P w=.ok (l0,h,q.size) w:=by
  refine qF (.inl ⟨rfl,rfl⟩) ?_ ?_
  ·rcases bh with ⟨e1,_,e2⟩|⟨_,e1,k,e2⟩
   ·exact .inl ⟨e1,by omega,rfl⟩
   ·exact .inr ⟨by omega,k,e2⟩
  ·rcases bl with ⟨e1,_,e2⟩|⟨_,e1,k,e2⟩
   ·exact .inl ⟨e1,e2⟩
   ·exact .inr ⟨e1,k,e2⟩
 refine⟨.string (q.extract l0 h),?_,.cK (.plain _ _ (.str _ _ ?_))⟩
 ·have hA':=hA
  have pP:(Instr.slice t (.string q) (lo.map a.eval) (hi.map a.eval) none).run P w=.ok (.string (q.extract l0 h)) w:=by
   simp[Instr.slice,run_underlying hu,hb]
  simp only[execOp,ho,hA',M7.1,Sem.run_bind,run_sliceAt_string w t (.string q) _ _ _ hu,pP,Result.andThen_ok,Sem.run_pure]
 ·rw[<- hq]
  rw[ByteArray.data_extract,Array.toList_extract,List.extract_eq_take_drop,List.drop_take]
theorem yE{sz jj:Nat}{e:List (List AV)}(h:fM sz e=true)(hr:∀ (i:Nat) (r:List AV),e[i]?=some r->r.length=jj)(bC:e≠[]):jj=sz:=by
 cases e with
 | nil=>exact absurd rfl bC
 | cons r e =>
  simp[fM,dX] at h
  rw[<- hr 0 r rfl,h]
theorem PR.part{S:Nat->Nat->Prop}{b o n cap:Nat}{e:List (List AV)}(hv:PR S w (.slice (some ⟨b,o,none⟩) n cap) (.slice e false)){sz:Nat}(gM:e≠[]->∀ (i:Nat) (r:List AV),e[i]?=some r->r.length=sz)
  {l h c:Nat} (hl:l<=h) (hh:h<=n) (hc:h-l<=c):PR S w (.slice (some ⟨b,o+l*sz,none⟩) (h-l) c) (.slice ((e.take h).drop l) false):=by
 cases hv with
 | slice _ _ _ _ jj _ f hn jP bI cP cy =>
  have idx:∀ (i:Nat) (r:List AV),((e.take h).drop l)[i]?=some r->e[l+i]?=some r:=by
   intro i r hi
   rw[ap',apR] at hi
   split at hi
   ·exact hi
   ·cases hi
  have hz:∀ (i:Nat) (r:List AV),e[i]?=some r->jj=sz:=by
   intro i r hi
   have bC:e≠[]:=by rintro rfl;simp at hi
   rw[<- bI i r hi,gM bC i r hi]
  refine .slice b (o+l*sz) (h-l) c sz _ (fun i j=>f (l+i) j) (by simp;omega) hc ?_ ?_ ?_
  ·intro i r hi
   rw[bI _ r (idx i r hi),hz _ r (idx i r hi)]
  ·intro i j r x hi hj
   have h1:=cP (l+i) j r x (idx i r hi) hj
   rw[hz _ r (idx i r hi)] at h1
   rw[show o+l*sz+i*sz+j=o+(l+i)*sz+j by rw[aqd];omega]
   exact h1
  ·intro i j r x hi hj
   exact cy (l+i) j r x (idx i r hi) hj
theorem PR.Bz{S:Nat->Nat->Prop}{b o c:Nat}{e:List (List AV)}{l h:Nat}(hl:h<=l):PR S w (.slice (some ⟨b,o,none⟩) 0 c) (.slice ((e.take h).drop l) false):=by
 have:(e.take h).drop l=[]:=by simp;omega
 rw[this]
 exact .slice b o 0 c 0 [] (fun _ _=>undef) rfl (aqF _) (fun i r h=>by simp at h) (fun i j r x h=>by simp at h) (fun i j r x h=>by simp at h)
theorem Ad(hW:aM G base s.H gh w)(hF:FR L nt gh w a s){o:Oper}{t e0:TypeId}{x:Operand}{lo hi mx:Option Operand}{ix:ar}{Nh Bm Bn:Option ar}{sz:Nat}{z:AV}
  (ho:o.op=.slice t x lo hi mx) (hc:ak nt x=some ix) (h1:gO nt lo=some Nh) (h2:gO nt hi=some Bm) (h3:gO nt mx=some Bn) (hu:P.underlying t=some (.slice e0)) (hs:dg P e0=some sz)
  {ll o0 n zz:Nat} (hz:ix.eval G s.T=.sref ll o0 n zz) (he:∃ h,bound n (Bm.map (·.eval G s.T)) n=some h/\∃ l0,bound 0 (Nh.map (·.eval G s.T)) h=some l0 /\
   cond ((Bn.map (·.eval G s.T)).isNone&&Nat.beq zz sz) (some (cond (Nat.blt l0 n) (.sref ll (o0+l0*zz) (h-l0) zz) (.slice [] false))) none=some z) :
  ∃ v,(execOp a.eval o).run P w=.ok (.value v) w/\mA gh s.H.length nt w s.T s.gen (fB a) v z:=by
 obtain⟨h,hh,l0,hl,he⟩:=he
 obtain⟨hn,tH⟩:=ab he
 clear he
 simp only[Bool.and_eq_true,aq0,Option.map_eq_none_iff,dX,apS] at hn
 obtain⟨rfl,rfl⟩:=hn
 have D0:mx.map a.eval=none:=by
  cases mx with
  | none=>rfl
  | some m=>simp only[gO,apt,reduceCtorEq,ar8,arO] at h3
 obtain⟨aU,cap,hk,ajx,hA⟩:=(cc hW hF hc hz rfl).jA
 have bh:=jJ hW hF h2 hh
 have bl:=jJ hW hF h1 hl
 have hhn:h<=n:=by rcases bh with ⟨_,_,e⟩|⟨_,e,_⟩<;>omega
 have hlh:l0<=h:=by rcases bl with ⟨_,_,e⟩|⟨_,e,_⟩<;>omega
 have hb:(Instr.sliceBounds true n cap (lo.map a.eval) (hi.map a.eval) (mx.map a.eval)).run P w=.ok (l0,h,cap) w:=by
  refine qF (.inl ⟨D0,rfl⟩) ?_ ?_
  ·rcases bh with ⟨e1,e2,e3⟩|⟨_,e1,k,e2⟩
   ·exact .inl ⟨e1,by omega,D0⟩
   ·exact .inr ⟨by omega,k,e2⟩
  ·rcases bl with ⟨e1,_,e2⟩|⟨_,e1,k,e2⟩
   ·exact .inl ⟨e1,e2⟩
   ·exact .inr ⟨e1,k,e2⟩
 have hr:(Instr.sliceAt t (a.eval x) (lo.map a.eval) (hi.map a.eval) (mx.map a.eval)).run P w=.ok (.slice (if cap=l0 then some ⟨gh.ρ ll,o0,none⟩ else (some (⟨gh.ρ ll,o0,none⟩:Addr)).map (·.add (l0*zz))) (h-l0) (cap-l0)) w:=by
  rw[hA]
  simp[Instr.sliceAt,run_underlying hu,Instr.slice,hb,dE hs]
 refine⟨_,by simp only[execOp,ho,Sem.run_bind,hr,Result.andThen_ok,Sem.run_pure];rfl,?_⟩
 injection tH with tH
 subst tH
 cases hq:Nat.blt l0 n with
 | true =>
  have hq' : l0<n:=by simpa [ap0] using hq
  rw[if_neg (by omega),Option.map_some,gI]
  refine .cK (.sref ll (o0+l0*zz) (h-l0) (cap-l0) zz aU (by omega) (fun h0=>?_))
  obtain⟨ty,PZ⟩:=ajx h0
  refine⟨ty,?_⟩
  have:o0+l0*zz+(cap-l0)*zz=o0+cap*zz:=by
   have h3:(l0+(cap-l0))*zz=l0*zz+(cap-l0)*zz:=aqd _ _ _
   rw[show l0+(cap-l0)=cap by omega] at h3
   omega
  rw[this];exact PZ
 | false =>
  have hq' : ¬ l0<n:=fun h=>by rw[<- ap0] at h;rw[h] at hq;cases hq
  have e0:h-l0=0:=by omega
  rw[e0]
  have hp:∀ (b of c:Nat),PR gh.S w (.slice (some ⟨b,of,none⟩) 0 c) (.slice [] false):=fun b of c=>.slice b of 0 c 0 [] (fun _ _=>undef) rfl (aqF _) (fun i r h=>by simp at h) (fun i j r x h=>by simp at h) (fun i j r x h=>by simp at h)
  split
  ·exact .cK (.plain _ _ (hp _ _ _))
  ·rw[Option.map_some,gI];exact .cK (.plain _ _ (hp _ _ _))
theorem FZ(hW:aM G base s.H gh w)(hF:FR L nt gh w a s){o:Oper}{t e0:TypeId}{x:Operand}{lo hi mx:Option Operand}{ix:ar}{Nh Bm Bn:Option ar}{sz:Nat}{z:AV}
  (ho:o.op=.slice t x lo hi mx) (hc:ak nt x=some ix) (h1:gO nt lo=some Nh) (h2:gO nt hi=some Bm) (h3:gO nt mx=some Bn) (hu:P.underlying t=some (.slice e0)) (hs:dg P e0=some sz)
  (he:iC (.sl sz) (ix.eval G s.T) (Nh.map (·.eval G s.T)) (Bm.map (·.eval G s.T)) (Bn.map (·.eval G s.T))=some z) :
  ∃ v,(execOp a.eval o).run P w=.ok (.value v) w/\mA gh s.H.length nt w s.T s.gen (fB a) v z:=by
 generalize hz:ix.eval G s.T=X at he
 cases X<;>simp only[iC,reduceCtorEq,apu] at he
 case sref=>exact Ad hW hF ho hc h1 h2 h3 hu hs hz he
 rename_i e own
 obtain⟨m,hm,h,hh,l0,hl,he⟩:=he
 obtain⟨hn,he⟩:=ab he
 injection he with he
 subst he
 have hp:=VR.iK (cc hW hF hc hz rfl)
 have bm:=jJ hW hF h3 hm
 have bh:=jJ hW hF h2 hh
 have bl:=jJ hW hF h1 hl
 have D0:Bn=none->mx.map a.eval=none:=by
  rintro rfl
  cases mx with
  | none=>rfl
  | some m=>simp only[gO,apt,reduceCtorEq,ar8,arO] at h3
 have qO:lo.map a.eval=none->l0=0:=by
  intro qO
  rcases bl with ⟨_,_,e2⟩|⟨_,_,k,e2⟩
  ·exact e2
  ·rw[qO] at e2;cases e2
 simp only[Bool.and_eq_true,aqZ,aq0,Option.map_eq_none_iff] at hn
 obtain⟨s6,wF⟩:=hn
 have hlh:l0<=h:=by rcases bl with ⟨_,_,e⟩|⟨_,e,_⟩<;>omega
 have hhm:h<=m:=by
  rcases bh with ⟨_,e1,e2⟩|⟨_,e,_⟩
  ·subst e1
   rcases s6 with rfl|hx
   ·simp[bound] at hm;omega
   ·simp at hx
  ·exact e
 have HZ:m<=e.length:=by rcases bm with ⟨_,_,e⟩|⟨_,e,_⟩<;>omega
 have key:∀ len cap:Nat,len=e.length->len<=cap->∀ ad,∃ m',(m'=if Bn=none then cap else m) /\
   (Instr.slice t (.slice ad len cap) (lo.map a.eval) (hi.map a.eval) (mx.map a.eval)).run P w=.ok (.slice (if m'=l0 then ad else ad.map (·.add (l0*sz))) (h-l0) (m' - l0)) w:=by
  intro len cap hlen jP ad
  refine⟨_,rfl,?_⟩
  have hb:(Instr.sliceBounds true len cap (lo.map a.eval) (hi.map a.eval) (mx.map a.eval)).run P w=.ok (l0,h,if Bn=none then cap else m) w:=by
   refine qF ?_ ?_ ?_
   ·rcases bm with ⟨e1,e2,_⟩|⟨e1,e2,k,e3⟩
    ·exact .inl ⟨e1,by rw[if_pos e2]⟩
    ·have bC:Bn≠none:=by rintro rfl;cases e1
     rw[if_neg bC]
     exact .inr ⟨by omega,k,e3⟩
   ·rcases bh with ⟨e1,e2,e3⟩|⟨_,e1,k,e2⟩
    ·refine .inl ⟨e1,by omega,?_⟩
     subst e2
     rcases s6 with hx|hx
     ·exact D0 hx
     ·simp at hx
    ·refine .inr ⟨?_,k,e2⟩
     split<;>omega
   ·rcases bl with ⟨e1,_,e2⟩|⟨_,e1,k,e2⟩
    ·exact .inl ⟨e1,e2⟩
    ·exact .inr ⟨e1,k,e2⟩
  simp[Instr.slice,run_underlying hu,hb,dE hs]
 have fin:∀ {V:Value} {R:Value},a.eval x=V->(Instr.slice t V (lo.map a.eval) (hi.map a.eval) (mx.map a.eval)).run P w=.ok R w->(∃ ad n c,V=.slice ad n c) ->
   (execOp a.eval o).run P w=.ok (.value R) w:=by
  rintro V R hA hR ⟨ad,n,c,rfl⟩
  have:(Instr.sliceAt t (.slice ad n c) (lo.map a.eval) (hi.map a.eval) (mx.map a.eval)).run P w=.ok R w:=by simp[Instr.sliceAt,run_underlying hu,hR]
  simp only[execOp,ho,hA,Sem.run_bind,this,Result.andThen_ok,Sem.run_pure]
 generalize hA:a.eval x=V at hp
 have Ut:=hp
 cases hp with
 | cW =>
  have hlen:([]:List (List AV)).length=0:=rfl
  simp only[List.length_nil] at HZ
  have e1:m=0:=by omega
  have e2:h=0:=by omega
  have e3:l0=0:=by omega
  subst e1 e2 e3
  obtain⟨m',ZM,hr⟩:=key 0 0 rfl (apz _) none
  have:m'=0:=by rw[ZM];split<;>rfl
  subst this
  refine⟨_,fin hA hr ⟨_,_,_,rfl⟩,.cK ?_⟩
  simp
  generalize Bn.isSome=q
  cases q
  ·exact .plain _ _ .cW
  ·exact .full none 0 [] .cW trivial
 | slice b of n cap jj _ f hn' jP bI cP cy =>
  obtain⟨m',ZM,hr⟩:=key n cap hn'.symm jP (some ⟨b,of,none⟩)
  refine⟨_,fin hA hr ⟨_,_,_,rfl⟩,.cK ?_⟩
  have anC:h<=m':=by rw[ZM];split<;>omega
  have vJ:PR gh.S w (.slice (if m'=l0 then some ⟨b,of,none⟩ else (some (⟨b,of,none⟩:Addr)).map (·.add (l0*sz))) (h-l0) (m' - l0)) (.slice ((e.take h).drop l0) false):=by
   by_cases agy:m'=l0
   ·rw[if_pos agy]
    have:h-l0=0:=by omega
    rw[this]
    exact PR.Bz (by omega)
   ·rw[if_neg agy,Option.map_some,gI]
    by_cases ags:l0=0
    ·have:=PR.part Ut (sz:=jj) (fun _=>bI) hlh (c:=m' - l0) (by omega) (by omega)
     rw[ags,ars] at this ⊢
     exact this
    ·refine PR.part Ut (fun bC i r hi=>?_) hlh (by omega) (by omega)
     have akc:¬ (Nh=none):=by
      rintro rfl
      rcases bl with ⟨_,_,e2⟩|⟨e1,_⟩
      ·exact ags e2
      ·cases e1
     have:=yE (wF.resolve_left akc) bI bC
     rw[bI i r hi,this]
  generalize hq:((Option.map (fun x=>ar.eval G s.T x) Bn).isSome&&m.beq h)=q
  cases q
  ·exact .plain _ _ vJ
  ·simp only[Bool.and_eq_true,Option.isSome_map,dX,apS] at hq
   have bC:Bn≠none:=by rintro rfl;simp at hq
   have:m'=h:=by rw[ZM,if_neg bC];exact hq.2
   subst this
   exact .full _ _ _ vJ trivial
theorem p4(sz:Nat):∀ (n:Nat) (l:List AV) (i:Nat),(chunks sz n l)[i]?=if i<n then some ((l.drop (i*sz)).take sz) else none
 | 0,l,i=>by simp[chunks]
 | n+1,l,0=>by simp[chunks]
 | n+1,l,i+1=>by
  simp only[chunks,apT,p4 sz n,aq8,Nat.add_lt_add_iff_right]
  congr 3
  rw[aqd,ark,arM]
theorem xQ(sz:Nat):∀ (n:Nat) (l:List AV),(chunks sz n l).length=n
 | 0,l=>rfl
 | n+1,l=>by simp[chunks,xQ sz n]
theorem PR.chunks{S:Nat->Nat->Prop}{b o n sz:Nat}{cs:List AV}(hv:PR S w (.pointer (some ⟨b,o,none⟩)) (.eptr cs))(hl:cs.length=n*sz) :
  PR S w (.slice (some ⟨b,o,none⟩) n n) (.slice (chunks sz n cs) false):=by
 cases hv with
 | eptr _ _ _ f cP cy =>
  have idx:∀ (i j:Nat) (r:List AV) (x:AV),(Abs.chunks sz n cs)[i]?=some r->r[j]?=some x->cs[i*sz+j]?=some x:=by
   intro i j r x hi hj
   rw[p4] at hi
   split at hi
   ·injection hi with hi
    subst hi
    rw[apR,ap'] at hj
    split at hj
    ·exact hj
    ·cases hj
   ·cases hi
  refine .slice b o n n sz _ (fun i j=>f (i*sz+j)) (xQ sz n cs) (apz _) ?_ ?_ ?_
  ·intro i r hi
   rw[p4] at hi
   split at hi
   ·rename_i aU
    injection hi with hi
    subst hi
    have:(i+1)*sz<=n*sz:=ap4 _ aU
    rw[aqd] at this
    simp;omega
   ·cases hi
  ·intro i j r x hi hj
   rw[aq']
   exact cP _ x (idx i j r x hi hj)
  ·intro i j r x hi hj
   exact cy _ x (idx i j r x hi hj)
theorem CL(hW:aM G base s.H gh w)(hF:FR L nt gh w a s){o:Oper}{t e0:TypeId}{x:Operand}{lo hi mx:Option Operand}{ix:ar}{Nh Bm Bn:Option ar}{n sz:Nat}{z:AV}
  (ho:o.op=.slice t x lo hi mx) (hc:ak nt x=some ix) (h1:gO nt lo=some Nh) (h2:gO nt hi=some Bm) (h3:gO nt mx=some Bn) (hu:P.underlying t=some (.array n e0)) (hs:dg P e0=some sz) (h0:0<sz)
  (he:iC (.arr n sz) (ix.eval G s.T) (Nh.map (·.eval G s.T)) (Bm.map (·.eval G s.T)) (Bn.map (·.eval G s.T))=some z) :
  ∃ v,(execOp a.eval o).run P w=.ok (.value v) w/\mA gh s.H.length nt w s.T s.gen (fB a) v z:=by
 generalize hz:ix.eval G s.T=X at he
 cases X<;>simp only[iC,reduceCtorEq] at he
 rename_i cs
 obtain⟨hlen,he⟩:=ab he
 simp only[apu] at he
 obtain⟨h,hh,l0,hl,he⟩:=he
 obtain⟨hn,he⟩:=ab he
 injection he with he
 subst he
 have K4:cs.length=n*sz:=by simpa [dX] using hlen
 have hp:=VR.uR (cc hW hF hc hz rfl)
 have M7:mx.map a.eval=none:=by
  cases mx with
  | none=>rfl
  | some m=>simp only[gO,apt] at h3;obtain⟨_,_,rfl⟩:=h3;simp at hn
 have bh:=jJ hW hF h2 hh
 have bl:=jJ hW hF h1 hl
 have hlh:l0<=h:=by rcases bl with ⟨_,_,e⟩|⟨_,e,_⟩<;>omega
 have hhn:h<=n:=by rcases bh with ⟨_,_,e⟩|⟨_,e,_⟩<;>omega
 have hb:(Instr.sliceBounds false n n (lo.map a.eval) (hi.map a.eval) none).run P w=.ok (l0,h,n) w:=by
  refine qF (.inl ⟨rfl,rfl⟩) ?_ ?_
  ·rcases bh with ⟨e1,_,e2⟩|⟨_,e1,k,e2⟩
   ·exact .inl ⟨e1,by omega,rfl⟩
   ·exact .inr ⟨by omega,k,e2⟩
  ·rcases bl with ⟨e1,_,e2⟩|⟨_,e1,k,e2⟩
   ·exact .inl ⟨e1,e2⟩
   ·exact .inr ⟨e1,k,e2⟩
 generalize hA:a.eval x=V at hp
 have Ut:=hp
 cases hp with
 | eptr b of _ f cP cy =>
  refine⟨.slice (some (if n=l0 then ⟨b,of,none⟩ else (⟨b,of,none⟩:Addr).add (l0*sz))) (h-l0) (n-l0),?_,.cK (.plain _ _ ?_)⟩
  ·simp[execOp,ho,hA,M7,Instr.sliceAt,run_underlying hu,Instr.sureAddr,hb,dE hs]
  ·have hc:=PR.chunks (sz:=sz) Ut K4
   by_cases H2:n=l0
   ·have:h-l0=0:=by omega
    rw[this]
    simp only[H2,aqH]
    rw[<- H2]
    exact PR.Bz (by omega)
   ·rw[if_neg H2,gI]
    refine PR.part hc (fun _ i r hi=>?_) hlh hhn (by omega)
    cases hc with
    | slice _ _ _ _ jj _ f' hn' jP bI ajA alV =>
     rw[p4] at hi
     split at hi
     ·rename_i aU
      injection hi with hi
      subst hi
      have:(i+1)*sz<=n*sz:=ap4 _ aU
      rw[aqd] at this
      simp;omega
     ·cases hi
end
end
section
section
variable {P:Program}{G:Nat->List AV}{base nt:Nat}{L:List Nat}{gh:Gh}{w:World}{a:Act}{s:AS}
theorem fz{op:BinOp}{t:TypeId}{x y:Operand}{u v:Value}(h1:∀ c,u≠.agg c)(h2:u≠.nilIface\/v≠.nilIface):(eqGuard op t x y u v).run P w=.ok () w:=by
 have key:∀ (op:BinOp),op=.eql\/op=.neq\/(eqGuard op t x y u v)=pure ():=by
  intro op
  cases op<;>first|exact .inl rfl|exact .inr (.inl rfl)|exact .inr (.inr rfl)
 have k2:∀ op,op=BinOp.eql\/op=.neq->(eqGuard op t x y u v).run P w=.ok () w:=by
  rintro op (rfl|rfl)<;>simp only[eqGuard,arv,aqf,aqG] <;>
   (cases u<;>first|rfl|exact absurd rfl (h1 _)|skip)<;>(cases v<;>first|rfl|(simp at h2))
 rcases key op with h|h|h
 ·exact k2 op (.inl h)
 ·exact k2 op (.inr h)
 ·rw[h];rfl
theorem Ir{op:BinOp}{k:IntKind}{m n:Int}{z:AV}(h:aa op k m n=some z)(t:TypeId):∃ v,(binOp op t (.int k m) (.int k n)).run P w=.ok v w/\PR gh.S w v z:=by
 unfold aa at h
 cases op<;>simp only[reduceCtorEq,apv] at h
 case quo =>
  rcases aql (decide (n=0)) with hb|hb<;>rw[hb] at h<;>simp at h
  subst h
  have hn:¬ n=0:=by simpa using hb
  exact⟨_,by simp[binOp,Op.intDiv,hn],.int _ _⟩
 case rem =>
  rcases aql (decide (n=0)) with hb|hb<;>rw[hb] at h<;>simp at h
  subst h
  have hn:¬ n=0:=by simpa using hb
  exact⟨_,by simp[binOp,Op.intDiv,hn],.int _ _⟩
 all_goals
  subst h
  first
   | exact⟨_,by simp[binOp,Op.intArith],.int _ _⟩
   | exact⟨_,by simp[binOp,Op.intCmp],.bool _⟩
theorem Is{op:BinOp}{x y:ByteArray}{z:AV}(h:ki op x.data.toList y.data.toList=some z)(t:TypeId):∃ v,(binOp op t (.string x) (.string y)).run P w=.ok v w/\PR gh.S w v z:=by
 have hx:=ByteArray.toList_eq x
 have hy:=ByteArray.toList_eq y
 unfold ki at h
 cases op<;>simp only[reduceCtorEq,apv] at h
 case add =>
  obtain⟨h1,h2⟩:=ab h
  injection h2 with h2
  subst h2
  have h1' : x.size+y.size<=4611686018427387904:=by simpa using h1
  have h3:¬ (((x.size+y.size:Nat):Int)>IntKind.i64.max):=by
   have:IntKind.i64.max=9223372036854775807:=by decide
   rw[this];omega
  exact⟨.string (x++y),by simp only[binOp,Op.stringOp];rw[if_neg h3];rfl,.str _ _ (by simp)⟩
 all_goals
  subst h
  exact⟨_,by simp[binOp,Op.stringOp,hx,hy],.bool _⟩
theorem sZ:∀ (k ks:List CK) (X Y:List AV) (b:Bool),bN (k++ks) X Y=some b ->
  ∃ b1 b2,bN k X Y=some b1/\bN ks (X.drop k.length) (Y.drop k.length)=some b2/\b=(b1&&b2)
 | [],ks,X,Y,b,h=>⟨true,b,rfl,by simpa using h,by simp⟩
 | c :: k,ks,X,Y,b,h=>by
  have step:∀ (e:Bool) (X' Y' : List AV),(bN (k++ks) X' Y').map (e&&·)=some b->∃ b1 b2,(bN k X' Y').map (e&&·)=some b1/\bN ks (X'.drop k.length) (Y'.drop k.length)=some b2/\b=(b1&&b2):=by
   intro e X' Y' h
   simp only[apt] at h
   obtain⟨b',gb,rfl⟩:=h
   obtain⟨b1,b2,h1,h2,rfl⟩:=sZ k ks X' Y' b' gb
   exact⟨e&&b1,b2,by simp[h1],h2,by rw[Bool.and_assoc]⟩
  cases c<;>cases X<;>try (cases h;done)
  all_goals (rename_i x X';cases x<;>try (cases h;done))
  all_goals (cases Y<;>try (cases h;done))
  all_goals (rename_i y Y';cases y<;>try (cases h;done))
  ·exact step _ _ _ h
  ·simp only[ap2,bN] at h
   obtain⟨h0,h⟩:=ab h
   obtain⟨b1,b2,h1,h2,h3⟩:=step _ _ _ h
   exact⟨b1,b2,by simp only[bN];rw[h0];exact h1,h2,h3⟩
  ·exact step _ _ _ h
theorem om:∀ (k:List CK) (X Y:List AV) (n:Nat),k.length<=n->bN k (X.take n) (Y.take n)=bN k X Y
 | [],X,Y,n,_=>rfl
 | c :: k,[],Y,n,h=>by rw[List.take_nil];cases c<;>rfl
 | c :: k,x :: X,[],n,h=>by
  obtain⟨m,rfl⟩:∃ m,n=m+1:=⟨n-1,by simp at h;omega⟩
  rw[List.take_nil,aqR];cases c<;>cases x<;>rfl
 | c :: k,x :: X,y :: Y,n,h=>by
  obtain⟨m,rfl⟩:∃ m,n=m+1:=⟨n-1,by simp at h;omega⟩
  have ih:=om k X Y m (by simp at h;omega)
  rw[aqR,aqR]
  cases c<;>cases x<;>first|rfl|(cases y<;>first|rfl|simp only[bN,ih])
def Row(gh:Gh)(n:Nat)(w:World)(cs:Array Value)(X:List AV):Prop :=
 cs.size=X.length/\∀ (j:Nat) (v:Value) (x:AV),cs[j]?=some v->X[j]?=some x->VR gh n w v x
theorem Row.extract{n:Nat}{cs:Array Value}{X:List AV}(h:Row gh n w cs X)(o k:Nat):Row gh n w (cs.extract o (o+k)) ((X.drop o).take k):=by
 refine⟨by have:=h.1;simp;omega,fun j v x hj hx=>?_⟩
 rw[arQ] at hj
 rw[apR,ap'] at hx
 split at hj
 ·split at hx
  ·exact h.2 _ v x hj hx
  ·cases hx
 ·cases hj
theorem lX{t:TypeId}{d:TypeDesc}(h:P.underlying t=some d)(hd:(match d with|.struct _=>true|.array _ _=>true|_=>false)=false):lj P t=some false:=by
 unfold lj;rw[h];simp[hd];cases d<;>simp_all
theorem rr{n:Nat}{c:CK}{t:TypeId}{D o:Nat}{cs ds:Array Value}{X Y:List AV}{b:Bool}(hX:Row gh n w cs X)(hY:Row gh n w ds Y)(hD:1<=D)
  (ht:match c with|.b=>P.underlying t=some .bool|.i=>∃ k,P.underlying t=some (.int k)|.s=>P.underlying t=some .string)
  (h:bN [c] (X.drop o) (Y.drop o)=some b):∃ u v,(part t cs o).run P w=.ok u w/\(part t ds o).run P w=.ok v w/\(Op.equalIn D t u v).run P w=.ok b w:=by
 obtain⟨D,rfl⟩:∃ m,D=m+1:=⟨D-1,by omega⟩
 have hg:lj P t=some false:=by cases c<;>first|exact lX ht rfl|(obtain⟨k,ht⟩:=ht;exact lX ht rfl)
 have get:∀ {cs:Array Value} {X:List AV} {x:AV} {X' : List AV},Row gh n w cs X->X.drop o=x :: X'->∃ u,(part t cs o).run P w=.ok u w/\VR gh n w u x:=by
  intro cs X x X' hR hd
  have hx:X[o]?=some x:=by
   have:(X.drop o)[0]?=some x:=by rw[hd];rfl
   rw[ap'] at this;simpa using this
  have aU:o<cs.size:=by rw[hR.1];exact (apw.1 hx).1
  have hv:cs[o]?=some cs[o]:=apJ aU
  exact⟨cs[o],by simp[part,iu hg,hv],hR.2 o _ x hv hx⟩
 generalize hXd:X.drop o=Xd at h
 generalize hYd:Y.drop o=Yd at h
 cases c<;>cases Xd<;>try (cases h;done)
 all_goals (rename_i x X';cases x<;>try (cases h;done))
 all_goals (cases Yd<;>try (cases h;done))
 all_goals (rename_i y Y';cases y<;>try (cases h;done))
 all_goals
  obtain⟨u,Uv,hu2⟩:=get hX hXd
  obtain⟨v,VK,VL⟩:=get hY hYd
 ·obtain rfl:=hu2.jz
  obtain rfl:=VL.jz
  simp[bN] at h
  exact⟨_,_,Uv,VK,by rw[run_equalIn_bool' w D t _ _ ht,h]⟩
 ·obtain rfl:=hu2.jR
  obtain rfl:=VL.jR
  obtain⟨k,ht⟩:=ht
  simp only[bN] at h
  obtain⟨h0,h'⟩:=ab h
  simp at h' h0
  exact⟨_,_,Uv,VK,by rw[h0,run_equalIn_int w D t _ _ _ _ ht,h']⟩
 ·obtain⟨p,rfl,rfl⟩:=hu2.jS
  obtain⟨q,rfl,rfl⟩:=VL.jS
  simp[bN] at h
  refine⟨_,_,Uv,VK,?_⟩
  rw[run_equalIn_string w D t _ _ ht,ByteArray.toList_eq,ByteArray.toList_eq,<- h]
  simp
def BR(P:Program)(gh:Gh)(w:World)(d:Nat):Prop :=
 ∀ (t:TypeId) (k:List CK),mQ P d t=some k->∀ (n D o:Nat) (cs ds:Array Value) (X Y:List AV) (b:Bool),Row gh n w cs X->Row gh n w ds Y->d<=D ->
  bN k (X.drop o) (Y.drop o)=some b->∃ u v,(part t cs o).run P w=.ok u w/\(part t ds o).run P w=.ok v w/\(Op.equalIn D t u v).run P w=.ok b w
theorem I8{d:Nat}(hd:BR P gh w d){n D:Nat}(hD:d<=D){cs ds:Array Value}{X Y:List AV}(hX:Row gh n w cs X)(hY:Row gh n w ds Y) :
  ∀ (fs:List Go.Field) (q:Nat) (ks:List CK) (b:Bool),ot (mQ P d) fs q=some ks->bN ks (X.drop q) (Y.drop q)=some b->(Op.eqFields D cs ds fs).run P w=.ok b w:=by
 intro fs
 induction fs with
 | nil=>intro q ks b h1 h2;simp[ot] at h1;subst h1;simp[bN] at h2;subst h2;rfl
 | cons f fs ih =>
  intro q ks b h1 h2
  unfold ot at h1
  obtain⟨h3,h1⟩:=ab h1
  simp only[apu,apt] at h1
  obtain⟨kf,hkf,kr,hkr,rfl⟩:=h1
  simp only[Bool.and_eq_true,dX,apS,bne_iff_ne] at h3
  obtain⟨hof,uI⟩:=h3
  obtain⟨b1,b2,e1,e2,rfl⟩:=sZ kf kr _ _ b h2
  rw[aq8,aq8] at e2
  obtain⟨u,v,p1,p2,p3⟩:=hd f.type kf hkf n D q cs ds X Y b1 hX hY hD e1
  have hr:=ih (q+kf.length) kr b2 hkr e2
  unfold Op.eqFields
  rw[if_pos uI,hof]
  simp only[Sem.run_bind,p1,p2,p3,Result.andThen_ok]
  cases b1
  ·simp
  ·simp only[arv,aqf,aqG,hr,aq6]
theorem qI{d:Nat}{t:TypeId}{k:List CK}{fs:Array Go.Field}(h:mQ P (d+1) t=some k)(hu:P.underlying t=some (.struct fs)) :
  P.stoodInHeld t=false/\ot (mQ P d) fs.toList 0=some k/\∃ sz,dg P t=some sz/\sz=k.length:=by
 unfold mQ at h
 rw[hu] at h
 obtain⟨h1,h⟩:=ab h
 simp only[apu] at h
 obtain⟨ks,HY,h⟩:=h
 obtain⟨h2,h⟩:=ab h
 injection h with h
 subst h
 refine⟨by simpa using h1,HY,?_⟩
 cases hq:dg P t with
 | none=>rw[hq] at h2;cases h2
 | some m=>rw[hq] at h2;exact⟨m,rfl,by simpa [dX] using h2⟩
theorem tW{d:Nat}(hd:BR P gh w d){t:TypeId}{k:List CK}{fs:Array Go.Field}(h:mQ P (d+1) t=some k)(hu:P.underlying t=some (.struct fs))
  {n D:Nat} (hD:d<=D) {cs ds:Array Value} {X Y:List AV} {b:Bool} (hX:Row gh n w cs X) (hY:Row gh n w ds Y) (he:bN k X Y=some b) :
  (Op.equalIn (D+1) t (.agg cs) (.agg ds)).run P w=.ok b w:=by
 obtain⟨s7,HY,_⟩:=qI h hu
 have hf:P.fieldsOf t=fs:=by unfold Program.fieldsOf;rw[hu]
 rw[run_equalIn_struct w D t _ _ (by rw[hf];exact hu) s7,hf]
 exact I8 hd hD hX hY fs.toList 0 k b HY (by simpa using he)
theorem vF:∀ d:Nat,BR P gh w d
 | 0=>fun t k h=>by cases h
 | d+1=>by
  intro t k h n D o cs ds X Y b hX hY hD he
  have h0:=h
  unfold mQ at h
  cases hu:P.underlying t with
  | none=>rw[hu] at h;cases h
  | some dd =>
   rw[hu] at h
   cases dd<;>try (cases h;done)
   case bool=>injection h with h;subst h;exact rr (c:=.b) hX hY (by omega) hu he
   case int kk=>injection h with h;subst h;exact rr (c:=.i) hX hY (by omega) ⟨kk,hu⟩ he
   case string=>injection h with h;subst h;exact rr (c:=.s) hX hY (by omega) hu he
   case struct fs =>
    obtain⟨_,_,sz,gM,hlen⟩:=qI h0 hu
    have hg:lj P t=some true:=by unfold lj;rw[hu];rfl
    refine⟨.agg (cs.extract o (o+sz)),.agg (ds.extract o (o+sz)),by simp[part,iu hg,dE gM],by simp[part,iu hg,dE gM],?_⟩
    obtain⟨D,rfl⟩:∃ m,D=m+1:=⟨D-1,by omega⟩
    rw[<- om k _ _ sz (by omega)] at he
    exact tW (vF d) h0 hu (by omega) (hX.extract o sz) (hY.extract o sz) he
theorem J2{op:BinOp}{b:Bool}{z:AV}(h:kx op b=some z):(op=.eql/\z=.bool b)\/(op=.neq/\z=.bool !b):=by
 cases op<;>simp[kx] at h
 ·exact .inl ⟨rfl,h.symm⟩
 ·exact .inr ⟨rfl,h.symm⟩
theorem nv{op:BinOp}{t:TypeId}{u v:Value}{b:Bool}{z:AV}(h:kx op b=some z)(hr:(Op.equal t u v).run P w=.ok b w)
  (h1:∀ q,(binOp .eql t u v)=q->q=(do pure (.bool (<- Op.equal t u v)))) (h2:(binOp .neq t u v)=(do pure (.bool (!(<- Op.equal t u v))))) :
  ∃ r,(binOp op t u v).run P w=.ok r w/\PR gh.S w r z:=by
 rcases J2 h with ⟨rfl,rfl⟩|⟨rfl,rfl⟩
 ·exact⟨.bool b,by rw[h1 _ rfl];simp[hr],.bool _⟩
 ·exact⟨.bool !b,by rw[h2];simp[hr],.bool _⟩
theorem aaK(hW:aM G base s.H gh w)(hF:FR L nt gh w a s){o:Oper}{op:BinOp}{t u:TypeId}{x y:Operand}{ix iy:ar}{z:AV}
  (ho:o.op=.binOp op t x y u) (hx:ak nt x=some ix) (hy:ak nt y=some iy)
  (he:wj op (nJ P t) (px ix || px iy) (ix.eval G s.T) (iy.eval G s.T)=some z) :
  ∃ v,(execOp a.eval o).run P w=.ok (.value v) w/\mA gh s.H.length nt w s.T s.gen (fB a) v z:=by
 generalize hX:ix.eval G s.T=X at he
 generalize hY:iy.eval G s.T=Y at he
 have fin:∀ {U V:Value},a.eval x=U->a.eval y=V->(eqGuard op t x y U V).run P w=.ok () w->(∃ r,(binOp op t U V).run P w=.ok r w/\PR gh.S w r z) ->
   ∃ v,(execOp a.eval o).run P w=.ok (.value v) w/\mA gh s.H.length nt w s.T s.gen (fB a) v z:=by
  rintro U V hU hV hg ⟨r,hr,hp⟩
  exact⟨r,by simp[execOp,ho,hU,hV,hg,hr],.cK (.plain _ _ hp)⟩
 have aav:(px ix || px iy)=true->(∃ v,x=.const v)\/(∃ v,y=.const v):=by
  intro h
  rcases Bool.or_eq_true_iff.1 h with h|h
  ·left
   cases x<;>simp only[ak] at hx
   ·have:=(ab hx).2;injection this with this;subst this;cases h
   ·exact⟨_,rfl⟩
   ·injection hx with hx;subst hx;cases h
   ·injection hx with hx;subst hx;cases h
  ·right
   cases y<;>simp only[ak] at hy
   ·have:=(ab hy).2;injection this with this;subst this;cases h
   ·exact⟨_,rfl⟩
   ·injection hy with hy;subst hy;cases h
   ·injection hy with hy;subst hy;cases h
 unfold wj at he
 split at he
 ·
  obtain⟨h0,xt⟩:=ab he
  have hk:=of_decide_eq_true h0
  have h1:=(cc hW hF hx hX rfl).jR
  have h2:=(cc hW hF hy hY rfl).jR
  rw[<- hk] at h2
  exact fin h1 h2 (fz (by intro c;simp) (.inl (by simp))) (Ir xt t)
 ·
  obtain⟨p,h1,hp⟩:=(cc hW hF hx hX rfl).jS
  obtain⟨q,h2,hq⟩:=(cc hW hF hy hY rfl).jS
  subst hp hq
  exact fin h1 h2 (fz (by intro c;simp) (.inl (by simp))) (Is he t)
 ·
  rename_i p q
  have h1:=(cc hW hF hx hX rfl).jz
  have h2:=(cc hW hF hy hY rfl).jz
  generalize hQ:nJ P t=Q at he
  cases Q<;>simp only[reduceCtorEq] at he
  have ht:P.underlying t=some .bool:=by
   unfold nJ at hQ
   split at hQ<;>first|assumption|(cases hQ)|skip
   cases hb:(!P.eqGuardType P.depth t)<;>rw[hb] at hQ<;>simp at hQ
   split at hQ<;>cases hQ
  exact fin h1 h2 (fz (by intro c;simp) (.inl (by simp))) (nv he (run_equal_bool w t p q ht) (by rintro _ rfl;rfl) rfl)
 ·
  rename_i xs ys
  obtain⟨cs,h1,Bk,_,hr1⟩:=(cc hW hF hx hX rfl).jQ
  obtain⟨ds,h2,Ot,_,hr2⟩:=(cc hW hF hy hY rfl).jQ
  generalize hQ:nJ P t=Q at he
  cases Q<;>simp only[reduceCtorEq,apu] at he
  rename_i ks
  obtain⟨b,hb,he⟩:=he
  obtain⟨hg,hk⟩:P.eqGuardType P.depth t=false/\mQ P 8 t=some ks:=by
   unfold nJ at hQ
   split at hQ<;>first|(cases hQ;done)|skip
   cases hb:(P.eqGuardType P.depth t)<;>rw[hb] at hQ<;>simp at hQ
   split at hQ<;>first|(cases hQ;done)|skip
   injection hQ with hQ
   subst hQ
   exact⟨rfl,by assumption⟩
  obtain⟨fs,hu⟩:∃ fs,P.underlying t=some (.struct fs):=by
   unfold nJ at hQ
   cases hu:P.underlying t with
   | none=>rw[hu] at hQ;cases hQ
   | some d =>
    rw[hu] at hQ
    cases d<;>simp only[reduceCtorEq] at hQ
    exact⟨_,rfl⟩
  have cE:(Op.equal t (.agg cs) (.agg ds)).run P w=.ok b w :=
   tW (vF 7) hk hu (D:=9999) (by omega) (n:=s.H.length) ⟨Bk,hr1⟩ ⟨Ot,hr2⟩ hb
  exact fin h1 h2 (run_eqGuard_agg w op t x y cs ds hg) (nv he cE (by rintro _ rfl;rfl) rfl)
 ·
  obtain⟨h0,he⟩:=ab he
  obtain⟨yD,hq⟩:=arW.1 h0
  simp only[apu] at he
  obtain⟨b,hb,he⟩:=he
  have ht:∃ m,P.underlying t=some (.interface m):=by
   generalize hQ:nJ P t=Q at hq
   cases Q<;>simp only[reduceCtorEq] at hq
   unfold nJ at hQ
   split at hQ<;>first|exact⟨_,by assumption⟩|(cases hQ;done)|skip
   cases hb:(!P.eqGuardType P.depth t)<;>rw[hb] at hQ<;>simp at hQ
   split at hQ<;>cases hQ
  obtain⟨m,ht⟩:=ht
  have h2:=(cc hW hF hy hY rfl).uS
  split at hb
  ·injection hb with hb
   subst hb
   have h1:=(cc hW hF hx hX rfl).uS
   have hr:(Op.equal t .nilIface .nilIface).run P w=.ok true w:=(fun d=>(by simp[Op.equalIn,run_underlying ht]:(Op.equalIn (d+1) t .nilIface .nilIface).run P w=.ok true w)) 9999
   refine fin h1 h2 ?_ (nv he hr (by rintro _ rfl;rfl) rfl)
   rcases aav yD with ⟨v,rfl⟩|⟨v,rfl⟩
   ·cases op<;>simp[eqGuard]
   ·cases op<;>simp[eqGuard]
  ·injection hb with hb
   subst hb
   obtain⟨q,h1⟩:=(cc hW hF hx hX rfl).Nk
   have hr:∀ ti,(Op.equal t (.iface ti q) .nilIface).run P w=.ok false w:=fun ti=>(fun d=>(by simp[Op.equalIn,run_underlying ht]:(Op.equalIn (d+1) t (.iface ti q) .nilIface).run P w=.ok false w)) 9999
   exact fin h1 h2 (fz (by intro c;simp) (.inl (by simp))) (nv he (hr _) (by rintro _ rfl;rfl) rfl)
  ·cases hb
 ·
  obtain⟨h0,he⟩:=ab he
  simp only[apu] at he
  obtain⟨b,hb,he⟩:=he
  have ht:∃ p q r,P.underlying t=some (.func p q r):=by
   generalize hQ:nJ P t=Q at h0
   cases Q<;>simp only[reduceCtorEq] at h0
   unfold nJ at hQ
   split at hQ<;>first|exact⟨_,_,_,by assumption⟩|(cases hQ;done)|skip
   cases hb:(!P.eqGuardType P.depth t)<;>rw[hb] at hQ<;>simp at hQ
   split at hQ<;>cases hQ
  obtain⟨p,q,r,ht⟩:=ht
  have h2:=(cc hW hF hy hY rfl).wL
  split at hb
  ·injection hb with hb
   subst hb
   have h1:=(cc hW hF hx hX rfl).wL
   have hr:(Op.equal t .nilFunc .nilFunc).run P w=.ok true w:=(fun d=>(by simp[Op.equalIn,run_underlying ht]:(Op.equalIn (d+1) t .nilFunc .nilFunc).run P w=.ok true w)) 9999
   exact fin h1 h2 (fz (by intro c;simp) (.inl (by simp))) (nv he hr (by rintro _ rfl;rfl) rfl)
  ·injection hb with hb
   subst hb
   obtain⟨fs,cs,h1,_⟩:=(cc hW hF hx hX rfl).rK
   have hr:∀ f,(Op.equal t (.func f fs cs) .nilFunc).run P w=.ok false w:=fun f=>(fun d=>(by simp[Op.equalIn,run_underlying ht]:(Op.equalIn (d+1) t (.func f fs cs) .nilFunc).run P w=.ok false w)) 9999
   exact fin h1 h2 (fz (by intro c;simp) (.inl (by simp))) (nv he (hr _) (by rintro _ rfl;rfl) rfl)
  ·cases hb
 ·cases he
end
end
section
section
variable {P:Program}{G:Nat->List AV}{base nt:Nat}{L:List Nat}{gh:Gh}{w:World}{a:Act}{s:AS}
def pT(gh:Gh)(n:Nat)(w:World)(C:Array Value)(X:List AV):Prop :=
 C.size=X.length/\∀ (j:Nat) (v:Value) (x:AV),C[j]?=some v->X[j]?=some x->VR gh n w v x/\v.oneCell'=true
theorem VR.fg{n:Nat}{v:Value}{x:AV}(h:VR gh n w v x)(hx:∀ cs,x≠.agg cs)(n8:∀ cs,x≠.tuple cs):v.oneCell'=true:=by
 cases h with
 | plain _ _ h=>exact h.fg
 | full=>rfl
 | ref=>rfl
 | sref=>rfl
 | mref=>rfl
 | func=>rfl
 | iface=>rfl
 | agg _ xs=>exact absurd rfl (hx xs)
 | tuple _ xs=>exact absurd rfl (n8 xs)
theorem sh{n:Nat}{v:Value}{x:AV}{cs:List AV}(h:VR gh n w v x)(hc:x.cells=some cs):pT gh n w v.cells cs:=by
 have single:x.cells=some [x]->(∀ cs,x≠.agg cs)->(∀ cs,x≠.tuple cs)->pT gh n w v.cells cs:=by
  intro h1 h2 h3
  rw[h1] at hc
  injection hc with hc
  subst hc
  have fX:=h.fg h2 h3
  have:v.cells=#[v]:=by cases v<;>first|rfl|(simp[Value.oneCell'] at fX)
  rw[this]
  refine⟨rfl,fun j u y hu hy=>?_⟩
  cases j with
  | zero=>simp at hu hy;subst hu hy;exact⟨h,fX⟩
  | succ j=>simp at hu
 cases x
 case agg xs =>
  obtain⟨C,rfl,hs,fX,h⟩:=h.jQ
  injection hc with hc
  subst hc
  exact⟨hs,fun j v x hv hx=>⟨h j v x hv hx,fX j v hv⟩⟩
 case any=>cases hc
 case tuple=>cases hc
 case lbox=>cases hc
 case lref=>cases hc
 case lsl=>cases hc
 case lsr=>cases hc
 case eref=>cases hc
 case iter=>cases hc
 all_goals exact single rfl (by intro cs h;cases h) (by intro cs h;cases h)
theorem pT.dropped{n:Nat}{C:Array Value}{X:List AV}(h:pT gh n w C X):pT gh n w C (X.map AV.drop):=by
 refine⟨by simp[h.1],fun j v x hv hx=>?_⟩
 simp only[apG,apt] at hx
 obtain⟨y,hy,rfl⟩:=hx
 exact⟨VR.dropped (h.2 j v y hv hy).1,(h.2 j v y hv hy).2⟩
theorem oP:∀ (l:List Value) (off k:Nat) (C:Array Value) (j:Nat),off+k+l.length<=C.size ->
  ((l.zipIdx k).foldl (fun cs (c,i)=>cs.setIfInBounds (off+i) c) C)[j]?=if off+k<=j/\j<off+k+l.length then l[j-(off+k)]? else C[j]?
 | [],off,k,C,j,h=>by simp;omega
 | v :: l,off,k,C,j,h=>by
  have h' : off+(k+1)+l.length<=(C.setIfInBounds (off+k) v).size:=by simp at h ⊢;omega
  rw[List.zipIdx_cons,aqr,oP l off (k+1) _ j h']
  by_cases h1:j=off+k
  ·subst h1
   have aU:off+k<C.size:=by simp at h;omega
   rw[if_neg (by omega),if_pos (by simp)]
   simp[aU]
  ·by_cases h2:off+(k+1)<=j/\j<off+(k+1)+l.length
   ·rw[if_pos h2,if_pos (by simp;omega)]
    have:j-(off+k)=j-(off+(k+1))+1:=by omega
    rw[this,apT]
   ·rw[if_neg h2,if_neg (by simp;omega),arV (by omega)]
theorem nP:∀ (l:List (Value × Nat)) (off:Nat) (C:Array Value),(l.foldl (fun cs (c,i)=>cs.setIfInBounds (off+i) c) C).size=C.size
 | [],off,C=>rfl
 | v :: l,off,C=>by rw[aqr,nP l off];simp
theorem sG{l cs:List AV}{off:Nat}(h:off+cs.length<=l.length)(j:Nat):(putAt l off cs)[j]?=if off<=j/\j<off+cs.length then cs[j-off]? else l[j]?:=by
 have abv:min off l.length=off:=by omega
 unfold putAt
 simp only[aqB,apL,ard,abv,apR,ap']
 by_cases h1:j<off
 ·have e1:j<off+cs.length:=by omega
  rw[if_pos e1,if_pos h1,if_pos h1,if_neg (by omega)]
 ·by_cases h2:j<off+cs.length
  ·rw[if_pos h2,if_neg h1,if_pos ⟨by omega,h2⟩]
  ·rw[if_neg h2,if_neg (by omega)]
   congr 1;omega
theorem pG{l cs:List AV}{off:Nat}(h:off+cs.length<=l.length):(putAt l off cs).length=l.length:=by
 unfold putAt;simp;omega
theorem pT.put{n:Nat}{C D:Array Value}{X Y:List AV}(h:pT gh n w C X)(hd:pT gh n w D Y){off:Nat}(hl:off+Y.length<=X.length) :
  pT gh n w (D.zipIdx.foldl (fun cs (c,i)=>cs.setIfInBounds (off+i) c) C) (putAt X off Y):=by
 have e:D.zipIdx.foldl (fun cs (c,i)=>cs.setIfInBounds (off+i) c) C=(D.toList.zipIdx 0).foldl (fun cs (c,i)=>cs.setIfInBounds (off+i) c) C:=by
  rw[<- Array.foldl_toList,Array.toList_zipIdx]
 rw[e]
 refine⟨by rw[nP,pG hl,h.1],fun j v x hv hx=>?_⟩
 have hD:D.toList.length=Y.length:=by simpa using hd.1
 rw[oP _ _ _ _ _ (by rw[hD,h.1];omega)] at hv
 rw[sG hl] at hx
 simp only[aqO,hD] at hv
 by_cases hc:off<=j/\j<off+Y.length
 ·rw[if_pos hc] at hv hx
  exact hd.2 _ v x (by simpa using hv) hx
 ·rw[if_neg hc] at hv hx
  exact h.2 j v x hv hx
theorem yj{n:Nat}{place:Nat->Option (Nat × Nat)} : ∀ (parts:List (Nat × Value)) (ip:List (Nat × Nat × AV)) (C:Array Value) (Z Z' : List AV),pT gh n w C Z->fK Z ip=some Z'->parts.length=ip.length ->
  (∀ (j:Nat) (p:Nat × Value) (q:Nat × Nat × AV),parts[j]?=some p->ip[j]?=some q->place p.1=some (q.1,q.2.1)/\(∀ cs,q.2.2.cells=some cs->pT gh n w p.2.cells cs)) ->
  ∃ C',Instr.fill place C parts=some C'/\pT gh n w C' Z'
 | [],[],C,Z,Z',h,hb,_,_=>by simp[fK] at hb;subst hb;exact⟨C,rfl,h⟩
 | p :: parts,q :: ip,C,Z,Z',h,hb,hl,hp=>by
  obtain⟨h1,h2⟩:=hp 0 p q rfl rfl
  obtain⟨i,v⟩:=p
  obtain⟨off,sz,x⟩:=q
  simp only[fK] at hb
  split at hb
  ·cases hb
  ·rename_i cs fF
   obtain⟨h3,gb⟩:=ab hb
   simp only[Bool.and_eq_true,dX,apS,Nat.ble_eq] at h3
   have hr:=h2 cs fF
   have gM:v.cells.size=sz:=by rw[hr.1];exact h3.1
   have hlen:(cs.map AV.drop).length=cs.length:=by simp
   obtain⟨C',hf,bI⟩:=yj parts ip _ _ Z' (h.put hr.dropped (off:=off) (by rw[hlen];exact h3.2)) gb (by simpa using hl) (fun j p q j5 hq'=>hp (j+1) p q (by simpa using j5) (by simpa using hq'))
   refine⟨C',?_,bI⟩
   simp only at h1
   unfold Instr.fill
   rw[h1]
   have jI:¬ (decide (v.cells.size≠sz) || decide (off+v.cells.size>C.size))=true:=by
    have:=hr.1;have:=h.1
    simp;omega
   simp only
   rw[if_neg jI]
   exact hf
 | [],_ :: _,_,_,_,_,_,hl,_=>by simp at hl
 | _ :: _,[],_,_,_,_,_,hl,_=>by simp at hl
theorem HP{n:Nat}{t:TypeId}{z:List AV}(h:lB P t=some z):∃ i zv,P.info? t=some i/\i.zero=some zv/\pT gh n w zv.cells z:=by
 simp only[lB,apu] at h
 obtain⟨zv,⟨i,hi,hz⟩,hc⟩:=h
 obtain⟨h1,h2⟩:=jb (gh:=gh) (n:=n) (w:=w) hc
 exact⟨i,zv,hi,hz,by simpa using h1,fun j v x hv hx=>h2 j v x (by simpa using hv) hx⟩
theorem AJ{n:Nat}{v:Value}{x:AV}(h:jO v=some x):VR gh n w v (mS x):=by
 have hv:VR gh n w v x:=ur h
 unfold mS
 split
 ·unfold jO at h
  split at h<;>first|(cases h;done)|(injection h with h;cases h;done)|exact .plain _ _ .ae
 ·exact hv
theorem Ck{n:Nat}{v:Value}{x:AV}(h:rl v=some x):VR gh n w v (mS x):=by
 have h0:=iQ (gh:=gh) (n:=n) (w:=w) h
 unfold rl at h
 split at h
 ·simp only[apt] at h
  obtain⟨l,_,rfl⟩:=h
  exact h0
 ·exact AJ h
theorem rn:∀ {vs:List Value} {xs:List AV},dv vs=some xs->∀ (j:Nat) (v:Value) (x:AV),vs[j]?=some v->xs[j]?=some x->jO v=some x
 | [],xs,h,j,v,x,hv,hx=>by simp at hv
 | u :: vs,xs,h,j,v,x,hv,hx=>by
  simp only[dv,apu,apt] at h
  obtain⟨y,hy,ys,Nf,rfl⟩:=h
  cases j with
  | zero=>simp at hv hx;subst hv hx;exact hy
  | succ j=>exact rn Nf j v x (by simpa using hv) (by simpa using hx)
theorem pN{n:Nat}{t:TypeId}{b:Bool}{z:List AV}(h:(lB P t).map (fun z=>cond b (z.map mS) z)=some z):∃ i zv,P.info? t=some i/\i.zero=some zv/\pT gh n w zv.cells z:=by
 simp only[apt] at h
 obtain⟨z0,h0,rfl⟩:=h
 obtain⟨i,zv,h1,h2,h3⟩:=HP (gh:=gh) (n:=n) (w:=w) h0
 refine⟨i,zv,h1,h2,?_⟩
 cases b with
 | false=>exact h3
 | true =>
  refine⟨by simpa using h3.1,fun j v x hv hx=>?_⟩
  simp only[cond_true,apG,apt] at hx
  obtain⟨y,hy,rfl⟩:=hx
  simp only[lB,apu] at h0
  obtain⟨zv',⟨i',jr,Jy⟩,hc⟩:=h0
  rw[h1] at jr
  injection jr with jr
  subst jr
  rw[h2] at Jy
  injection Jy with Jy
  subst Jy
  exact⟨AJ (rn hc j v y (by simpa using hv) hy),(h3.2 j v y hv hy).2⟩
theorem pF(hW:aM G base s.H gh w)(hF:FR L nt gh w a s){x:Operand}{y:ar}(hc:ak nt x=some y):∀ cs,(y.eval G s.T).drop.cells=some cs->pT gh s.H.length w (a.eval x).cells cs:=by
 intro cs fF
 have hf:aq (y.eval G s.T)=true:=by
  rw[<- gK]
  generalize (y.eval G s.T).drop=Y at fF
  cases Y<;>first|rfl|cases fF
 exact sh (cc hW hF hc rfl hf) fF
theorem w7(hW:aM G base s.H gh w)(hF:FR L nt gh w a s){o:Oper}{t:TypeId}{parts:Array (Nat × Operand)}{fs:Array Go.Field}{z Z:List AV}{ps:List (Nat × Nat × ar)}
  (ho:o.op=.build t parts) {kp:Bool} (hz:(lB P t).map (fun z=>cond kp (z.map mS) z)=some z) (hu:P.underlying t=some (.struct fs)) (hp:nq P nt fs.toList parts.toList=some ps)
  (dy:∃ pl,fs.toList.mapM (fun f=>(P.info? f.type).map fun i=>(f.offset,i.size))=some pl)
  (he:fK z (ps.map fun p=>(p.1,p.2.1,(p.2.2.eval G s.T).drop))=some Z) :
  ∃ v,(execOp a.eval o).run P w=.ok (.value v) w/\mA gh s.H.length nt w s.T s.gen (fB a) v (.agg Z):=by
 obtain⟨i,zv,hi,Ng,bI⟩:=pN (gh:=gh) (n:=s.H.length) (w:=w) hz
 obtain⟨pl,mJ⟩:=dy
 have inv:∀ (l:List (Nat × Operand)) (ps:List (Nat × Nat × ar)),nq P nt fs.toList l=some ps->l.length=ps.length /\
   ∀ (j:Nat) (p:Nat × Operand) (q:Nat × Nat × ar),l[j]?=some p->ps[j]?=some q->(∃ f,fs.toList[p.1]?=some f/\dg P f.type=some q.2.1/\f.offset=q.1)/\ak nt p.2=some q.2.2:=by
  intro l
  induction l with
  | nil=>intro ps h;simp[nq] at h;subst h;exact⟨rfl,fun j p q h=>by simp at h⟩
  | cons p l ih =>
   intro ps h
   obtain⟨k,x⟩:=p
   simp only[nq,apu,apt] at h
   obtain⟨f,hf,sz,gM,y,hy,rest,hr,rfl⟩:=h
   obtain⟨h1,h2⟩:=ih rest hr
   refine⟨by simp[h1],fun j p q hp hq=>?_⟩
   cases j with
   | zero=>simp at hp hq;subst hp hq;exact⟨⟨f,hf,gM,rfl⟩,hy⟩
   | succ j=>exact h2 j p q (by simpa using hp) (by simpa using hq)
 obtain⟨hl,hinv⟩:=inv _ _ hp
 have abG:∀ (k:Nat) (f:Go.Field) (sz:Nat),fs.toList[k]?=some f->dg P f.type=some sz->pl.toArray[k]?=some (f.offset,sz):=by
  have gen:∀ (l:List Go.Field) (pl:List (Nat × Nat)),l.mapM (fun f=>(P.info? f.type).map fun i=>(f.offset,i.size))=some pl->∀ (k:Nat) (f:Go.Field) (sz:Nat),l[k]?=some f->dg P f.type=some sz->pl[k]?=some (f.offset,sz):=by
   intro l
   induction l with
   | nil=>intro pl _ k f sz h;simp at h
   | cons g l ih =>
    intro pl h k f sz hk hs
    simp only[List.mapM_cons,Option.bind_eq_bind,Option.pure_def,apu,apt] at h
    obtain⟨q,⟨ii,yH,rfl⟩,rest,hr,h⟩:=h
    injection h with h
    subst h
    cases k with
    | zero =>
     simp at hk;subst hk
     obtain⟨i',jr,pb⟩:=mZ hs
     rw[jr] at yH;injection yH with yH;subst yH;simp[pb]
    | succ k=>simpa using ih rest hr k f sz (by simpa using hk) hs
  intro k f sz hk hs
  simpa using gen _ _ mJ k f sz hk hs
 obtain⟨C',hf,uL⟩:=yj (gh:=gh) (w:=w) (n:=s.H.length) (place:=fun x=>pl.toArray[x]?) ((parts.map fun p=>(p.1,a.eval p.2)).toList) (ps.map fun p=>(p.1,p.2.1,(p.2.2.eval G s.T).drop)) zv.cells z Z bI he (by simpa using hl) (by
  intro j p q hp hq
  simp only[arS,apG,apt] at hp hq
  obtain⟨p0,Ut,rfl⟩:=hp
  obtain⟨q0,Nb,rfl⟩:=hq
  obtain⟨⟨f,hf,hs,mY⟩,hc⟩:=hinv j p0 q0 Ut Nb
  exact⟨by rw[abG _ f _ hf hs,mY],pF hW hF hc⟩)
 have hb:P.built t (parts.map fun p=>(p.1,a.eval p.2)).toList=some C':=by
  unfold Program.built
  rw[hi,hu]
  simp only[Ng,mJ]
  exact hf
 refine⟨.agg C',by simp[execOp,ho,run_build w t _ C' hb],.cK (.agg _ _ uL.1 (fun j v hj=>?_) (fun j v x hv hx=>(uL.2 j v x hv hx).1))⟩
 have aU:j<Z.length:=by rw[<- uL.1];exact (apD.1 hj).1
 exact (uL.2 j v _ hj (apy aU)).2
end
end
section
section
variable {G:Nat->List AV}{base nt:Nat}{L:List Nat}{gh:Gh}{w w' : World}{a:Act}{s:AS}{H:ag}
def Gh.alloc(gh:Gh)(b:Nat)(p:bc)(q:Nat->Prop):Gh:={ S:=fun b' o=>gh.S b' o\/(b'=b/\q o),κ:=fun b'=>if b'=b then p else gh.κ b',ρ:=gh.ρ }
structure dP (w w' : World) (o:Obj):Prop where
 heap:w'.heap=w.heap.push o
 os:w'.os=w.os
 tape:w'.tape=w.tape
 output:w'.output=w.output
theorem dP.alloc(w:World)(o:Obj):dP w (w.alloc o) o:=⟨rfl,rfl,rfl,rfl⟩
theorem dP.drew(w:World)(o:Obj):dP w (w.drew.alloc o) o:=⟨rfl,rfl,rfl,rfl⟩
theorem dP.old{o:Obj}(h:dP w w' o)(b:Nat)(hb:b<w.heap.size):w'.heap[b]?=w.heap[b]?:=by
 rw[h.heap,ara,if_neg (by omega)]
theorem dP.new{o:Obj}(h:dP w w' o):w'.heap[w.heap.size]?=some o:=by
 rw[h.heap,ara,if_pos rfl]
theorem dP.size{o:Obj}(h:dP w w' o):w'.heap.size=w.heap.size+1:=by rw[h.heap];simp
theorem cell_of_heap{b o:Nat}(h:w'.heap[b]?=w.heap[b]?):w'.cell? ⟨b,o,none⟩=w.cell? ⟨b,o,none⟩:=by simp[World.cell?,h]
theorem aM.bL(hW:aM G base H gh w)(b:Nat)(hb:w.heap.size<=b):gh.κ b≠.outer:=by rw[hW.fresh b hb];simp
theorem ij(hW:aM G base H gh w){o:Obj}(hp:dP w w' o){p:bc}(bC:p≠.outer)(q:Nat->Prop)(n:Nat):Step (fun _=>False) n gh w (gh.alloc w.heap.size p q) w':=by
 refine⟨fun b o h=>.inl h,fun b o h=>cell_of_heap (hp.old b (hW.nB b o h)),by rw[hp.size];omega,hp.os,hp.tape,hp.output,?_,?_,fun _ _=>rfl,fun b ty m hb=>by
  obtain⟨C,fr,h1,h2⟩:=hb
  exact⟨C,fr,by rw[hp.old b (apD.1 h1).1];exact h1,h2⟩,fun b E ck hs hb=>by rw[hp.old b (hW.nB b 0 hs)];exact hb⟩
 ·intro b hb _
  have Ag:b≠w.heap.size:=by omega
  refine⟨.inl (hp.old b hb),by simp[Gh.alloc,Ag],fun o ho=>?_⟩
  rcases ho with ho|⟨e,_⟩
  ·exact ho
  ·exact absurd e Ag
 ·intro b hb
  show (if b=w.heap.size then p else gh.κ b)≠.outer
  split
  ·exact bC
  ·exact hW.bL b hb
theorem nk(hW:aM G base H gh w){o:Obj}(hp:dP w w' o){p:bc}(bC:p≠.outer)(q:Nat->Prop)(n:Nat):Ext n gh w (gh.alloc w.heap.size p q) w':=by
 refine⟨(ij hW hp bC q n).mono (fun _ h=>h.elim),fun b hb=>?_⟩
 have gb:(if b=w.heap.size then p else gh.κ b)=.outer:=hb
 split at gb
 ·exact absurd gb bC
 ·exact gb
theorem aM.step{touch:bc->Prop}{aK:Gh}(hW:aM G base H gh w)(st:Step touch H.length gh w aK w')(ht:∀ l,¬ touch (.hb l)/\∀ j,¬ touch (.hs l j))
  (hs:∀ b o,aK.S b o->b<w'.heap.size) (hk:∀ b,aK.κ b≠.none->base<=b/\b<w'.heap.size)
  (qT:∀ b o m,aK.S b o->gh.S b o\/(w'.cell? ⟨b,o,none⟩=some (.int .u8 m)->∃ C fr,w'.heap[b]?=some (.cells C iS fr))):aM G base H aK w':=by
 refine⟨aqC hW.size st.size,hs,hk,fun g j x hx=>?_,fun loc ty cs hl=>?_,hW.refs,fun g hg=>(hW.xg g hg).imp fun ty h=>st.len g ty _ h,hW.kj st qT,fun loc o hl=>?_,fun loc ty cs hl=>?_⟩
 ·obtain⟨v,h1,h2,h3⟩:=hW.aO g j x hx
  exact⟨v,(st.cell g j h3).trans h1,h2.mono st.S st.cell st.mp,st.S g j h3⟩
 ·have aU:loc<H.length:=(apw.1 hl).1
  have h:=(hW.boxes loc ty cs hl).mono st (apz _) (ht loc).1 (ht loc).2
  rw[st.ρ loc aU];exact h
 ·rw[st.ρ loc (apw.1 hl).1]
  exact (hW.more loc o hl).mono st (apz _) (ht loc).1 (ht loc).2
 ·rw[st.ρ loc (apw.1 hl).1]
  exact fun hf=>st.len _ _ _ (hW.types loc ty cs hl hf)
theorem aM.alloc(hW:aM G base H gh w){o:Obj}(hp:dP w w' o){p:bc}(bC:p≠.outer)(q:Nat->Prop)
  (hq:∀ k m,q k->w'.cell? ⟨w.heap.size,k,none⟩=some (.int .u8 m)->∃ C fr,w'.heap[w.heap.size]?=some (.cells C iS fr)):aM G base H (gh.alloc w.heap.size p q) w':=by
 refine hW.step (ij hW hp bC q H.length) (fun l=>⟨id,fun _=>id⟩) ?_ ?_ (fun b k m h=>h.elim .inl (fun ⟨e,hk⟩=>.inr (by subst e;exact hq k m hk)))
 ·intro b o ho
  rw[hp.size]
  rcases ho with ho|⟨rfl,_⟩
  ·have:=hW.nB b o ho;omega
  ·omega
 ·intro b hb
  rw[hp.size]
  have gb:(if b=w.heap.size then p else gh.κ b)≠.none:=hb
  split at gb
  ·rename_i e
   have:=hW.size
   omega
  ·have:=hW.oT b gb;omega
def Gh.mG(gh:Gh)(b:Nat)(p:bc):Gh:={ gh with κ:=fun b'=>if b'=b then p else gh.κ b' }
theorem jc(hW:aM G base H gh w){b:Nat}(hb:b<w.heap.size)(p:bc)(n:Nat):Step (fun r=>r=gh.κ b) n gh w (gh.mG b p) w:=by
 refine⟨fun _ _ h=>h,fun _ _ _=>rfl,apz _,rfl,rfl,rfl,fun b' gb hn=>⟨.inl rfl,?_,fun _ h=>h⟩,fun b' gb=>?_,fun _ _=>rfl,fun _ _ _ h=>h,fun _ _ _ _ h=>h⟩
 ·have bC:b'≠b:=by rintro rfl;exact hn rfl
  simp[Gh.mG,bC]
 ·have bC:b'≠b:=by omega
  simp only[Gh.mG,if_neg bC]
  exact hW.bL b' gb
theorem rz(hW:aM G base H gh w){b:Nat}(hb:b<w.heap.size){p:bc}(hp:p≠.outer)(h0:gh.κ b≠.none)(h1:gh.κ b≠.outer)(n:Nat):Ext n gh w (gh.mG b p) w:=by
 refine⟨(jc hW hb p n).mono (fun r h=>by rw[h];exact⟨h0,h1⟩),fun b' gb=>?_⟩
 have jd:(if b'=b then p else gh.κ b')=.outer:=gb
 split at jd
 ·exact absurd jd hp
 ·exact jd
theorem Jl(hW:aM G base H gh w){b:Nat}(hb:b<w.heap.size)(p:bc)(h0:gh.κ b≠.none)(ht:∀ l,gh.κ b≠.hb l/\∀ j,gh.κ b≠.hs l j):aM G base H (gh.mG b p) w:=by
 refine hW.step (jc hW hb p H.length) (fun l=>⟨fun h=>(ht l).1 h.symm,fun j h=>(ht l).2 j h.symm⟩) hW.nB ?_ (fun _ _ _ h=>.inl h)
 intro b' gb
 have jd:(if b'=b then p else gh.κ b')≠.none:=gb
 split at jd
 ·rename_i e;rw[e];exact hW.oT b h0
 ·exact hW.oT b' jd
theorem pI(hW:aM G base H gh w){b:Nat}{C C' : Array Value}{ty:TypeId}{fr:Nat × Nat}(hb:w.heap[b]?=some (.cells C ty fr))(gM:C'.size=C.size)(q:Nat->Prop)
  (cP:∀ o,gh.S b o->C'[o]?=C[o]?) (p:bc) (n:Nat) :
  Step (fun r=>r=gh.κ b) n gh w { gh with S:=fun b' o=>gh.S b' o\/(b'=b/\q o),κ:=fun b'=>if b'=b then p else gh.κ b' } (w.setRow b C'):=by
 have aU:b<w.heap.size:=(apD.1 hb).1
 refine⟨fun b o h=>.inl h,fun b' o h=>?_,by simp,rfl,rfl,rfl,fun b' gb hn=>?_,fun b' gb=>?_,fun _ _=>rfl,fun b' kP m hm=>by
  obtain⟨D,fr',h1,h2⟩:=hm
  by_cases e:b'=b
  ·subst e
   rw[hb] at h1
   injection h1 with h1
   injection h1 with h1 h3 h4
   subst h1 h3
   exact⟨C',fr,setRow_heap w b' C C' ty fr hb,by rw[gM,h2]⟩
  ·exact⟨D,fr',by rw[setRow_other w b b' C' e];exact h1,h2⟩,fun b' E ck hs hm=>by
  have e:b'≠b:=by rintro rfl;rw[hb] at hm;cases hm
  rw[setRow_other w b b' C' e];exact hm⟩
 ·by_cases e:b'=b
  ·subst e
   rw[cell_setRow_same w b' o C C' ty fr hb,cP o h]
   simp[World.cell?,hb]
  ·exact cell_of_heap (setRow_other w b b' C' e)
 ·have bC:b'≠b:=by rintro rfl;exact hn rfl
  refine⟨.inl (setRow_other w b b' C' bC),by simp[bC],fun o ho=>?_⟩
  rcases ho with ho|⟨e,_⟩
  ·exact ho
  ·exact absurd e bC
 ·have bC:b'≠b:=by omega
  simp only[if_neg bC]
  exact hW.bL b' gb
theorem xx(hW:aM G base H gh w){b:Nat}{C C' : Array Value}{ty:TypeId}{fr:Nat × Nat}(hb:w.heap[b]?=some (.cells C ty fr))(gM:C'.size=C.size)(q:Nat->Prop)
  (cP:∀ o,gh.S b o->C'[o]?=C[o]?) {p:bc} (hp:p≠.outer) (h0:gh.κ b≠.none) (h1:gh.κ b≠.outer) (n:Nat) :
  Ext n gh w { gh with S:=fun b' o=>gh.S b' o\/(b'=b/\q o),κ:=fun b'=>if b'=b then p else gh.κ b' } (w.setRow b C'):=by
 refine⟨(pI hW hb gM q cP p n).mono (fun r h=>by rw[h];exact⟨h0,h1⟩),fun b' gb=>?_⟩
 have jd:(if b'=b then p else gh.κ b')=.outer:=gb
 split at jd
 ·exact absurd jd hp
 ·exact jd
theorem LC(hW:aM G base H gh w){b:Nat}{C C' : Array Value}{ty:TypeId}{fr:Nat × Nat}(hb:w.heap[b]?=some (.cells C ty fr))(gM:C'.size=C.size)(q:Nat->Prop)
  (cP:∀ o,gh.S b o->C'[o]?=C[o]?) (hq:∀ k m,q k->C'[k]?=some (.int .u8 m)->ty=iS) (p:bc) (h0:gh.κ b≠.none) (ht:∀ l,gh.κ b≠.hb l/\∀ j,gh.κ b≠.hs l j) :
  aM G base H { gh with S:=fun b' o=>gh.S b' o\/(b'=b/\q o),κ:=fun b'=>if b'=b then p else gh.κ b' } (w.setRow b C'):=by
 have aU:b<w.heap.size:=(apD.1 hb).1
 refine hW.step (pI hW hb gM q cP p H.length) (fun l=>⟨fun h=>(ht l).1 h.symm,fun j h=>(ht l).2 j h.symm⟩) ?_ ?_ (fun b' k m h=>h.elim .inl (fun ⟨e,hk⟩=>.inr (fun hc=>by
   subst e
   rw[cell_setRow_same w b' k C C' ty fr hb] at hc
   have:=hq k m hk hc
   subst this
   exact⟨C',fr,setRow_heap w b' C C' _ fr hb⟩)))
 ·intro b' o ho
  simp
  rcases ho with ho|⟨rfl,_⟩
  ·exact hW.nB b' o ho
  ·exact aU
 ·intro b' gb
  simp
  have jd:(if b'=b then p else gh.κ b')≠.none:=gb
  split at jd
  ·rename_i e;rw[e];exact hW.oT b h0
  ·exact hW.oT b' jd
theorem FR.bu{aK:Gh}{touch:bc->Prop}(h:FR L nt gh w a s)(st:Step touch s.H.length gh w aK w'){t:Nat}{X:AV}{H' : ag}{lo' : Nat}(hH:s.H.length<=H'.length)
  (ht:∀ i,i≠t->¬ touch (.bx i)/\¬ touch (.sl i)/\∀ j,¬ touch (.sc i j))
  (hX:(t<nt/\aP X=aP (s.T t))\/aP X=none) (hsr:t<nt->SR aK H'.length nt w' s.T s.gen (fB a) t (fB a t) X) :
  FR L nt aK w' a (({ s with H:=H',lo:=lo' } : AS).bu t X):=by
 refine h.update st h.defers h.size hH (apz _) (fun i=>i=t) ?_ ?_ ?_
 ·intro i hi
  exact⟨by simp[AS.bu,df,hi],fun _=>⟨rfl,ht i hi⟩⟩
 ·rintro i rfl
  simp only[AS.bu,df,aqH]
  rcases hX with ⟨h1,h2⟩|h1
  ·exact .inl ⟨h1,h2,trivial⟩
  ·exact .inr (.inl h1)
 ·rintro i rfl hi
  simp only[AS.bu,df,aqH]
  refine SR.mono (touch:=fun _=>False) (n:=H'.length) (gh:=aK) (w:=w') (Step.refl _ _ _ _ (fun b hb=>st.fresh b (aqC st.size hb))) (apz _) (apz _) id id (fun _=>id) ?_ (hsr hi)
  intro k hk
  by_cases On:k=i
  ·subst On
   rcases hX with ⟨h1,h2⟩|h1
   ·exact .inl (by rw[df,if_pos rfl];exact⟨h2,rfl⟩)
   ·exact .inr (.inl (by simp[df,h1]))
  ·exact .inl ⟨by simp[df,On],rfl⟩
theorem FR.Ts(h:FR L nt gh w a s){gen' : Nat}(hg:s.gen<=gen')(dH:∀ b,w.heap.size<=b->gh.κ b≠.outer)(d:Option Nat)(hd:∀ k,d=some k->k<nt){v:Value}{x:AV}
  (hx:aP x=none\/((∃ g,s.gen<=g/\aP x=some g)/\∀ k,d=some k->k∈L))
  (hv:∀ k,d=some k->SR gh s.H.length nt w s.T gen' (fB a) k v x):FR L nt gh w (a.put d v) (({ s with gen:=gen' } : AS).bR d x):=by
 have st:Step (fun _=>False) s.H.length gh w gh w:=Step.refl _ _ _ _ dH
 cases d with
 | none=>exact h.update st h.defers h.size (apz _) hg (fun _=>False) (fun i _=>⟨rfl,fun _=>⟨rfl,id,id,fun _=>id⟩⟩) (fun _ h=>h.elim) (fun _ h=>h.elim)
 | some d =>
  have aU:=hd d rfl
  have gM:d<a.tmps.size:=by rw[h.size];exact aU
  refine h.update (s':=({ s with gen:=gen' } : AS).bR (some d) x) st ((wS a (some d) v).trans h.defers) ((Hx a (some d) v).trans h.size) (apz _) hg (fun i=>i=d) ?_ ?_ ?_
  ·intro i hi
   exact⟨by simp[AS.bR,AS.bu,df,hi],fun _=>⟨by rw[oG a d v i gM,if_neg hi],id,id,fun _=>id⟩⟩
  ·rintro i rfl
   simp only[AS.bR,AS.bu,df,aqH]
   rcases hx with hx|⟨⟨g,hg1,Om⟩,hl⟩
   ·exact .inr (.inl hx)
   ·exact .inr (.inr ⟨hl i rfl,g,hg1,Om⟩)
  ·rintro i rfl hi
   simp only[AS.bR,AS.bu,df,aqH]
   rw[oG a i v i gM,if_pos rfl]
   have tZ:=hv i rfl
   cases x
   case lref b g off =>
    obtain⟨h1,h2,h3⟩:=tZ
    refine⟨h1,h2,fun yF b' gb=>?_⟩
    by_cases PY:b=i
    ·subst PY;simp[df,aP] at yF
    ·simp only[df,if_neg PY] at yF
     rw[oG a i v b gM,if_neg PY] at gb
     exact h3 yF b' gb
   case lsr b g =>
    obtain⟨h1,h2,h3⟩:=tZ
    refine⟨h1,h2,fun yF=>?_⟩
    by_cases PY:b=i
    ·subst PY;simp[df,aP] at yF
    ·simp only[df,if_neg PY] at yF
     rw[oG a i v b gM,if_neg PY]
     exact h3 yF
   case eref b g r z off =>
    obtain⟨h1,h2,h3⟩:=tZ
    refine⟨h1,h2,fun yF b' k cap gb=>?_⟩
    by_cases PY:b=i
    ·subst PY;simp[df,aP] at yF
    ·simp only[df,if_neg PY] at yF
     rw[oG a i v b gM,if_neg PY] at gb
     exact h3 yF b' k cap gb
   all_goals exact tZ
end
end
section
section
variable {P:Program}{G:Nat->List AV}{base nt:Nat}{L:List Nat}{gh:Gh}{w:World}{a:Act}{s:AS}
structure Out (G:Nat->List AV) (base nt:Nat) (L:List Nat) (gh:Gh) (w:World) (a:Act) (s:AS) (d:Option Nat) (x:AV) (s' : AS) (v' : Value) (aK:Gh) (w' : World):Prop where
 W:aM G base s'.H aK w'
 F:FR L nt aK w' (a.put d v') (s'.bR d x)
 E:Ext s.H.length gh w aK w'
def sP(P:Program)(a:Act)(o:Oper)(w:World)(v' : Value)(w' : World):Prop :=
 (execOp a.eval o).run P w=.ok (.value v') w'\/((execOp a.eval o).run P w=.ok .skip w'/\v'=undef)
theorem sP.wp{o:Oper}{v' : Value}{w' : World}{K:Act->World->Prop}{Q:Exit->Act->World->Prop}(h:sP P a o w v' w')(hK:K (a.put o.dst v') w'):o.wp P a w K Q:=by
 unfold Oper.wp
 rcases h with h|⟨h,rfl⟩
 ·rw[h];exact hK
 ·rw[h];exact hK
theorem Out.pure(hW:aM G base s.H gh w)(hF:FR L nt gh w a s){d:Option Nat}(hd:∀ k,d=some k->k<nt){v:Value}{x:AV}(hv:mA gh s.H.length nt w s.T s.gen (fB a) v x) :
  Out G base nt L gh w a s d x s v gh w:=by
 refine⟨hW,?_,Ext.refl _ _ _ (fun b hb=>hW.bL b hb)⟩
 have:=hF.put (touch:=fun _=>False) (H':=s.H) (lo':=s.lo) (Step.refl _ _ _ _ (fun b hb=>hW.bL b hb)) (fun i=>⟨id,id,fun _=>id⟩) (apz _) d hd hv
 exact this
theorem T5{n:Nat}{T:ax}{gen:Nat}{tm:Nat->Value}{i:Nat}{v:Value}{e:List (List AV)}{own:Bool}(h:CR gh n w (.sl i) v (.slice e own)):SR gh n nt w T gen tm i v (.slice e own):=h
def iD(S:Nat->Nat->Prop)(w:World)(sz:Nat)(C:Array Value)(E:List (List AV)):Prop :=
 C.size=E.length*sz/\(∀ (i:Nat) (r:List AV),E[i]?=some r->r.length=sz) /\
  ∀ (i j:Nat) (r:List AV) (x:AV),E[i]?=some r->r[j]?=some x->∃ v,C[i*sz+j]?=some v/\PR S w v x
theorem VR.kb{n:Nat}{v:Value}{x:AV}(h:VR gh n w v x)(hp:x.plain=true):PR gh.S w v x:=by
 cases h with
 | plain _ _ h=>exact h
 | full=>simp[AV.plain] at hp
 | ref=>simp[AV.plain] at hp
 | sref=>simp[AV.plain] at hp
 | mref=>simp[AV.plain] at hp
 | func f fs cs xs ys hf hc h1 h2 =>
  cases xs<;>cases ys<;>simp[AV.plain] at hp
  have e1:fs=#[]:=arw hf
  have e2:cs=#[]:=arw hc
  subst e1 e2
  exact .func f
 | iface t v x h =>
  cases x<;>simp[AV.plain] at hp
  all_goals
   cases h with
   | plain _ _ h=>exact .iface _ _ _ h
 | agg=>simp[AV.plain] at hp
 | tuple=>simp[AV.plain] at hp
theorem Pn{n:Nat}{v:Value}{x:AV}{sz:Nat}{cs:List AV}(hx:∀ ds,x.cells=some ds->pT gh n w v.cells ds)(he:x.elem sz=some cs) :
  v.cells.size=sz/\cs.length=sz/\∀ (j:Nat) (y:AV),cs[j]?=some y->∃ u,v.cells[j]?=some u/\PR gh.S w u y:=by
 unfold AV.elem at he
 split at he
 ·cases he
 ·rename_i ds w9
  obtain⟨h1,h2⟩:=ab he
  injection h2 with h2
  subst h2
  simp only[Bool.and_eq_true,dX,apS] at h1
  have hr:=(hx ds w9).dropped
  refine⟨by rw[hr.1];exact h1.1,h1.1,fun j y hy=>?_⟩
  have hj:j<v.cells.size:=by rw[hr.1];exact (apw.1 hy).1
  have hv:v.cells[j]?=some v.cells[j]:=apJ hj
  exact⟨_,hv,((hr.2 j _ y hv hy).1).kb (apA.1 h1.2 y (apF hy))⟩
theorem tP{i n sz j:Nat}(hi:i<n)(hj:j<sz):i*sz+j<n*sz:=by
 have:(i+1)*sz<=n*sz:=ap4 _ hi
 rw[aqd] at this
 omega
theorem iD.put{S:Nat->Nat->Prop}{sz:Nat}{C D:Array Value}{E:List (List AV)}{cs:List AV}{i:Nat}(h:iD S w sz C E)(hi:i<E.length)(hD:D.size=sz)(fF:cs.length=sz)
  (cy:∀ (j:Nat) (y:AV),cs[j]?=some y->∃ u,D[j]?=some u/\PR S w u y):iD S w sz (D.zipIdx.foldl (fun q (c,k)=>q.setIfInBounds (i*sz+k) c) C) (E.set i cs):=by
 have e:D.zipIdx.foldl (fun q (c,k)=>q.setIfInBounds (i*sz+k) c) C=(D.toList.zipIdx 0).foldl (fun q (c,k)=>q.setIfInBounds (i*sz+k) c) C:=by
  rw[<- Array.foldl_toList,Array.toList_zipIdx]
 have hDl:D.toList.length=sz:=by simpa using hD
 have hle:i*sz+sz<=C.size:=by
  have:(i+1)*sz<=E.length*sz:=ap4 _ hi
  rw[aqd] at this
  rw[h.1];omega
 rw[e]
 refine⟨by rw[nP,h.1];simp,fun k r hk=>?_,fun k j r x hk hj=>?_⟩
 ·rw[ap6] at hk
  split at hk
  ·rename_i On
   subst On
   injection hk with hk;subst hk;exact fF
  ·exact h.2.1 k r hk
 ·rw[oP _ _ _ _ _ (by rw[hDl];omega)]
  simp only[aqO,hDl]
  rw[ap6] at hk
  split at hk
  ·rename_i On
   subst On
   ·injection hk with hk
    subst hk
    have DZ:j<sz:=by rw[<- fF];exact (apw.1 hj).1
    rw[if_pos ⟨by omega,by omega⟩]
    obtain⟨u,hu,hp⟩:=cy j x hj
    refine⟨u,?_,hp⟩
    rw[show i*sz+j-i*sz=j by omega]
    simpa using hu
  ·rename_i On
   have DZ:j<sz:=by rw[<- h.2.1 k r hk];exact (apw.1 hj).1
   have jI:¬ (i*sz<=k*sz+j/\k*sz+j<i*sz+sz):=by
    rintro ⟨c1,c2⟩
    have:i=k:=by
     rcases aq5 i k with h'|h'|h'
     ·have:(i+1)*sz<=k*sz:=ap4 _ h'
      rw[aqd] at this;omega
     ·exact h'
     ·have:(k+1)*sz<=i*sz:=ap4 _ h'
      rw[aqd] at this;omega
    exact On this
   rw[if_neg jI]
   exact h.2.2 k j r x hk hj
theorem AZ{S:Nat->Nat->Prop}{sz:Nat} : ∀ (parts:List (Nat × Value)) (ip:List (Nat × AV)) (C:Array Value) (E E' : List (List AV)),iD S w sz C E->cF sz E ip=some E'->parts.length=ip.length ->
  (∀ (j:Nat) (p:Nat × Value) (q:Nat × AV),parts[j]?=some p->ip[j]?=some q->p.1=q.1/\∀ cs,q.2.elem sz=some cs->p.2.cells.size=sz/\cs.length=sz/\∀ (j:Nat) (y:AV),cs[j]?=some y->∃ u,p.2.cells[j]?=some u/\PR S w u y) ->
  ∃ C',Instr.fill (fun i=>some (i*sz,sz)) C parts=some C'/\iD S w sz C' E'
 | [],[],C,E,E',h,hb,_,_=>by simp[cF] at hb;subst hb;exact⟨C,rfl,h⟩
 | p :: parts,q :: ip,C,E,E',h,hb,hl,hp=>by
  obtain⟨h1,h2⟩:=hp 0 p q rfl rfl
  obtain⟨i,v⟩:=p
  obtain⟨i',x⟩:=q
  simp only at h1
  subst h1
  simp only[cF] at hb
  split at hb
  ·cases hb
  ·rename_i cs fF
   obtain⟨h3,gb⟩:=ab hb
   have hi:i<E.length:=by simpa [ap0] using h3
   obtain⟨c1,c2,c3⟩:=h2 cs fF
   obtain⟨C',hf,bI⟩:=AZ parts ip _ _ E' (h.put hi c1 c2 c3) gb (by simpa using hl) (fun j p q j5 hq'=>hp (j+1) p q (by simpa using j5) (by simpa using hq'))
   refine⟨C',?_,bI⟩
   unfold Instr.fill
   simp only
   have hle:i*sz+sz<=C.size:=by
    have:(i+1)*sz<=E.length*sz:=ap4 _ hi
    rw[aqd] at this
    rw[h.1];omega
   have jI:¬ (decide (v.cells.size≠sz) || decide (i*sz+v.cells.size>C.size))=true:=by
    simp at c1;simp;omega
   rw[if_neg jI]
   exact hf
 | [],_ :: _,_,_,_,_,_,hl,_=>by simp at hl
 | _ :: _,[],_,_,_,_,_,hl,_=>by simp at hl
theorem iD.slice{S:Nat->Nat->Prop}{sz:Nat}{C:Array Value}{E:List (List AV)}{w' : World}{ty:TypeId}(h:iD S w sz C E){gh:Gh}(hS:gh.S=S){C' : Array Value}{p:bc}(hp:dP w w' (.cells C' ty))
  (hW:∀ b o,S b o->b<w.heap.size) (hC:∀ j,j<C.size->C'[j]?=C[j]?) {q:Nat->Prop} (hq:∀ j,j<E.length*sz->q j) (cap:Nat) (jP:E.length<=cap) :
  PR (gh.alloc w.heap.size p q).S w' (.slice (some ⟨w.heap.size,0,none⟩) E.length cap) (.slice E false):=by
 subst hS
 have key:∀ (i j:Nat) (r:List AV) (x:AV),E[i]?=some r->r[j]?=some x->∃ v,C[i*sz+j]?=some v/\PR gh.S w v x/\i*sz+j<E.length*sz:=by
  intro i j r x hi hj
  obtain⟨v,hv,vJ⟩:=h.2.2 i j r x hi hj
  exact⟨v,hv,vJ,by rw[<- h.1];exact (apD.1 hv).1⟩
 refine .slice w.heap.size 0 E.length cap sz E (fun i j=>C.getD (i*sz+j) undef) rfl jP h.2.1 ?_ ?_
 ·intro i j r x hi hj
  obtain⟨v,hv,vJ,aU⟩:=key i j r x hi hj
  have il:i*sz+j<C.size:=by rw[h.1];exact aU
  have hg:C.getD (i*sz+j) undef=v:=by
   rw[apJ il] at hv
   injection hv with hv
   simp[il,hv]
  refine⟨.inr ⟨rfl,by simpa using hq _ aU⟩,?_,by rw[hg];exact vJ.fg⟩
  rw[hg,Nat.zero_add]
  simp only[World.cell?,hp.new]
  simpa [hC _ il] using hv
 ·intro i j r x hi hj
  obtain⟨v,hv,vJ,aU⟩:=key i j r x hi hj
  have il:i*sz+j<C.size:=by rw[h.1];exact aU
  have hg:C.getD (i*sz+j) undef=v:=by
   rw[apJ il] at hv
   injection hv with hv
   simp[il,hv]
  rw[hg]
  exact vJ.mono (fun b o ho=>.inl ho) (fun b o ho=>cell_of_heap (hp.old b (hW b o ho))) (fun b E ck hs hb=>by rw[hp.old b (hW b 0 hs)];exact hb)
end
end
section
section
variable {P:Program}{G:Nat->List AV}{base nt:Nat}{L:List Nat}{gh:Gh}{w w' : World}{a:Act}{s:AS}{H:ag}
def N7:Option Nat->bc
 | some d=>.sl d
 | none=>.none
def HR:Option Nat->bc
 | some d=>.bx d
 | none=>.none
theorem ni(d:Option Nat):N7 d≠.outer:=by cases d<;>simp[N7]
theorem ue(d:Option Nat):HR d≠.outer:=by cases d<;>simp[HR]
theorem FR.grown{aK:Gh}{touch:bc->Prop}(h:FR L nt gh w a s)(st:Step touch s.H.length gh w aK w')(ht:∀ i,¬ touch (.bx i)/\¬ touch (.sl i)/\∀ j,¬ touch (.sc i j))
  {H' : ag} {lo' : Nat} (hH:s.H.length<=H'.length):FR L nt aK w' a { s with H:=H',lo:=lo' } :=
 h.update st h.defers h.size hH (apz _) (fun _=>False) (fun i _=>⟨rfl,fun _=>⟨rfl,ht i⟩⟩) (fun _ h=>h.elim) (fun _ h=>h.elim)
def Gh.bg(gh:Gh)(b n:Nat):Gh:={ gh.alloc b (.hb n) (fun _=>False) with ρ:=fun l=>if l=n then b else gh.ρ l }
theorem fR(hW:aM G base H gh w){o:Obj}(hp:dP w w' o):Step (fun _=>False) H.length gh w (gh.bg w.heap.size H.length) w':=by
 have h:=ij hW hp (p:=.hb H.length) (by simp) (fun _=>False) H.length
 refine⟨h.S,h.cell,h.size,h.os,h.tape,h.output,h.zS,h.fresh,fun loc hl=>?_,h.len,h.mp⟩
 show (if loc=H.length then _ else _)=_
 rw[if_neg (by omega)]
theorem jD(hW:aM G base H gh w){o:Obj}(hp:dP w w' o):Ext H.length gh w (gh.bg w.heap.size H.length) w':=by
 refine⟨(fR hW hp).mono (fun _ h=>h.elim),fun b hb=>?_⟩
 have gb:(if b=w.heap.size then bc.hb H.length else gh.κ b)=.outer:=hb
 split at gb
 ·cases gb
 ·exact gb
theorem aM.bg(hW:aM G base H gh w){C:Array Value}{ty:TypeId}(hp:dP w w' (.cells C ty)){cs:List AV}(bI:pT gh H.length w C cs)(hr:cs.all (aV H.length)=true) :
  aM G base (H++[.box ty cs]) (gh.bg w.heap.size H.length) w':=by
 have st:=fR hW hp
 refine⟨aqC hW.size st.size,?_,?_,fun g j x hx=>?_,fun loc kP ds hl=>?_,fun loc kP ds hl=>?_,fun g hg=>(hW.xg g hg).imp fun ty h=>st.len g ty _ h,hW.kj st (fun b o m h=>h.elim .inl (fun h=>h.2.elim)),fun loc o hl=>?_,fun loc kP ds hl=>?_⟩
 ·intro b o ho
  rw[hp.size]
  rcases ho with ho|⟨_,ho⟩
  ·have:=hW.nB b o ho;omega
  ·exact ho.elim
 ·intro b hb
  rw[hp.size]
  have gb:(if b=w.heap.size then bc.hb H.length else gh.κ b)≠.none:=hb
  split at gb
  ·rename_i e
   have:=hW.size
   omega
  ·have:=hW.oT b gb;omega
 ·obtain⟨v,h1,h2,h3⟩:=hW.aO g j x hx
  exact⟨v,(st.cell g j h3).trans h1,h2.mono st.S st.cell st.mp,st.S g j h3⟩
 ·rw[apL,ap3]
  by_cases aU:loc<H.length
  ·rw[apN aU] at hl
   have h:=(hW.boxes loc kP ds hl).mono st (n':=H.length+1) (aqo _) id (fun _=>id)
   rw[st.ρ loc aU];exact h
  ·rw[apM (by omega)] at hl
   have hz:loc=H.length:=by
    have:=(apw.1 hl).1
    simp at this;omega
   subst hz
   simp only[aqD,apH,apv,ct.box.injEq] at hl
   obtain⟨rfl,rfl⟩:=hl
   have hρ:(gh.bg w.heap.size H.length).ρ H.length=w.heap.size:=by simp[Gh.bg]
   rw[hρ]
   refine⟨by simp[Gh.bg,Gh.alloc],?_,C,ty,hp.new,aqJ bI.1.symm,fun j v x hv hx=>?_⟩
   ·rintro o (ho|⟨_,ho⟩)
    ·have:=hW.nB _ o ho;omega
    ·exact ho
   ·obtain⟨h1,h2⟩:=bI.2 j v x hv hx
    exact⟨h2,.inl (h1.mono st (aqo _))⟩
 ·by_cases aU:loc<H.length
  ·rw[apN aU] at hl
   exact hW.refs loc kP ds hl
  ·rw[apM (by omega)] at hl
   have hz:loc=H.length:=by
    have:=(apw.1 hl).1
    simp at this;omega
   subst hz
   simp only[aqD,apH,apv,ct.box.injEq] at hl
   obtain⟨rfl,rfl⟩:=hl
   exact hr
 ·rw[apL,ap3]
  by_cases aU:loc<H.length
  ·rw[apN aU] at hl
   rw[st.ρ loc aU]
   exact (hW.more loc o hl).mono st (aqo _) id (fun _=>id)
  ·rw[apM (by omega)] at hl
   have hz:loc=H.length:=by
    have:=(apw.1 hl).1
    simp at this;omega
   subst hz
   simp only[aqD,apH,apv] at hl
   subst hl
   trivial
 ·by_cases aU:loc<H.length
  ·rw[apN aU] at hl
   rw[st.ρ loc aU]
   exact fun hf=>st.len _ _ _ (hW.types loc kP ds hl hf)
  ·rw[apM (by omega)] at hl
   have hz:loc=H.length:=by
    have:=(apw.1 hl).1
    simp at this;omega
   subst hz
   simp only[aqD,apH,apv,ct.box.injEq] at hl
   obtain⟨rfl,rfl⟩:=hl
   have hρ:(gh.bg w.heap.size H.length).ρ H.length=w.heap.size:=by simp[Gh.bg]
   rw[hρ]
   exact fun _=>⟨C,(0,0),hp.new,bI.1⟩
theorem Out.bg(hW:aM G base s.H gh w)(hF:FR L nt gh w a s){d:Option Nat}(hd:∀ k,d=some k->k<nt){C:Array Value}{ty:TypeId}(hp:dP w w' (.cells C ty)){cs:List AV}(bI:pT gh s.H.length w C cs)
  (hr:cs.all (aV s.H.length)=true) :
  Out G base nt L gh w a s d (.ref s.H.length 0) (s.fC ⟨s.H++[.box ty cs],s.H.length⟩) (.pointer (some ⟨w.heap.size,0,none⟩)) (gh.bg w.heap.size s.H.length) w':=by
 have hρ:(gh.bg w.heap.size s.H.length).ρ s.H.length=w.heap.size:=by simp[Gh.bg]
 have hv:VR (gh.bg w.heap.size s.H.length) (s.H++[ct.box ty cs]).length w' (.pointer (some ⟨w.heap.size,0,none⟩)) (.ref s.H.length 0):=by
  have:=VR.ref (gh:=gh.bg w.heap.size s.H.length) (w:=w') (n:=(s.H++[ct.box ty cs]).length) s.H.length 0 (by simp)
  rw[hρ] at this;exact this
 exact⟨hW.bg hp bI hr,hF.put (fR hW hp) (fun i=>⟨id,id,fun _=>id⟩) (by simp) d hd (.cK hv),jD hW hp⟩
theorem zZ{v:Value}{x:AV}(h:jO v=some x):x.drop.plain=true:=by
 unfold jO at h
 split at h<;>first|(injection h with h;subst h;rfl)|cases h
theorem nG:∀ {vs:List Value} {xs:List AV},dv vs=some xs->∀ x,x∈xs->x.drop.plain=true
 | [],xs,h=>by simp[dv] at h;subst h;simp
 | v :: r,xs,h=>by
  simp only[dv,apu,apt] at h
  obtain⟨x,hx,ys,hy,rfl⟩:=h
  intro z hz
  rcases apO.1 hz with rfl|hz
  ·exact zZ hx
  ·exact nG hy z hz
theorem wa{t:TypeId}{z:List AV}(h:lB P t=some z):∀ x,x∈z->x.drop.plain=true:=by
 simp only[lB,apu] at h
 obtain⟨zv,_,hc⟩:=h
 exact nG hc
theorem uH{loc:Nat}{x:AV}(h:x.drop.plain=true):aV loc x=true:=by
 cases x<;>first|exact h|(simp[AV.drop,AV.plain] at h;done)|skip
 rename_i f fs cs
 cases fs<;>cases cs<;>first|rfl|(simp[AV.drop,AV.plain] at h)
theorem oQ{loc:Nat}{x:AV}(h:aV loc x=true):aV loc x.drop=true:=by
 cases x<;>exact h
theorem vW{t:TypeId}{i:TypeInfo}{zv:Value}(hi:P.info? t=some i)(hz:i.zero=some zv)(w:World) :
  (Instr.alloc t true (.tuple #[])).run P w=.ok (.pointer (some ⟨w.heap.size,0,none⟩)) (w.alloc (.cells zv.cells t)):=by
 simp[Instr.alloc,zeroValue,typeInfo,hi,hz,newVar,newRow]
theorem Oe{t:TypeId}{kp:Bool}{z:List AV}(h:(lB P t).map (fun z=>cond kp (z.map mS) z)=some z):∀ x,x∈z->x.drop.plain=true:=by
 simp only[apt] at h
 obtain⟨z0,h0,rfl⟩:=h
 cases kp with
 | false=>exact wa h0
 | true =>
  intro x hx
  obtain⟨y,hy,rfl⟩:=ap9.1 hx
  have:=wa h0 y hy
  unfold mS
  split
  ·rfl
  ·exact this
theorem MB(hW:aM G base s.H gh w)(hF:FR L nt gh w a s){o:Oper}{t:TypeId}{z:List AV}(ho:o.op=.alloc t){kp:Bool}(hz:(lB P t).map (fun z=>cond kp (z.map mS) z)=some z)(hd:∀ k,o.dst=some k->k<nt) :
  ∃ v' aK w',sP P a o w v' w'/\Out G base nt L gh w a s o.dst (.ref s.H.length 0) (s.fC ⟨s.H++[.box t z],s.H.length⟩) v' aK w':=by
 obtain⟨i,zv,hi,Ng,bI⟩:=pN (gh:=gh) (n:=s.H.length) (w:=w) hz
 refine⟨_,_,_,.inl ?_,Out.bg hW hF hd (.alloc w (.cells zv.cells t)) bI ?_⟩
 ·simp[execOp,ho,vW hi Ng]
 ·exact apA.2 fun x hx=>uH (Oe hz x hx)
theorem aaL(hW:aM G base s.H gh w)(hF:FR L nt gh w a s){o:Oper}{t:TypeId}{x:Operand}{y:ar}{cs:List AV}(ho:o.op=.box t x)(hc:ak nt x=some y)(fF:(y.eval G s.T).drop.cells=some cs)
  (dy:cs.all (aV s.H.length)=true) (hd:∀ k,o.dst=some k->k<nt) :
  ∃ v' aK w',sP P a o w v' w'/\Out G base nt L gh w a s o.dst (.ref s.H.length 0) (s.fC ⟨s.H++[.box t (cs.map AV.drop)],s.H.length⟩) v' aK w':=by
 have bI:=(pF hW hF hc cs fF).dropped
 refine⟨_,_,_,.inl ?_,Out.bg hW hF hd (.alloc w (.cells (a.eval x).cells t)) bI ?_⟩
 ·simp[execOp,ho,Instr.box,newVar,newRow]
 ·refine apA.2 fun x hx=>?_
  obtain⟨y,hy,rfl⟩:=ap9.1 hx
  exact oQ (apA.1 dy y hy)
theorem MC(hW:aM G base s.H gh w)(hF:FR L nt gh w a s){o:Oper}{t:TypeId}{z:List AV}(ho:o.op=.alloc t){kp:Bool}(hz:(lB P t).map (fun z=>cond kp (z.map mS) z)=some z)(hd:∀ k,o.dst=some k->k<nt/\k∈L) :
  ∃ v' aK w',sP P a o w v' w'/\Out G base nt L gh w a s o.dst (.lbox s.gen z) { s with gen:=s.gen+1 } v' aK w':=by
 obtain⟨i,zv,hi,Ng,bI⟩:=pN (gh:=gh) (n:=s.H.length) (w:=w) hz
 have hp:=dP.alloc w (.cells zv.cells t)
 have bC:=ue o.dst
 have st:=ij hW hp bC (fun _=>False) s.H.length
 have Af:FR L nt (gh.alloc w.heap.size (HR o.dst) fun _=>False) (w.alloc (.cells zv.cells t)) a s:=hF.grown (H':=s.H) (lo':=s.lo) st (fun i=>⟨id,id,fun _=>id⟩) (apz _)
 have lk:=hW.alloc hp bC (fun _=>False) (fun _ _ h=>h.elim)
 refine⟨.pointer (some ⟨w.heap.size,0,none⟩),_,_,.inl ?_,lk,Af.Ts (gen':=s.gen+1) (aqo _) (fun b hb=>lk.bL b hb) o.dst (fun k hk=>(hd k hk).1) (.inr ⟨⟨s.gen,apz _,rfl⟩,fun k hk=>(hd k hk).2⟩) ?_,nk hW hp bC _ _⟩
 ·simp[execOp,ho,vW hi Ng]
 ·intro k hk
  refine⟨arq _,w.heap.size,rfl,?_⟩
  rw[hk] at st ⊢
  refine⟨by simp[Gh.alloc,HR],?_,zv.cells,t,hp.new,aqJ bI.1.symm,fun j v x hv hx=>?_⟩
  ·rintro o (ho|⟨_,ho⟩)
   ·have:=hW.nB _ o ho;omega
   ·exact ho
  ·obtain⟨h1,h2⟩:=bI.2 j v x hv hx
   exact⟨h2,.inl (h1.mono st (apz _))⟩
theorem UX(hW:aM G base s.H gh w)(hF:FR L nt gh w a s){o:Oper}{t:TypeId}{x:Operand}{y:ar}{cs:List AV}(ho:o.op=.box t x)(hc:ak nt x=some y)(fF:(y.eval G s.T).drop.cells=some cs)(hd:∀ k,o.dst=some k->k<nt/\k∈L) :
  ∃ v' aK w',sP P a o w v' w'/\Out G base nt L gh w a s o.dst (.lbox s.gen (cs.map AV.drop)) { s with gen:=s.gen+1 } v' aK w':=by
 have bI:=(pF hW hF hc cs fF).dropped
 have hp:=dP.alloc w (.cells (a.eval x).cells t)
 have bC:=ue o.dst
 have st:=ij hW hp bC (fun _=>False) s.H.length
 have Af:FR L nt (gh.alloc w.heap.size (HR o.dst) fun _=>False) (w.alloc (.cells (a.eval x).cells t)) a s:=hF.grown (H':=s.H) (lo':=s.lo) st (fun i=>⟨id,id,fun _=>id⟩) (apz _)
 have lk:=hW.alloc hp bC (fun _=>False) (fun _ _ h=>h.elim)
 refine⟨.pointer (some ⟨w.heap.size,0,none⟩),_,_,.inl ?_,lk,Af.Ts (gen':=s.gen+1) (aqo _) (fun b hb=>lk.bL b hb) o.dst (fun k hk=>(hd k hk).1) (.inr ⟨⟨s.gen,apz _,rfl⟩,fun k hk=>(hd k hk).2⟩) ?_,nk hW hp bC _ _⟩
 ·simp[execOp,ho,Instr.box,newVar,newRow]
 ·intro k hk
  refine⟨arq _,w.heap.size,rfl,?_⟩
  rw[hk] at st ⊢
  refine⟨by simp[Gh.alloc,HR],?_,(a.eval x).cells,t,hp.new,aqJ bI.1.symm,fun j v x hv hx=>?_⟩
  ·rintro o (ho|⟨_,ho⟩)
   ·have:=hW.nB _ o ho;omega
   ·exact ho
  ·obtain⟨h1,h2⟩:=bI.2 j v x hv hx
   exact⟨h2,.inl (h1.mono st (apz _))⟩
theorem yg(hW:aM G base s.H gh w)(hF:FR L nt gh w a s){o:Oper}{t e:TypeId}{n sz:Nat}{parts:Array (Nat × Operand)}{z Z:List AV}{ps:List (Nat × Nat × ar)}
  (ho:o.op=.build t parts) {kp:Bool} (hz:(lB P t).map (fun z=>cond kp (z.map mS) z)=some z) (hu:P.underlying t=some (.array n e)) (hs:dg P e=some sz) (hp:jM nt sz parts.toList=some ps)
  (he:fK z (ps.map fun p=>(p.1,p.2.1,(p.2.2.eval G s.T).drop))=some Z) :
  ∃ v,(execOp a.eval o).run P w=.ok (.value v) w/\mA gh s.H.length nt w s.T s.gen (fB a) v (.agg Z):=by
 obtain⟨i,zv,hi,Ng,bI⟩:=pN (gh:=gh) (n:=s.H.length) (w:=w) hz
 obtain⟨ie,hie,Qd⟩:=mZ hs
 have inv:∀ (l:List (Nat × Operand)) (ps:List (Nat × Nat × ar)),jM nt sz l=some ps->l.length=ps.length /\
   ∀ (j:Nat) (p:Nat × Operand) (q:Nat × Nat × ar),l[j]?=some p->ps[j]?=some q->q.1=p.1*sz/\q.2.1=sz/\ak nt p.2=some q.2.2:=by
  intro l
  induction l with
  | nil=>intro ps h;simp[jM] at h;subst h;exact⟨rfl,fun j p q h=>by simp at h⟩
  | cons p l ih =>
   intro ps h
   obtain⟨k,x⟩:=p
   simp only[jM,apu,apt] at h
   obtain⟨y,hy,rest,hr,rfl⟩:=h
   obtain⟨h1,h2⟩:=ih rest hr
   refine⟨by simp[h1],fun j p q hp hq=>?_⟩
   cases j with
   | zero=>simp at hp hq;subst hp hq;exact⟨rfl,rfl,hy⟩
   | succ j=>exact h2 j p q (by simpa using hp) (by simpa using hq)
 obtain⟨hl,hinv⟩:=inv _ _ hp
 obtain⟨C',hf,uL⟩:=yj (gh:=gh) (w:=w) (n:=s.H.length) (place:=fun i=>some (i*ie.size,ie.size)) ((parts.map fun p=>(p.1,a.eval p.2)).toList) (ps.map fun p=>(p.1,p.2.1,(p.2.2.eval G s.T).drop)) zv.cells z Z bI he (by simpa using hl) (by
  intro j p q hp hq
  simp only[arS,apG,apt] at hp hq
  obtain⟨p0,Ut,rfl⟩:=hp
  obtain⟨q0,Nb,rfl⟩:=hq
  obtain⟨h1,h2,hc⟩:=hinv j p0 q0 Ut Nb
  exact⟨by simp[h1,h2,Qd],pF hW hF hc⟩)
 have hb:P.built t (parts.map fun p=>(p.1,a.eval p.2)).toList=some C':=by
  unfold Program.built
  rw[hi,hu]
  simp only[Ng,hie]
  exact hf
 refine⟨.agg C',by simp[execOp,ho,run_build w t _ C' hb],.cK (.agg _ _ uL.1 (fun j v hj=>?_) (fun j v x hv hx=>(uL.2 j v x hv hx).1))⟩
 have aU:j<Z.length:=by rw[<- uL.1];exact (apD.1 hj).1
 exact (uL.2 j v _ hj (apy aU)).2
theorem Of{t:TypeId}{z:List AV}{zv:Value}{sz len:Nat}(bI:pT gh H.length w zv.cells z)(dy:∀ x,x∈z->x.drop.plain=true)(hz:z.length=sz)(yJ:0<sz) :
  iD gh.S w sz ((Array.range (len*sz)).map (zv.cells[· % zv.cells.size]!)) (List.replicate len (z.map AV.drop)):=by
 have gM:zv.cells.size=sz:=by rw[bI.1,hz]
 refine⟨by simp,fun i r hi=>?_,fun i j r x hi hj=>?_⟩
 ·rw[ar7] at hi
  split at hi
  ·injection hi with hi;subst hi;simpa using hz
  ·cases hi
 ·rw[ar7] at hi
  split at hi
  ·rename_i aU
   injection hi with hi;subst hi
   simp only[apG,apt] at hj
   obtain⟨y,hy,rfl⟩:=hj
   have hj:j<sz:=by rw[<- hz];exact (apw.1 hy).1
   have hJ:j<zv.cells.size:=by omega
   have yI:(i*sz+j) % zv.cells.size=j:=by rw[gM,Nat.mul_add_mod',Nat.mod_eq_of_lt hj]
   refine⟨zv.cells[j],?_,?_⟩
   ·have xc:i*sz+j<len*sz:=tP aU hj
    rw[ar1,apJ (by simpa using xc)]
    simp only[Array.getElem_range,Option.map_some,yI]
    congr 1
    exact getElem!_pos zv.cells j hJ
   ·have hv:zv.cells[j]?=some zv.cells[j]:=apJ hJ
    exact (VR.dropped (bI.2 j _ y hv hy).1).kb (dy y (apF hy))
  ·cases hi
theorem rZ{k n sz:Nat}(h:k<n*sz):k / sz<n/\k % sz<sz/\k / sz*sz+k % sz=k:=by
 have gM:0<sz:=by
  rcases Nat.eq_zero_or_pos sz with h0|h0
  ·subst h0;simp at h
  ·exact h0
 refine⟨Nat.div_lt_of_lt_mul (by rw[arN];exact h),Nat.mod_lt _ gM,?_⟩
 have:=Nat.div_add_mod k sz
 rw[arN] at this
 exact this
theorem nZ{S:Nat->Nat->Prop}{sz:Nat}{A:Array Value}{E:List (List AV)}{isB:Bool}{ty:TypeId}(h:iD S w sz A E)(pa:nY isB E=true)(hB:isB=true->ty=iS){k:Nat}{m:Int}(hk:k<E.length*sz)
  (hc:A[k]?=some (.int .u8 m)):ty=iS:=by
 cases isB with
 | true=>exact hB rfl
 | false =>
  exfalso
  obtain⟨h1,h2,h3⟩:=rZ hk
  have hr:=apy h1
  obtain⟨x,hx⟩:∃ x,E[k / sz][k % sz]?=some x:=⟨_,apy (show k % sz<E[k / sz].length by rw[h.2.1 _ _ hr];exact h2)⟩
  obtain⟨v,hv,hp⟩:=h.2.2 _ _ _ _ hr hx
  rw[h3,hc] at hv
  injection hv with hv
  subst hv
  have hn:jh E=true:=pa
  have h4:=apA.1 (apA.1 hn _ (apF hr)) _ (apF hx)
  cases hp<;>simp at h4
theorem wO(hW:aM G base s.H gh w)(hF:FR L nt gh w a s){t e:TypeId}{len sz:Nat}{parts:Array (Nat × Operand)}{z:List AV}{E:List (List AV)}{ps:List (Nat × ar)}
  (hu:P.underlying t=some (.slice e)) (hs:dg P e=some sz) (hz:lB P e=some z) (hp:kC nt parts.toList=some ps) (C4:len*sz<=16777216) (VP:z.length=sz) (yJ:0<sz)
  (he:cF sz (List.replicate len (z.map AV.drop)) (ps.map fun p=>(p.1,(p.2.eval G s.T).drop))=some E) :
  ∃ C',(Instr.buildSlice t len (parts.map fun p=>(p.1,a.eval p.2))).run P w=.ok (.slice (some ⟨w.heap.size,0,none⟩) len len) (w.alloc (.cells C' e))/\iD gh.S w sz C' E/\E.length=len:=by
 obtain⟨i,zv,hi,Ng,bI⟩:=HP (gh:=gh) (n:=s.H.length) (w:=w) hz
 obtain⟨ie,hie,Qd⟩:=mZ hs
 rw[hi] at hie;injection hie with hie;subst hie
 have inv:∀ (l:List (Nat × Operand)) (ps:List (Nat × ar)),kC nt l=some ps->l.length=ps.length /\
   ∀ (j:Nat) (p:Nat × Operand) (q:Nat × ar),l[j]?=some p->ps[j]?=some q->q.1=p.1/\ak nt p.2=some q.2:=by
  intro l
  induction l with
  | nil=>intro ps h;simp[kC] at h;subst h;exact⟨rfl,fun j p q h=>by simp at h⟩
  | cons p l ih =>
   intro ps h
   obtain⟨k,x⟩:=p
   simp only[kC,apu,apt] at h
   obtain⟨y,hy,rest,hr,rfl⟩:=h
   obtain⟨h1,h2⟩:=ih rest hr
   refine⟨by simp[h1],fun j p q hp hq=>?_⟩
   cases j with
   | zero=>simp at hp hq;subst hp hq;exact⟨rfl,hy⟩
   | succ j=>exact h2 j p q (by simpa using hp) (by simpa using hq)
 obtain⟨hl,hinv⟩:=inv _ _ hp
 obtain⟨C',hf,cS⟩:=AZ (w:=w) (S:=gh.S) (sz:=sz) ((parts.map fun p=>(p.1,a.eval p.2)).toList) (ps.map fun p=>(p.1,(p.2.eval G s.T).drop)) _ _ E (Of (t:=e) (len:=len) bI (wa hz) VP yJ) he (by simpa using hl) (by
  intro j p q hp hq
  simp only[arS,apG,apt] at hp hq
  obtain⟨p0,Ut,rfl⟩:=hp
  obtain⟨q0,Nb,rfl⟩:=hq
  obtain⟨h1,hc⟩:=hinv j p0 q0 Ut Nb
  exact⟨h1.symm,fun cs fF=>Pn (pF hW hF hc) fF⟩)
 have wE:E.length=len:=by
  have:∀ (ip:List (Nat × AV)) (es E:List (List AV)),cF sz es ip=some E->E.length=es.length:=by
   intro ip
   induction ip with
   | nil=>intro es E h;simp[cF] at h;rw[h]
   | cons q ip ih =>
    intro es E h
    obtain⟨i,v⟩:=q
    simp only[cF] at h
    split at h
    ·cases h
    ·obtain⟨_,h⟩:=ab h
     rw[ih _ _ h];simp
  rw[this _ _ _ he];simp
 have cE:(Instr.buildSlice t len (parts.map fun p=>(p.1,a.eval p.2))).run P w=.ok (.slice (some ⟨w.heap.size,0,none⟩) len len) (w.alloc (.cells C' e)):=by
  by_cases h0:len*sz=0
  ·have agt:len=0:=by rcases Nat.mul_eq_zero.1 h0 with h|h<;>omega
   subst agt
   have hE:ps=[]:=by
    cases hps:ps with
    | nil=>rfl
    | cons q r =>
     rw[hps] at he
     simp only[apZ,cF,List.replicate_zero,List.length_nil] at he
     split at he
     ·cases he
     ·obtain⟨h,_⟩:=ab he
      simp[ap0] at h
   have mJ:parts.toList=[]:=by
    have:parts.toList.length=0:=by rw[hl,hE];rfl
    exact aru.1 this
   have hpa:parts=#[]:=by simpa using mJ
   subst hpa
   have Oq:Array.range 0=#[]:=rfl
   have Jm:C'=#[]:=by simpa [Instr.fill,Oq] using hf.symm
   subst Jm
   simp[Instr.buildSlice,run_underlying hu,sizeOf,typeInfo,hi,Instr.fill,newRow,Oq]
  ·exact run_buildSlice w t e len _ C' i zv hu hi Ng (by rw[Qd];omega) (by rw[Qd];exact h0) (by rw[Qd];exact hf)
 exact⟨C',cE,cS,wE⟩
theorem I3(hW:aM G base s.H gh w)(hF:FR L nt gh w a s){o:Oper}{t e:TypeId}{len sz:Nat}{parts:Array (Nat × Operand)}{z:List AV}{E:List (List AV)}{ps:List (Nat × ar)}{isB:Bool}
  (ho:o.op=.buildSlice t len parts) (hu:P.underlying t=some (.slice e)) (hs:dg P e=some sz) (hz:lB P e=some z) (hp:kC nt parts.toList=some ps)
  (pa:nY isB E=true) (Qe:isB=true->e=iS) (C4:len*sz<=16777216) (VP:z.length=sz) (yJ:0<sz)
  (he:cF sz (List.replicate len (z.map AV.drop)) (ps.map fun p=>(p.1,(p.2.eval G s.T).drop))=some E) (hd:∀ k,o.dst=some k->k<nt) :
  ∃ v' aK w',sP P a o w v' w'/\Out G base nt L gh w a s o.dst (.slice E true) s v' aK w':=by
 obtain⟨C',cE,cS,wE⟩:=wO (P:=P) hW hF hu hs hz hp C4 VP yJ he
 have j5:=dP.alloc w (.cells C' e)
 have bC:=ni o.dst
 have DU:=cS.slice (gh:=gh) rfl j5 (p:=N7 o.dst) hW.nB (fun j _=>rfl) (q:=fun _=>True) (fun _ _=>trivial) E.length (apz _)
 have hv:VR (gh.alloc w.heap.size (N7 o.dst) fun _=>True) s.H.length (w.alloc (.cells C' e)) (.slice (some ⟨w.heap.size,0,none⟩) E.length E.length) (.slice E true):=.full _ _ _ DU trivial
 rw[wE] at hv
 have st:=ij hW j5 bC (fun _=>True) s.H.length
 have Af:FR L nt (gh.alloc w.heap.size (N7 o.dst) fun _=>True) (w.alloc (.cells C' e)) a s:=hF.grown (H':=s.H) (lo':=s.lo) st (fun i=>⟨id,id,fun _=>id⟩) (apz _)
 have lk:=hW.alloc j5 bC (fun _=>True) (fun k m _ hc=>by
  rw[cell_of_row _ _ k _ _ _ j5.new] at hc
  have hk:k<E.length*sz:=by rw[<- cS.1];exact (apD.1 hc).1
  have:=nZ cS pa Qe hk hc
  subst this
  exact⟨C',(0,0),j5.new⟩)
 refine⟨.slice (some ⟨w.heap.size,0,none⟩) len len,_,_,.inl ?_,lk,Af.Ts (gen':=s.gen) (apz _) (fun b hb=>lk.bL b hb) o.dst hd (.inl rfl) (fun k hk=>?_),nk hW j5 bC _ _⟩
 ·have:(parts.map fun x=>(x.1,a.eval x.2))=parts.map fun p=>(p.1,a.eval p.2):=rfl
  simp[execOp,ho,cE]
 ·exact T5 (.inl hv)
end
end
end Go.Abs
