/-
  A part of the proof of ScopeNames: AbsOps2, AbsOps3, AbsOps4, AbsOps5, AbsOps6, AbsStep, AbsOps7, AbsOps8.
-/
import Derived.Great.BuildSlice
import Derived.Test.YthbncinhhdogpaaGreatDoorP01
set_option linter.unusedSimpArgs false
set_option linter.unusedVariables false
set_option linter.defProp false
namespace Go.Abs
section
section
variable {P:Program}{G:Nat->List AV}{base nt:Nat}{L:List Nat}{gh:Gh}{w:World}{a:Act}{s:AS}
theorem yr(hF:FR L nt gh w a s){v:Value}{z:AV}(hv:lZ gh s.H.length nt w s.T s.gen (fj a) v z)(hl:bZ s z=true) :
  ∃ b o,v=.pointer (some ⟨b,o,none⟩):=by
 cases z<;>simp only[bZ,apC] at hl
 case eptr cs =>
  have hp:=VR.ur (hv:VR gh s.H.length w v (.eptr cs))
  cases hp;exact⟨_,_,rfl⟩
 case ref loc off=>exact⟨_,_,(VR.lC (hv:VR gh s.H.length w v (.ref loc off))).2⟩
 case lref b g off =>
  obtain⟨hb,hg,hr⟩:=(hv:_/\_/\_)
  split at hl
  ·rename_i g' cs hT
   have Dp:g=g':=by simpa [dR] using hl
   obtain⟨k,hk,_⟩:=uM hF hb hT
   exact⟨_,_,hr (by rw[hT,Dp];rfl) k hk⟩
  ·cases hl
 case eref b g i zz off =>
  obtain⟨hb,hg,hr⟩:=(hv:_/\_/\_)
  split at hl
  ·rename_i g' e hT
   obtain⟨h1,h2⟩:=by simpa [dR,api] using hl
   obtain⟨ad,cap,tE,bE⟩:=nI hF hb hT
   rcases bE with ⟨rfl,_⟩|⟨k,_,_,_,_,rfl,_⟩
   ·simp at h2
   ·exact⟨_,_,hr (by rw[hT,h1];rfl) k _ _ tE⟩
  ·cases hl
theorem Fq(hW:aK G base s.H gh w)(hF:FR L nt gh w a s){o:Oper}{x:Operand}{y:an}(ho:o.op=.nilCheck x)(hc:ak nt x=some y)(hl:bZ s (y.addr G s.T)=true) :
  ∃ v,(execOp a.eval o).run P w=.ok (.value v) w/\lZ gh s.H.length nt w s.T s.gen (fj a) v (y.addr G s.T):=by
 have hv:=arg_val hW hF hc
 have hd:(y.addr G s.T).drop=y.addr G s.T:=by cases hz:y.addr G s.T<;>rw[hz] at hl<;>first|rfl|(simp[bZ] at hl)
 rw[hd] at hv
 obtain⟨b,of,hp⟩:=yr hF hv hl
 refine⟨a.eval x,?_,hv⟩
 simp[execOp,ho,hp]
theorem KL(hF:FR L nt gh w a s){v:Value}{z z' : AV}(hv:lZ gh s.H.length nt w s.T s.gen (fj a) v z)(hl:bZ s z=true){off:Nat}(ho:gD off z=some z') :
  ∃ b o,v=.pointer (some ⟨b,o,none⟩)/\lZ gh s.H.length nt w s.T s.gen (fj a) (.pointer (some ⟨b,o+off,none⟩)) z':=by
 cases z<;>simp only[gD,aoQ,reduceCtorEq] at ho<;>subst ho
 case eptr cs =>
  have hp:=VR.ur (hv:VR gh s.H.length w v (.eptr cs))
  cases hp with
  | eptr b o _ f cL cr =>
   refine⟨b,o,rfl,.cF (.plain _ _ (.eptr b (o+off) _ (fun j=>f (off+j)) ?_ ?_))⟩
   ·intro j x hx
    rw[apq] at hx
    have:=cL (off+j) x hx
    rw[aqu]
    exact this
   ·intro j x hx
    rw[apq] at hx
    exact cr (off+j) x hx
 case ref loc of =>
  obtain⟨aU,rfl⟩:=VR.lC (hv:VR gh s.H.length w v (.ref loc of))
  exact⟨_,_,rfl,.cF (.ref loc (of+off) aU)⟩
 case lref b g of =>
  obtain⟨k,o,rfl⟩:=yr hF hv hl
  obtain⟨hb,hg,hr⟩:=(hv:_/\_/\_)
  refine⟨k,o,rfl,hb,hg,fun h1 b' h2=>?_⟩
  have:=hr h1 b' h2
  injection this with this;injection this with this;injection this with e1 e2
  rw[e1,e2]
 case eref b g i zz of =>
  obtain⟨k,o,rfl⟩:=yr hF hv hl
  obtain⟨hb,hg,hr⟩:=(hv:_/\_/\_)
  refine⟨k,o,rfl,hb,hg,fun h1 b' c1 c2 h2=>?_⟩
  have:=hr h1 b' c1 c2 h2
  injection this with this;injection this with this;injection this with e1 e2
  rw[e1,e2,aqu]
theorem AT{z:AV}(hl:bZ s z=true):z.drop=z:=by cases z<;>first|rfl|(simp[bZ] at hl)
theorem Ca(hW:aK G base s.H gh w)(hF:FR L nt gh w a s){o:Oper}{t:TypeId}{x:Operand}{f:Nat}{y:an}{fs:Array Go.Field}{q:Go.Field}{sz:Nat}{z:AV}
  (ho:o.op=.fieldAddr t x f) (hc:ak nt x=some y) (hu:P.underlying t=some (.struct fs)) (hq:fs[f]?=some q) (hs:de P q.type=some sz) (h0:0<sz)
  (hl:bZ s (y.addr G s.T)=true) (he:gD q.offset (y.addr G s.T)=some z) :
  ∃ v,(execOp a.eval o).run P w=.ok (.value v) w/\lZ gh s.H.length nt w s.T s.gen (fj a) v z:=by
 have hv:=arg_val hW hF hc
 rw[AT hl] at hv
 obtain⟨b,of,hp,tE⟩:=KL hF hv hl he
 refine⟨_,?_,tE⟩
 have bB:¬ sz=0:=by omega
 simp[execOp,ho,hp,Instr.fieldAt,run_underlying hu,hq,Instr.sureAddr,fieldPlace,dx hs,bB,gv]
theorem OX(hW:aK G base s.H gh w)(hF:FR L nt gh w a s){o:Oper}{t e:TypeId}{x i:Operand}{n sz k:Nat}{y yi:an}{z:AV}
  (ho:o.op=.indexAddr t x i) (hc:ak nt x=some y) (hi:ak nt i=some yi) (hu:P.underlying t=some (.array n e)) (hs:de P e=some sz)
  (hk:asNat (yi.eval G s.T)=some k) (hkn:k<n) (hl:bZ s (y.addr G s.T)=true) (he:gD (k*sz) (y.addr G s.T)=some z) :
  ∃ v,(execOp a.eval o).run P w=.ok (.value v) w/\lZ gh s.H.length nt w s.T s.gen (fj a) v z:=by
 have hv:=arg_val hW hF hc
 rw[AT hl] at hv
 obtain⟨b,of,hp,tE⟩:=KL hF hv hl he
 obtain⟨kd,Ml⟩:=ke hW hF hi hk
 refine⟨_,?_,tE⟩
 have h1:k<n:=hkn
 simp[execOp,ho,hp,Ml,Instr.indexAt,asIntOf,run_underlying hu,Instr.sureAddr,dx hs,h1,gv]
theorem T9(hW:aK G base s.H gh w)(hF:FR L nt gh w a s){o:Oper}{t e:TypeId}{x i:Operand}{sz k:Nat}{y yi:an}{el:List (List AV)}{own:Bool}{r:List AV}
  (ho:o.op=.indexAddr t x i) (hc:ak nt x=some y) (hi:ak nt i=some yi) (hu:P.underlying t=some (.slice e)) (hs:de P e=some sz)
  (hk:asNat (yi.eval G s.T)=some k) (hy:y.addr G s.T=.slice el own) (hr:el[k]?=some r) (PI:r.length=sz) :
  ∃ v,(execOp a.eval o).run P w=.ok (.value v) w/\lZ gh s.H.length nt w s.T s.gen (fj a) v (.eptr r):=by
 have hv:=VR.iw (mD hW hF hc hy rfl)
 obtain⟨kd,Ml⟩:=ke hW hF hi hk
 generalize hA:a.eval x=V at hv
 cases hv with
 | cT=>simp at hr
 | slice b of n cap ja _ f hn jC bE cL cr =>
  have AF:k<el.length:=(aoR.1 hr).1
  have gA:ja=sz:=by rw[<- PI,bE k r hr]
  subst gA
  refine⟨.pointer (some ⟨b,of+k*ja,none⟩),?_,.cF (.plain _ _ (.eptr b (of+k*ja) r (f k) (fun j x hx=>cL k j r x hr hx) (fun j x hx=>cr k j r x hr hx)))⟩
  have h1:k<n:=by omega
  simp[execOp,ho,hA,Ml,Instr.indexAt,asIntOf,run_underlying hu,dx hs,h1,gv]
theorem LW(hW:aK G base s.H gh w)(hF:FR L nt gh w a s){o:Oper}{t e:TypeId}{x i:Operand}{sz k l of m zz:Nat}{y yi:an}
  (ho:o.op=.indexAddr t x i) (hc:ak nt x=some y) (hi:ak nt i=some yi) (hu:P.underlying t=some (.slice e)) (hs:de P e=some sz)
  (hk:asNat (yi.eval G s.T)=some k) (hy:y.addr G s.T=.sref l of m zz) (hkm:k<m) :
  ∃ v,(execOp a.eval o).run P w=.ok (.value v) w/\lZ gh s.H.length nt w s.T s.gen (fj a) v (.ref l (of+k*sz)):=by
 obtain⟨aU,cap,_,_,hA⟩:=VR.jn (mD hW hF hc hy rfl)
 obtain⟨kd,Ml⟩:=ke hW hF hi hk
 refine⟨.pointer (some ⟨gh.ρ l,of+k*sz,none⟩),?_,.cF (.ref l (of+k*sz) aU)⟩
 simp[execOp,ho,hA,Ml,Instr.indexAt,asIntOf,run_underlying hu,dx hs,hkm,gv]
theorem OY(hW:aK G base s.H gh w)(hF:FR L nt gh w a s){o:Oper}{t e:TypeId}{x i:Operand}{sz k b g:Nat}{y yi:an}{el:List (List AV)}{r:List AV}
  (ho:o.op=.indexAddr t x i) (hc:ak nt x=some y) (hi:ak nt i=some yi) (hu:P.underlying t=some (.slice e)) (hs:de P e=some sz)
  (hk:asNat (yi.eval G s.T)=some k) (hy:y.addr G s.T=.lsr b g) (hT:s.T b=.lsl g el) (hr:el[k]?=some r) (PI:r.length=sz) :
  ∃ v,(execOp a.eval o).run P w=.ok (.value v) w/\lZ gh s.H.length nt w s.T s.gen (fj a) v (.eref b g k sz 0):=by
 have hv:=arg_val hW hF hc
 rw[hy] at hv
 obtain⟨hb,hg,hrr⟩:=(hv:_/\_/\_)
 obtain⟨kd,Ml⟩:=ke hW hF hi hk
 have l5:=hrr (by rw[hT];rfl)
 have AF:k<el.length:=(aoR.1 hr).1
 obtain⟨ad,cap,tE,bE⟩:=nI hF hb hT
 rcases bE with ⟨rfl,_⟩|⟨c,C,ty,ja,_,rfl,hκ,hS,Kl,hC,hl,hrw,fi⟩
 ·simp at hr
 ·have h1:k<el.length:=AF
  refine⟨.pointer (some ⟨c,k*sz,none⟩),?_,hb,hg,fun _ b' c1 c2 h2=>?_⟩
  ·simp[execOp,ho,l5,tE,Ml,Instr.indexAt,asIntOf,run_underlying hu,dx hs,h1,gv]
  ·rw[tE] at h2
   injection h2 with h2 _ _
   injection h2 with h2
   injection h2 with h2
   subst h2;simp
theorem Ug(hW:aK G base s.H gh w)(hF:FR L nt gh w a s){o:Oper}{c x y:Operand}{ic ix iy:an}{t:Bool}
  (ho:o.op=.pick c x y) (hc:ak nt c=some ic) (hx:ak nt x=some ix) (hy:ak nt y=some iy) (ht:ic.eval G s.T=.bool t) :
  ∃ v,(execOp a.eval o).run P w=.ok (.value v) w/\lZ gh s.H.length nt w s.T s.gen (fj a) v (cond t (ix.addr G s.T).drop (iy.addr G s.T).drop):=by
 have hb:=(bY hW hF hc ht rfl).jm
 have h1:=arg_val hW hF hx
 have h2:=arg_val hW hF hy
 cases t
 ·exact⟨_,by simp[execOp,ho,hb,asBool],h2⟩
 ·exact⟨_,by simp[execOp,ho,hb,asBool],h1⟩
theorem aeX(hW:aK G base s.H gh w)(hF:FR L nt gh w a s){o:Oper}{op:UnOp}{t:TypeId}{x:Operand}{ix:an}{z:AV}
  (ho:o.op=.unOp op t x) (hc:ak nt x=some ix) (he:za op (ix.eval G s.T)=some z) :
  ∃ v,(execOp a.eval o).run P w=.ok (.value v) w/\lZ gh s.H.length nt w s.T s.gen (fj a) v z:=by
 generalize hz:ix.eval G s.T=X at he
 unfold za at he
 split at he<;>first|(injection he with he;subst he)|cases he
 ·have hv:=(bY hW hF hc hz rfl).jE
  exact⟨_,by simp[execOp,ho,hv,Op.unary,Op.intArith],.cF (.plain _ _ (.int _ _))⟩
 ·have hv:=(bY hW hF hc hz rfl).jm
  exact⟨_,by simp[execOp,ho,hv,Op.unary],.cF (.plain _ _ (.bool _))⟩
theorem O2(hW:aK G base s.H gh w)(hF:FR L nt gh w a s){o:Oper}{st dt:TypeId}{x:Operand}{ix:an}{k k' : IntKind}{z:AV}
  (ho:o.op=.convert st dt x) (hc:ak nt x=some ix) (hs:P.underlying st=some (.int k')) (hd:P.underlying dt=some (.int k)) (he:j6 (.toInt k) (ix.eval G s.T)=some z) :
  ∃ v,(execOp a.eval o).run P w=.ok (.value v) w/\lZ gh s.H.length nt w s.T s.gen (fj a) v z:=by
 generalize hz:ix.eval G s.T=X at he
 cases X<;>simp[j6] at he
 subst he
 have hv:=(bY hW hF hc hz rfl).jE
 exact⟨_,by simp[execOp,ho,hv,convert,run_underlying hs,run_underlying hd,Conv.intToInt],.cF (.plain _ _ (.int _ _))⟩
theorem Ik(hW:aK G base s.H gh w)(hF:FR L nt gh w a s){o:Oper}{st dt:TypeId}{x:Operand}{ix:an}{z:AV}
  (ho:o.op=.convert st dt x) (hc:ak nt x=some ix) (hs:P.underlying st=some .string) (hd:P.underlying dt=some .string) (he:j6 .Di (ix.eval G s.T)=some z) :
  ∃ v,(execOp a.eval o).run P w=.ok (.value v) w/\lZ gh s.H.length nt w s.T s.gen (fj a) v z:=by
 generalize hz:ix.eval G s.T=X at he
 cases X<;>simp[j6] at he
 subst he
 obtain⟨b,hv,hl⟩:=(bY hW hF hc hz rfl).jF
 exact⟨_,by simp[execOp,ho,hv,convert,run_underlying hs,run_underlying hd],.cF (.plain _ _ (.str _ _ hl))⟩
theorem foldl_push(ns:List Int):∀ s:ByteArray,(ns.foldl (fun r n=>r.push (UInt8.ofNat n.toNat)) s).data.toList=s.data.toList++ns.map fun n=>UInt8.ofNat n.toNat:=by
 induction ns with
 | nil=>intro s;simp
 | cons n ns ih=>intro s;rw[aqt,ih];simp[ByteArray.push]
theorem vK:∀ {e:List (List AV)} {l:List UInt8},bytesOf e=some l->∃ ns:List Int,e=ns.map (fun n=>[AV.int .u8 n])/\l=ns.map fun n=>UInt8.ofNat n.toNat
 | [],l,h=>by simp[bytesOf] at h;exact⟨[],rfl,by simp[h]⟩
 | r :: e,l,h=>by
  unfold bytesOf at h
  split at h
  ·rename_i hh;cases hh
  ·rename_i n r' heq
   injection heq with h1 h2
   subst h1 h2
   simp only[aoO] at h
   obtain⟨l',Km,rfl⟩:=h
   obtain⟨ns,rfl,rfl⟩:=vK Km
   exact⟨n :: ns,rfl,rfl⟩
  ·cases h
theorem Nh{n0:Nat}{V:Value}{ns:List Int}(hv:PR gh.S w V (.slice (ns.map fun n=>[AV.int .u8 n]) false)) :
  ∃ q:ByteArray,(Conv.bytesToString V).run P w=.ok (.string q) w/\q.data.toList=ns.map (fun n=>UInt8.ofNat n.toNat)/\∃ b c d,V=.slice b c d:=by
 generalize hE:(ns.map fun n=>[AV.int .u8 n])=E at hv
 cases hv with
 | cT =>
  have:ns=[]:=by simpa using hE
  subst this
  exact⟨ByteArray.empty,by simp[Conv.bytesToString],rfl,_,_,_,rfl⟩
 | slice b of n cap ja _ f hn jC bE cL cr =>
  subst hE
  have hlen:n=ns.length:=by rw[<- hn];simp
  have Px:(loadCells ⟨b,of,none⟩ n).run P w=.ok (ns.map (Value.int .u8)).toArray w:=by
   have:=run_loadCells_list (P:=P) w ⟨b,of,none⟩ (ns.map (Value.int .u8)) (fun j v hj=>by
    simp only[ao1,aoO] at hj
    obtain⟨m,hm,rfl⟩:=hj
    have hr:(ns.map fun n=>[AV.int .u8 n])[j]?=some [AV.int .u8 m]:=by simp[hm]
    have AL:ja=1:=by rw[<- bE j _ hr];rfl
    subst AL
    obtain⟨_,h1,_⟩:=cL j 0 _ _ hr rfl
    have h2:=cr j 0 _ _ hr rfl
    have h3:f j 0=.int .u8 m:=by generalize f j 0=F at h2;cases h2;rfl
    rw[gv,<- h3,<- h1];simp)
   rw[ao',<- hlen] at this
   exact this
  refine⟨_,run_bytesToString w _ n cap ns Px,?_,_,_,_,rfl⟩
  rw[foldl_push];simp[ByteArray.empty,ByteArray.emptyWithCapacity];rfl
theorem Fm(hW:aK G base s.H gh w)(hF:FR L nt gh w a s){o:Oper}{st dt e:TypeId}{x:Operand}{ix:an}{z:AV}
  (ho:o.op=.convert st dt x) (hc:ak nt x=some ix) (hs:P.underlying st=some (.slice e)) (hE:P.underlying e=some (.int .u8)) (hd:P.underlying dt=some .string) (he:j6 .xh (ix.eval G s.T)=some z) :
  ∃ v,(execOp a.eval o).run P w=.ok (.value v) w/\lZ gh s.H.length nt w s.T s.gen (fj a) v z:=by
 generalize hz:ix.eval G s.T=X at he
 cases X<;>simp only[j6,reduceCtorEq,aoO] at he
 obtain⟨l,hl,rfl⟩:=he
 obtain⟨ns,rfl,rfl⟩:=vK hl
 have hv:=VR.iw (bY hW hF hc hz rfl)
 obtain⟨q,h1,h2,b,c,d,hV⟩:=Nh (P:=P) (n0:=0) hv
 refine⟨.string q,?_,.cF (.plain _ _ (.str _ _ h2))⟩
 have h3:(convert st dt (a.eval x)).run P w=.ok (.string q) w:=by rw[hV] at h1 ⊢;rw[run_convert_bytes_string w st dt e b c d hs hE hd,h1]
 simp[execOp,ho,h3]
end
end
section
section
variable {P:Program}{G:Nat->List AV}{base nt:Nat}{L:List Nat}{gh:Gh}{w:World}{a:Act}{s:AS}
theorem GN{x:AV}(h:x.plain=true):al x=true:=by cases x<;>first|rfl|(simp[AV.plain] at h)
theorem Ii(hW:aK G base s.H gh w)(hF:FR L nt gh w a s){o:Oper}{t:TypeId}{x:Operand}{ix:an}{z:AV}
  (ho:o.op=.makeInterface t x) (hc:ak nt x=some ix) (hd:∃ d,P.underlying t=some d/\∀ m,d≠.interface m) (he:vp t (ix.eval G s.T)=some z) :
  ∃ v,(execOp a.eval o).run P w=.ok (.value v) w/\lZ gh s.H.length nt w s.T s.gen (fj a) v z:=by
 generalize hz:ix.eval G s.T=X at he
 unfold vp at he
 obtain⟨h0,h1⟩:=ab he
 injection h1 with h1
 subst h1
 have hf:al X=true:=by
  rcases Bool.or_eq_true_iff.1 h0 with h|h
  ·rw[<- gy];exact GN h
  ·cases X<;>first|rfl|(simp at h)
 have hv:=bY hW hF hc hz hf
 obtain⟨d,hd,hn⟩:=hd
 have xY:P.concrete t=true:=by unfold Program.concrete;rw[hd];cases d<;>first|rfl|exact absurd rfl (hn _)
 exact⟨_,by simp[execOp,ho,run_makeInterface w t _ xY],.cF (.iface _ _ _ hv)⟩
theorem GL{n:Nat}{agg:Bool}{sz off:Nat}{xs:List AV}{z:AV}(hl:ag false agg sz off xs=some z){t:TypeId}(hg:kQ P t=some agg)(hs:de P t=some sz)
  {cs:Array Value} (gA:cs.size=xs.length) (fL:∀ (j:Nat) (v:Value),cs[j]?=some v->v.oneCell'=true)
  (h:∀ (j:Nat) (v:Value) (x:AV),cs[j]?=some v->xs[j]?=some x->VR gh n w v x) :
  ∃ v,(part t cs off).run P w=.ok v w/\VR gh n w v z:=by
 unfold ag at hl
 cases agg
 ·simp only[aoZ,aoO] at hl
  obtain⟨x,hx,rfl⟩:=hl
  have hj:off<cs.size:=by rw[gA];exact (aoR.1 hx).1
  have hv:cs[off]?=some cs[off]:=ao2 hj
  exact⟨cs[off],by simp[part,gY hg,hv],VR.dropped (h off _ x hv hx)⟩
 ·simp only[cond_true] at hl
  obtain⟨h0,h1⟩:=ab hl
  have h0' : off+sz<=xs.length:=by simpa [Nat.ble_eq] using h0
  injection h1 with h1
  subst h1
  refine⟨.agg (cs.extract off (off+sz)),by simp[part,gY hg,dx hs],.agg _ _ (by simp;omega) ?_ ?_⟩
  ·intro j v hj
   rw[aq9] at hj
   split at hj
   ·exact fL _ v hj
   ·cases hj
  ·intro j v x hj hx
   rw[aq9] at hj
   split at hj
   ·rename_i aU
    simp only[ao1,aoO] at hx
    obtain⟨y,hy,rfl⟩:=hx
    rw[apa,apq] at hy
    split at hy
    ·exact VR.dropped (h _ v y hj hy)
    ·cases hy
   ·cases hj
theorem OV(hW:aK G base s.H gh w)(hF:FR L nt gh w a s){o:Oper}{t:TypeId}{x:Operand}{f:Nat}{ix:an}{fs:Array Go.Field}{q:Go.Field}{agg:Bool}{sz:Nat}{xs:List AV}{z:AV}
  (ho:o.op=.field t x f) (hc:ak nt x=some ix) (hu:P.underlying t=some (.struct fs)) (hq:fs[f]?=some q) (hs:de P q.type=some sz) (hg:kQ P q.type=some agg)
  (hz:ix.eval G s.T=.agg xs) (he:ag false agg sz q.offset xs=some z) :
  ∃ v,(execOp a.eval o).run P w=.ok (.value v) w/\lZ gh s.H.length nt w s.T s.gen (fj a) v z:=by
 obtain⟨cs,hA,gA,fL,h⟩:=(bY hW hF hc hz rfl).jD
 obtain⟨v,h1,h2⟩:=GL he hg hs gA fL h
 exact⟨v,by simp[execOp,ho,hA,Instr.field,run_underlying hu,hq,asAgg,h1],.cF h2⟩
theorem OW(hW:aK G base s.H gh w)(hF:FR L nt gh w a s){o:Oper}{t e:TypeId}{x i:Operand}{n sz k:Nat}{ix ii:an}{agg:Bool}{xs:List AV}{z:AV}
  (ho:o.op=.index t x i) (hc:ak nt x=some ix) (hi:ak nt i=some ii) (hu:P.underlying t=some (.array n e)) (hs:de P e=some sz) (hg:kQ P e=some agg)
  (hk:asNat (ii.eval G s.T)=some k) (hkn:k<n) (hz:ix.eval G s.T=.agg xs) (he:ag false agg sz (k*sz) xs=some z) :
  ∃ v,(execOp a.eval o).run P w=.ok (.value v) w/\lZ gh s.H.length nt w s.T s.gen (fj a) v z:=by
 obtain⟨cs,hA,gA,fL,h⟩:=(bY hW hF hc hz rfl).jD
 obtain⟨kd,Ml⟩:=ke hW hF hi hk
 obtain⟨v,h1,h2⟩:=GL he hg hs gA fL h
 exact⟨v,by simp[execOp,ho,hA,Ml,Instr.index,asIntOf,run_underlying hu,dx hs,hkn,h1],.cF h2⟩
theorem Fo(hW:aK G base s.H gh w)(hF:FR L nt gh w a s){o:Oper}{t:TypeId}{x i:Operand}{k:Nat}{ix ii:an}{l:List UInt8}{b:UInt8}
  (ho:o.op=.index t x i) (hc:ak nt x=some ix) (hi:ak nt i=some ii) (hu:P.underlying t=some .string)
  (hk:asNat (ii.eval G s.T)=some k) (hz:ix.eval G s.T=.str l) (hb:l[k]?=some b) :
  ∃ v,(execOp a.eval o).run P w=.ok (.value v) w/\lZ gh s.H.length nt w s.T s.gen (fj a) v (.int .u8 b.toNat):=by
 obtain⟨q,hA,hl⟩:=(bY hW hF hc hz rfl).jF
 obtain⟨kd,Ml⟩:=ke hW hF hi hk
 have hq:q[k]?=some b:=by
  obtain⟨⟨d⟩⟩:=q
  simp at hl;subst hl
  have AF:=(aoR.1 hb).1
  have Hm:k<(ByteArray.mk ⟨d⟩).size:=AF
  rw[ByteArray.getElem?_lt' _ _ Hm]
  rw[aoT AF] at hb
  exact hb
 exact⟨_,by simp[execOp,ho,hA,Ml,Instr.index,asIntOf,run_underlying hu,hq],.cF (.plain _ _ (.int _ _))⟩
theorem VR.xB{n:Nat}{v:Value}{x:AV}(h:VR gh n w v x):VR gh n w v x.aX:=by
 cases x<;>try exact VR.dropped h
 obtain⟨cs,rfl,hs,fL,h⟩:=h.jD
 refine .agg _ _ (by simp[hs]) fL fun j v x hj hx=>?_
 simp only[ao1,aoO] at hx
 obtain⟨y,hy,rfl⟩:=hx
 exact VR.dropped (h j v y hj hy)
theorem Ig(hW:aK G base s.H gh w)(hF:FR L nt gh w a s){o:Oper}{x:Operand}{i:Nat}{ix:an}{vs:List AV}{z:AV}
  (ho:o.op=.extract x i) (hc:ak nt x=some ix) (hz:ix.eval G s.T=.tuple vs) (hi:vs[i]?=some z) :
  ∃ v,(execOp a.eval o).run P w=.ok (.value v) w/\lZ gh s.H.length nt w s.T s.gen (fj a) v z.aX:=by
 obtain⟨us,hA,gA,h⟩:=(bY hW hF hc hz rfl).rR
 have hj:i<us.size:=by rw[gA];exact (aoR.1 hi).1
 have hv:us[i]?=some us[i]:=ao2 hj
 exact⟨us[i],by simp[execOp,ho,hA,Instr.extract,hv],.cF (VR.xB (h i _ z hv hi))⟩
theorem Ua{t:TypeId}{k:ly}{V:Value}{X z:AV}{n:Nat}(hv:VR gh n w V X.drop)(ht:match k with|.str=>P.underlying t=some .string|.sl=>∃ e,P.underlying t=some (.slice e)|.arr m=>∃ e,P.underlying t=some (.array m e))
  (he:kx k X=some z) (ty:TypeId):∃ v,(Builtin.len_ #[t] ty #[V]).run P w=.ok v w/\VR gh n w v z:=by
 cases k<;>cases X<;>simp only[kx,aoQ,reduceCtorEq] at he<;>subst he
 case str.str l =>
  obtain⟨q,rfl,rfl⟩:=hv.jF
  refine⟨.int .i64 q.size,by simp[Builtin.len_,run_underlying ht,goInt],?_⟩
  exact .plain _ _ (by rw[show (q.data.toList.length:Int)=(q.size:Int) by simp];exact .int _ _)
 case sl.slice el own =>
  obtain⟨e,ht⟩:=ht
  have hp:=hv.iw
  cases hp with
  | cT=>exact⟨.int .i64 0,by simp[Builtin.len_,run_underlying ht,goInt],.plain _ _ (.int _ _)⟩
  | slice b of m cap sz _ f hn jC bE cL cr=>exact⟨.int .i64 el.length,by simp[Builtin.len_,run_underlying ht,goInt,hn],.plain _ _ (.int _ _)⟩
 case sl.sref loc off m zz =>
  obtain⟨e,ht⟩:=ht
  obtain⟨_,cap,_,_,rfl⟩:=hv.jn
  exact⟨.int .i64 m,by simp[Builtin.len_,run_underlying ht,goInt],.plain _ _ (.int _ _)⟩
 case sl.ae =>
  obtain⟨e,ht⟩:=ht
  have hp:=hv.kq
  subst hp
  exact⟨.int .i64 0,by simp[Builtin.len_,run_underlying ht,goInt],.plain _ _ (.int _ _)⟩
 all_goals
  obtain⟨e,ht⟩:=ht
  exact⟨.int .i64 _,by simp[Builtin.len_,run_underlying ht,goInt],.plain _ _ (.int _ _)⟩
theorem jy:∀ {xs:List Operand} {ys:List an},iM nt xs=some ys->xs.length=ys.length/\∀ (j:Nat) (x:Operand) (y:an),xs[j]?=some x->ys[j]?=some y->ak nt x=some y
 | [],ys,h=>by simp[iM] at h;subst h;exact⟨rfl,fun j x y h=>by simp at h⟩
 | x :: r,ys,h=>by
  simp only[iM,aoP,aoO] at h
  obtain⟨y,hy,zs,hz,rfl⟩:=h
  obtain⟨h1,h2⟩:=jy hz
  refine⟨by simp[h1],fun j u v hu hv=>?_⟩
  cases j with
  | zero=>simp at hu hv;subst hu hv;exact hy
  | succ j=>exact h2 j u v (by simpa using hu) (by simpa using hv)
theorem Bx(hW:aK G base s.H gh w)(hF:FR L nt gh w a s){xs:List Operand}{ys:List an}(hc:iM nt xs=some ys)(hf:(ys.map fun y=>y.addr G s.T).all al=true) :
  ∀ (j:Nat) (v:Value) (x:AV),(xs.map a.eval)[j]?=some v->(ys.map fun y=>(y.addr G s.T).drop)[j]?=some x->VR gh s.H.length w v x:=by
 obtain⟨hl,h⟩:=jy hc
 intro j v x hj hx
 simp only[ao1,aoO] at hj hx
 obtain⟨o,ho,rfl⟩:=hj
 obtain⟨y,hy,rfl⟩:=hx
 have hfy:al (y.addr G s.T)=true:=aoV.1 hf _ (apu.2 ⟨y,ao0 hy,rfl⟩)
 exact mD hW hF (h j o y ho hy) rfl hfy
theorem LX(hW:aK G base s.H gh w)(hF:FR L nt gh w a s){o:Oper}{f:Fn}{fs cs:Array Operand}{ifs ics:List an}
  (ho:o.op=.makeFunc f fs cs) (h1:iM nt fs.toList=some ifs) (h2:iM nt cs.toList=some ics)
  (hf1:(ifs.map fun y=>y.addr G s.T).all al=true) (hf2:(ics.map fun y=>y.addr G s.T).all al=true) :
  ∃ v,(execOp a.eval o).run P w=.ok (.value v) w/\lZ gh s.H.length nt w s.T s.gen (fj a) v (.func f (ifs.map fun y=>(y.addr G s.T).drop) (ics.map fun y=>(y.addr G s.T).drop)):=by
 refine⟨.func f (fs.map a.eval) (cs.map a.eval),by simp[execOp,ho,Instr.makeFunc],.cF (.func _ _ _ _ _ ?_ ?_ ?_ ?_)⟩
 ·simpa using (jy h1).1
 ·simpa using (jy h2).1
 ·intro j v x hj hx
  exact Bx hW hF h1 hf1 j v x (by simpa using hj) hx
 ·intro j v x hj hx
  exact Bx hW hF h2 hf2 j v x (by simpa using hj) hx
end
end
section
section
variable {P:Program}{G:Nat->List AV}{base nt:Nat}{L:List Nat}{gh:Gh}{w:World}{a:Act}{s:AS}
theorem jv(hW:aK G base s.H gh w)(hF:FR L nt gh w a s){x:Option Operand}{ix:Option an}(hc:gB nt x=some ix){d MS n:Nat}(hb:bound d (ix.map (·.eval G s.T)) MS=some n) :
  (x.map a.eval=none/\ix=none/\n=d)\/(ix.isSome=true/\n<=MS/\∃ k,x.map a.eval=some (.int k (n:Int))):=by
 cases x with
 | none=>simp[gB] at hc;subst hc;simp[bound] at hb;exact .inl ⟨rfl,rfl,hb.symm⟩
 | some x =>
  simp only[gB,aoO] at hc
  obtain⟨y,hy,rfl⟩:=hc
  simp only[bound,Option.map_some,aoP] at hb
  obtain⟨m,hm,hb⟩:=hb
  obtain⟨h1,h2⟩:=ab hb
  injection h2 with h2
  subst h2
  obtain⟨k,hk⟩:=ke hW hF hy hm
  exact .inr ⟨rfl,by simpa [Nat.ble_eq] using h1,k,by simp[hk]⟩
theorem qe{isSlice:Bool}{len cap l h m:Nat}{lo hi mx:Option Value}
  (hm:(mx=none/\m=cap)\/(m<=cap/\∃ k,mx=some (.int k (m:Int)))) (hh:(hi=none/\h=len/\mx=none)\/(h<=m/\∃ k,hi=some (.int k (h:Int))))
  (hl:(lo=none/\l=0)\/(l<=h/\∃ k,lo=some (.int k (l:Int)))) :
  (Instr.sliceBounds isSlice len cap lo hi mx).run P w=.ok (l,h,m) w:=by
 have sb:∀ (k:IntKind) (n y:Nat) (code:BoundsCode),n<=y->(Instr.sliceBound (.int k (n:Int)) y code).run P w=.ok n w:=by
  intro k n y code hn
  rw[run_sliceBound w k n y code (by omega) (by omega)];simp
 rcases hm with ⟨rfl,rfl⟩|⟨hm,km,rfl⟩<;>rcases hh with ⟨rfl,rfl,hx⟩|⟨hh,kh,rfl⟩<;>rcases hl with ⟨rfl,rfl⟩|⟨hl,kl,rfl⟩ <;>
  first|(cases hx;done)|simp[Instr.sliceBounds,sb, *]
theorem Cf(hW:aK G base s.H gh w)(hF:FR L nt gh w a s){o:Oper}{t:TypeId}{x:Operand}{lo hi mx:Option Operand}{ix:an}{Mw AN AO:Option an}{z:AV}
  (ho:o.op=.slice t x lo hi mx) (hc:ak nt x=some ix) (h1:gB nt lo=some Mw) (h2:gB nt hi=some AN) (h3:gB nt mx=some AO) (hu:P.underlying t=some .string)
  (he:ij .str (ix.eval G s.T) (Mw.map (·.eval G s.T)) (AN.map (·.eval G s.T)) (AO.map (·.eval G s.T))=some z) :
  ∃ v,(execOp a.eval o).run P w=.ok (.value v) w/\lZ gh s.H.length nt w s.T s.gen (fj a) v z:=by
 generalize hz:ix.eval G s.T=X at he
 cases X<;>simp only[ij,reduceCtorEq,aoP] at he
 rename_i l
 obtain⟨h,hh,l0,hl,he⟩:=he
 obtain⟨hn,he⟩:=ab he
 injection he with he
 subst he
 obtain⟨q,hA,hq⟩:=(bY hW hF hc hz rfl).jF
 have gA:q.size=l.length:=by rw[<- hq];simp
 have Tw:mx.map a.eval=none/\AO=none:=by
  cases mx with
  | none=>simp[gB] at h3;subst h3;exact⟨rfl,rfl⟩
  | some m=>simp only[gB,aoO] at h3;obtain⟨_,_,rfl⟩:=h3;simp at hn
 have bh:=jv hW hF h2 hh
 have bl:=jv hW hF h1 hl
 have hb:(Instr.sliceBounds false q.size q.size (lo.map a.eval) (hi.map a.eval) none).run P w=.ok (l0,h,q.size) w:=by
  refine qe (.inl ⟨rfl,rfl⟩) ?_ ?_
  ·rcases bh with ⟨e1,_,e2⟩|⟨_,e1,k,e2⟩
   ·exact .inl ⟨e1,by omega,rfl⟩
   ·exact .inr ⟨by omega,k,e2⟩
  ·rcases bl with ⟨e1,_,e2⟩|⟨_,e1,k,e2⟩
   ·exact .inl ⟨e1,e2⟩
   ·exact .inr ⟨e1,k,e2⟩
 refine⟨.string (q.extract l0 h),?_,.cF (.plain _ _ (.str _ _ ?_))⟩
 ·have hA':=hA
  have pn:(Instr.slice t (.string q) (lo.map a.eval) (hi.map a.eval) none).run P w=.ok (.string (q.extract l0 h)) w:=by
   simp[Instr.slice,run_underlying hu,hb]
  simp only[execOp,ho,hA',Tw.1,Sem.run_bind,run_sliceAt_string w t (.string q) _ _ _ hu,pn,Result.andThen_ok,Sem.run_pure]
 ·rw[<- hq]
  rw[ByteArray.data_extract,Array.toList_extract,List.extract_eq_take_drop,List.drop_take]
theorem xZ{sz ja:Nat}{e:List (List AV)}(h:fR sz e=true)(hr:∀ (i:Nat) (r:List AV),e[i]?=some r->r.length=ja)(bB:e≠[]):ja=sz:=by
 cases e with
 | nil=>exact absurd rfl bB
 | cons r e =>
  simp[fR,dR] at h
  rw[<- hr 0 r rfl,h]
theorem PR.part{S:Nat->Nat->Prop}{b o n cap:Nat}{e:List (List AV)}(hv:PR S w (.slice (some ⟨b,o,none⟩) n cap) (.slice e false)){sz:Nat}(gA:e≠[]->∀ (i:Nat) (r:List AV),e[i]?=some r->r.length=sz)
  {l h c:Nat} (hl:l<=h) (hh:h<=n) (hc:h-l<=c):PR S w (.slice (some ⟨b,o+l*sz,none⟩) (h-l) c) (.slice ((e.take h).drop l) false):=by
 cases hv with
 | slice _ _ _ _ ja _ f hn jC bE cL cr =>
  have idx:∀ (i:Nat) (r:List AV),((e.take h).drop l)[i]?=some r->e[l+i]?=some r:=by
   intro i r hi
   rw[apq,apa] at hi
   split at hi
   ·exact hi
   ·cases hi
  have hz:∀ (i:Nat) (r:List AV),e[i]?=some r->ja=sz:=by
   intro i r hi
   have bB:e≠[]:=by rintro rfl;simp at hi
   rw[<- bE i r hi,gA bB i r hi]
  refine .slice b (o+l*sz) (h-l) c sz _ (fun i j=>f (l+i) j) (by simp;omega) hc ?_ ?_ ?_
  ·intro i r hi
   rw[bE _ r (idx i r hi),hz _ r (idx i r hi)]
  ·intro i j r x hi hj
   have h1:=cL (l+i) j r x (idx i r hi) hj
   rw[hz _ r (idx i r hi)] at h1
   rw[show o+l*sz+i*sz+j=o+(l+i)*sz+j by rw[apy];omega]
   exact h1
  ·intro i j r x hi hj
   exact cr (l+i) j r x (idx i r hi) hj
theorem PR.A5{S:Nat->Nat->Prop}{b o c:Nat}{e:List (List AV)}{l h:Nat}(hl:h<=l):PR S w (.slice (some ⟨b,o,none⟩) 0 c) (.slice ((e.take h).drop l) false):=by
 have:(e.take h).drop l=[]:=by simp;omega
 rw[this]
 exact .slice b o 0 c 0 [] (fun _ _=>undef) rfl (apZ _) (fun i r h=>by simp at h) (fun i j r x h=>by simp at h) (fun i j r x h=>by simp at h)
theorem zy(hW:aK G base s.H gh w)(hF:FR L nt gh w a s){o:Oper}{t e0:TypeId}{x:Operand}{lo hi mx:Option Operand}{ix:an}{Mw AN AO:Option an}{sz:Nat}{z:AV}
  (ho:o.op=.slice t x lo hi mx) (hc:ak nt x=some ix) (h1:gB nt lo=some Mw) (h2:gB nt hi=some AN) (h3:gB nt mx=some AO) (hu:P.underlying t=some (.slice e0)) (hs:de P e0=some sz)
  {ll o0 n zz:Nat} (hz:ix.eval G s.T=.sref ll o0 n zz) (he:∃ h,bound n (AN.map (·.eval G s.T)) n=some h/\∃ l0,bound 0 (Mw.map (·.eval G s.T)) h=some l0 /\
   cond ((AO.map (·.eval G s.T)).isNone&&Nat.beq zz sz) (some (cond (Nat.blt l0 n) (.sref ll (o0+l0*zz) (h-l0) zz) (.slice [] false))) none=some z) :
  ∃ v,(execOp a.eval o).run P w=.ok (.value v) w/\lZ gh s.H.length nt w s.T s.gen (fj a) v z:=by
 obtain⟨h,hh,l0,hl,he⟩:=he
 obtain⟨hn,s9⟩:=ab he
 clear he
 simp only[Bool.and_eq_true,aqj,Option.map_eq_none_iff,dR,apc] at hn
 obtain⟨rfl,rfl⟩:=hn
 have Mn:mx.map a.eval=none:=by
  cases mx with
  | none=>rfl
  | some m=>simp only[gB,aoO,reduceCtorEq,art,aq7] at h3
 obtain⟨aU,cap,hk,aiH,hA⟩:=(bY hW hF hc hz rfl).jn
 have bh:=jv hW hF h2 hh
 have bl:=jv hW hF h1 hl
 have hhn:h<=n:=by rcases bh with ⟨_,_,e⟩|⟨_,e,_⟩<;>omega
 have hlh:l0<=h:=by rcases bl with ⟨_,_,e⟩|⟨_,e,_⟩<;>omega
 have hb:(Instr.sliceBounds true n cap (lo.map a.eval) (hi.map a.eval) (mx.map a.eval)).run P w=.ok (l0,h,cap) w:=by
  refine qe (.inl ⟨Mn,rfl⟩) ?_ ?_
  ·rcases bh with ⟨e1,e2,e3⟩|⟨_,e1,k,e2⟩
   ·exact .inl ⟨e1,by omega,Mn⟩
   ·exact .inr ⟨by omega,k,e2⟩
  ·rcases bl with ⟨e1,_,e2⟩|⟨_,e1,k,e2⟩
   ·exact .inl ⟨e1,e2⟩
   ·exact .inr ⟨e1,k,e2⟩
 have hr:(Instr.sliceAt t (a.eval x) (lo.map a.eval) (hi.map a.eval) (mx.map a.eval)).run P w=.ok (.slice (if cap=l0 then some ⟨gh.ρ ll,o0,none⟩ else (some (⟨gh.ρ ll,o0,none⟩:Addr)).map (·.add (l0*zz))) (h-l0) (cap-l0)) w:=by
  rw[hA]
  simp[Instr.sliceAt,run_underlying hu,Instr.slice,hb,dx hs]
 refine⟨_,by simp only[execOp,ho,Sem.run_bind,hr,Result.andThen_ok,Sem.run_pure];rfl,?_⟩
 injection s9 with s9
 subst s9
 cases hq:Nat.blt l0 n with
 | true =>
  have YV:l0<n:=by simpa [api] using hq
  rw[if_neg (by omega),Option.map_some,gv]
  refine .cF (.sref ll (o0+l0*zz) (h-l0) (cap-l0) zz aU (by omega) (fun h0=>?_))
  obtain⟨ty,UB⟩:=aiH h0
  refine⟨ty,?_⟩
  have:o0+l0*zz+(cap-l0)*zz=o0+cap*zz:=by
   have h3:(l0+(cap-l0))*zz=l0*zz+(cap-l0)*zz:=apy _ _ _
   rw[show l0+(cap-l0)=cap by omega] at h3
   omega
  rw[this];exact UB
 | false =>
  have YV:¬ l0<n:=fun h=>by rw[<- api] at h;rw[h] at hq;cases hq
  have e0:h-l0=0:=by omega
  rw[e0]
  have hp:∀ (b of c:Nat),PR gh.S w (.slice (some ⟨b,of,none⟩) 0 c) (.slice [] false):=fun b of c=>.slice b of 0 c 0 [] (fun _ _=>undef) rfl (apZ _) (fun i r h=>by simp at h) (fun i j r x h=>by simp at h) (fun i j r x h=>by simp at h)
  split
  ·exact .cF (.plain _ _ (hp _ _ _))
  ·rw[Option.map_some,gv];exact .cF (.plain _ _ (hp _ _ _))
theorem Fs(hW:aK G base s.H gh w)(hF:FR L nt gh w a s){o:Oper}{t e0:TypeId}{x:Operand}{lo hi mx:Option Operand}{ix:an}{Mw AN AO:Option an}{sz:Nat}{z:AV}
  (ho:o.op=.slice t x lo hi mx) (hc:ak nt x=some ix) (h1:gB nt lo=some Mw) (h2:gB nt hi=some AN) (h3:gB nt mx=some AO) (hu:P.underlying t=some (.slice e0)) (hs:de P e0=some sz)
  (he:ij (.sl sz) (ix.eval G s.T) (Mw.map (·.eval G s.T)) (AN.map (·.eval G s.T)) (AO.map (·.eval G s.T))=some z) :
  ∃ v,(execOp a.eval o).run P w=.ok (.value v) w/\lZ gh s.H.length nt w s.T s.gen (fj a) v z:=by
 generalize hz:ix.eval G s.T=X at he
 cases X<;>simp only[ij,reduceCtorEq,aoP] at he
 case sref=>exact zy hW hF ho hc h1 h2 h3 hu hs hz he
 rename_i e own
 obtain⟨m,hm,h,hh,l0,hl,he⟩:=he
 obtain⟨hn,he⟩:=ab he
 injection he with he
 subst he
 have hp:=VR.iw (bY hW hF hc hz rfl)
 have bm:=jv hW hF h3 hm
 have bh:=jv hW hF h2 hh
 have bl:=jv hW hF h1 hl
 have Mn:AO=none->mx.map a.eval=none:=by
  rintro rfl
  cases mx with
  | none=>rfl
  | some m=>simp only[gB,aoO,reduceCtorEq,art,aq7] at h3
 have qn:lo.map a.eval=none->l0=0:=by
  intro qn
  rcases bl with ⟨_,_,e2⟩|⟨_,_,k,e2⟩
  ·exact e2
  ·rw[qn] at e2;cases e2
 simp only[Bool.and_eq_true,aqi,aqj,Option.map_eq_none_iff] at hn
 obtain⟨sE,vX⟩:=hn
 have hlh:l0<=h:=by rcases bl with ⟨_,_,e⟩|⟨_,e,_⟩<;>omega
 have hhm:h<=m:=by
  rcases bh with ⟨_,e1,e2⟩|⟨_,e,_⟩
  ·subst e1
   rcases sE with rfl|hx
   ·simp[bound] at hm;omega
   ·simp at hx
  ·exact e
 have Kp:m<=e.length:=by rcases bm with ⟨_,_,e⟩|⟨_,e,_⟩<;>omega
 have key:∀ len cap:Nat,len=e.length->len<=cap->∀ ad,∃ m',(m'=if AO=none then cap else m) /\
   (Instr.slice t (.slice ad len cap) (lo.map a.eval) (hi.map a.eval) (mx.map a.eval)).run P w=.ok (.slice (if m'=l0 then ad else ad.map (·.add (l0*sz))) (h-l0) (m' - l0)) w:=by
  intro len cap hlen jC ad
  refine⟨_,rfl,?_⟩
  have hb:(Instr.sliceBounds true len cap (lo.map a.eval) (hi.map a.eval) (mx.map a.eval)).run P w=.ok (l0,h,if AO=none then cap else m) w:=by
   refine qe ?_ ?_ ?_
   ·rcases bm with ⟨e1,e2,_⟩|⟨e1,e2,k,e3⟩
    ·exact .inl ⟨e1,by rw[if_pos e2]⟩
    ·have bB:AO≠none:=by rintro rfl;cases e1
     rw[if_neg bB]
     exact .inr ⟨by omega,k,e3⟩
   ·rcases bh with ⟨e1,e2,e3⟩|⟨_,e1,k,e2⟩
    ·refine .inl ⟨e1,by omega,?_⟩
     subst e2
     rcases sE with hx|hx
     ·exact Mn hx
     ·simp at hx
    ·refine .inr ⟨?_,k,e2⟩
     split<;>omega
   ·rcases bl with ⟨e1,_,e2⟩|⟨_,e1,k,e2⟩
    ·exact .inl ⟨e1,e2⟩
    ·exact .inr ⟨e1,k,e2⟩
  simp[Instr.slice,run_underlying hu,hb,dx hs]
 have fin:∀ {V:Value} {R:Value},a.eval x=V->(Instr.slice t V (lo.map a.eval) (hi.map a.eval) (mx.map a.eval)).run P w=.ok R w->(∃ ad n c,V=.slice ad n c) ->
   (execOp a.eval o).run P w=.ok (.value R) w:=by
  rintro V R hA hR ⟨ad,n,c,rfl⟩
  have:(Instr.sliceAt t (.slice ad n c) (lo.map a.eval) (hi.map a.eval) (mx.map a.eval)).run P w=.ok R w:=by simp[Instr.sliceAt,run_underlying hu,hR]
  simp only[execOp,ho,hA,Sem.run_bind,this,Result.andThen_ok,Sem.run_pure]
 generalize hA:a.eval x=V at hp
 have Tx:=hp
 cases hp with
 | cT =>
  have hlen:([]:List (List AV)).length=0:=rfl
  simp only[List.length_nil] at Kp
  have e1:m=0:=by omega
  have e2:h=0:=by omega
  have e3:l0=0:=by omega
  subst e1 e2 e3
  obtain⟨m',YS,hr⟩:=key 0 0 rfl (aoU _) none
  have:m'=0:=by rw[YS];split<;>rfl
  subst this
  refine⟨_,fin hA hr ⟨_,_,_,rfl⟩,.cF ?_⟩
  simp
  generalize AO.isSome=q
  cases q
  ·exact .plain _ _ .cT
  ·exact .full none 0 [] .cT trivial
 | slice b of n cap ja _ f hn' jC bE cL cr =>
  obtain⟨m',YS,hr⟩:=key n cap hn'.symm jC (some ⟨b,of,none⟩)
  refine⟨_,fin hA hr ⟨_,_,_,rfl⟩,.cF ?_⟩
  have amU:h<=m':=by rw[YS];split<;>omega
  have vi:PR gh.S w (.slice (if m'=l0 then some ⟨b,of,none⟩ else (some (⟨b,of,none⟩:Addr)).map (·.add (l0*sz))) (h-l0) (m' - l0)) (.slice ((e.take h).drop l0) false):=by
   by_cases afJ:m'=l0
   ·rw[if_pos afJ]
    have:h-l0=0:=by omega
    rw[this]
    exact PR.A5 (by omega)
   ·rw[if_neg afJ,Option.map_some,gv]
    by_cases afB:l0=0
    ·have:=PR.part Tx (sz:=ja) (fun _=>bE) hlh (c:=m' - l0) (by omega) (by omega)
     rw[afB,aqI] at this ⊢
     exact this
    ·refine PR.part Tx (fun bB i r hi=>?_) hlh (by omega) (by omega)
     have ajk:¬ (Mw=none):=by
      rintro rfl
      rcases bl with ⟨_,_,e2⟩|⟨e1,_⟩
      ·exact afB e2
      ·cases e1
     have:=xZ (vX.resolve_left ajk) bE bB
     rw[bE i r hi,this]
  generalize hq:((Option.map (fun x=>an.eval G s.T x) AO).isSome&&m.beq h)=q
  cases q
  ·exact .plain _ _ vi
  ·simp only[Bool.and_eq_true,Option.isSome_map,dR,apc] at hq
   have bB:AO≠none:=by rintro rfl;simp at hq
   have:m'=h:=by rw[YS,if_neg bB];exact hq.2
   subst this
   exact .full _ _ _ vi trivial
theorem pz(sz:Nat):∀ (n:Nat) (l:List AV) (i:Nat),(chunks sz n l)[i]?=if i<n then some ((l.drop (i*sz)).take sz) else none
 | 0,l,i=>by simp[chunks]
 | n+1,l,0=>by simp[chunks]
 | n+1,l,i+1=>by
  simp only[chunks,apf,pz sz n,aqr,Nat.add_lt_add_iff_right]
  congr 3
  rw[apy,aqE,aq5]
theorem xq(sz:Nat):∀ (n:Nat) (l:List AV),(chunks sz n l).length=n
 | 0,l=>rfl
 | n+1,l=>by simp[chunks,xq sz n]
theorem PR.chunks{S:Nat->Nat->Prop}{b o n sz:Nat}{cs:List AV}(hv:PR S w (.pointer (some ⟨b,o,none⟩)) (.eptr cs))(hl:cs.length=n*sz) :
  PR S w (.slice (some ⟨b,o,none⟩) n n) (.slice (chunks sz n cs) false):=by
 cases hv with
 | eptr _ _ _ f cL cr =>
  have idx:∀ (i j:Nat) (r:List AV) (x:AV),(Abs.chunks sz n cs)[i]?=some r->r[j]?=some x->cs[i*sz+j]?=some x:=by
   intro i j r x hi hj
   rw[pz] at hi
   split at hi
   ·injection hi with hi
    subst hi
    rw[apa,apq] at hj
    split at hj
    ·exact hj
    ·cases hj
   ·cases hi
  refine .slice b o n n sz _ (fun i j=>f (i*sz+j)) (xq sz n cs) (aoU _) ?_ ?_ ?_
  ·intro i r hi
   rw[pz] at hi
   split at hi
   ·rename_i aU
    injection hi with hi
    subst hi
    have:(i+1)*sz<=n*sz:=apl _ aU
    rw[apy] at this
    simp;omega
   ·cases hi
  ·intro i j r x hi hj
   rw[aqu]
   exact cL _ x (idx i j r x hi hj)
  ·intro i j r x hi hj
   exact cr _ x (idx i j r x hi hj)
theorem Ce(hW:aK G base s.H gh w)(hF:FR L nt gh w a s){o:Oper}{t e0:TypeId}{x:Operand}{lo hi mx:Option Operand}{ix:an}{Mw AN AO:Option an}{n sz:Nat}{z:AV}
  (ho:o.op=.slice t x lo hi mx) (hc:ak nt x=some ix) (h1:gB nt lo=some Mw) (h2:gB nt hi=some AN) (h3:gB nt mx=some AO) (hu:P.underlying t=some (.array n e0)) (hs:de P e0=some sz) (h0:0<sz)
  (he:ij (.arr n sz) (ix.eval G s.T) (Mw.map (·.eval G s.T)) (AN.map (·.eval G s.T)) (AO.map (·.eval G s.T))=some z) :
  ∃ v,(execOp a.eval o).run P w=.ok (.value v) w/\lZ gh s.H.length nt w s.T s.gen (fj a) v z:=by
 generalize hz:ix.eval G s.T=X at he
 cases X<;>simp only[ij,reduceCtorEq] at he
 rename_i cs
 obtain⟨hlen,he⟩:=ab he
 simp only[aoP] at he
 obtain⟨h,hh,l0,hl,he⟩:=he
 obtain⟨hn,he⟩:=ab he
 injection he with he
 subst he
 have Kn:cs.length=n*sz:=by simpa [dR] using hlen
 have hp:=VR.ur (bY hW hF hc hz rfl)
 have Tw:mx.map a.eval=none:=by
  cases mx with
  | none=>rfl
  | some m=>simp only[gB,aoO] at h3;obtain⟨_,_,rfl⟩:=h3;simp at hn
 have bh:=jv hW hF h2 hh
 have bl:=jv hW hF h1 hl
 have hlh:l0<=h:=by rcases bl with ⟨_,_,e⟩|⟨_,e,_⟩<;>omega
 have hhn:h<=n:=by rcases bh with ⟨_,_,e⟩|⟨_,e,_⟩<;>omega
 have hb:(Instr.sliceBounds false n n (lo.map a.eval) (hi.map a.eval) none).run P w=.ok (l0,h,n) w:=by
  refine qe (.inl ⟨rfl,rfl⟩) ?_ ?_
  ·rcases bh with ⟨e1,_,e2⟩|⟨_,e1,k,e2⟩
   ·exact .inl ⟨e1,by omega,rfl⟩
   ·exact .inr ⟨by omega,k,e2⟩
  ·rcases bl with ⟨e1,_,e2⟩|⟨_,e1,k,e2⟩
   ·exact .inl ⟨e1,e2⟩
   ·exact .inr ⟨e1,k,e2⟩
 generalize hA:a.eval x=V at hp
 have Tx:=hp
 cases hp with
 | eptr b of _ f cL cr =>
  refine⟨.slice (some (if n=l0 then ⟨b,of,none⟩ else (⟨b,of,none⟩:Addr).add (l0*sz))) (h-l0) (n-l0),?_,.cF (.plain _ _ ?_)⟩
  ·simp[execOp,ho,hA,Tw,Instr.sliceAt,run_underlying hu,Instr.sureAddr,hb,dx hs]
  ·have hc:=PR.chunks (sz:=sz) Tx Kn
   by_cases IS:n=l0
   ·have:h-l0=0:=by omega
    rw[this]
    simp only[IS,ap4]
    rw[<- IS]
    exact PR.A5 (by omega)
   ·rw[if_neg IS,gv]
    refine PR.part hc (fun _ i r hi=>?_) hlh hhn (by omega)
    cases hc with
    | slice _ _ _ _ ja _ f' hn' jC bE aiK ala =>
     rw[pz] at hi
     split at hi
     ·rename_i aU
      injection hi with hi
      subst hi
      have:(i+1)*sz<=n*sz:=apl _ aU
      rw[apy] at this
      simp;omega
     ·cases hi
end
end
section
section
variable {P:Program}{G:Nat->List AV}{base nt:Nat}{L:List Nat}{gh:Gh}{w:World}{a:Act}{s:AS}
theorem fg{op:BinOp}{t:TypeId}{x y:Operand}{u v:Value}(h1:∀ c,u≠.agg c)(h2:u≠.nilIface\/v≠.nilIface):(eqGuard op t x y u v).run P w=.ok () w:=by
 have key:∀ (op:BinOp),op=.eql\/op=.neq\/(eqGuard op t x y u v)=pure ():=by
  intro op
  cases op<;>first|exact .inl rfl|exact .inr (.inl rfl)|exact .inr (.inr rfl)
 have k2:∀ op,op=BinOp.eql\/op=.neq->(eqGuard op t x y u v).run P w=.ok () w:=by
  rintro op (rfl|rfl)<;>simp only[eqGuard,aq1,apC,ap2] <;>
   (cases u<;>first|rfl|exact absurd rfl (h1 _)|skip)<;>(cases v<;>first|rfl|(simp at h2))
 rcases key op with h|h|h
 ·exact k2 op (.inl h)
 ·exact k2 op (.inr h)
 ·rw[h];rfl
theorem HF{op:BinOp}{k:IntKind}{m n:Int}{z:AV}(h:aa op k m n=some z)(t:TypeId):∃ v,(binOp op t (.int k m) (.int k n)).run P w=.ok v w/\PR gh.S w v z:=by
 unfold aa at h
 cases op<;>simp only[reduceCtorEq,aoQ] at h
 case quo =>
  rcases apE (decide (n=0)) with hb|hb<;>rw[hb] at h<;>simp at h
  subst h
  have hn:¬ n=0:=by simpa using hb
  exact⟨_,by simp[binOp,Op.intDiv,hn],.int _ _⟩
 case rem =>
  rcases apE (decide (n=0)) with hb|hb<;>rw[hb] at h<;>simp at h
  subst h
  have hn:¬ n=0:=by simpa using hb
  exact⟨_,by simp[binOp,Op.intDiv,hn],.int _ _⟩
 all_goals
  subst h
  first
   | exact⟨_,by simp[binOp,Op.intArith],.int _ _⟩
   | exact⟨_,by simp[binOp,Op.intCmp],.bool _⟩
theorem HG{op:BinOp}{x y:ByteArray}{z:AV}(h:j3 op x.data.toList y.data.toList=some z)(t:TypeId):∃ v,(binOp op t (.string x) (.string y)).run P w=.ok v w/\PR gh.S w v z:=by
 have hx:=ByteArray.toList_eq x
 have hy:=ByteArray.toList_eq y
 unfold j3 at h
 cases op<;>simp only[reduceCtorEq,aoQ] at h
 case add =>
  obtain⟨h1,h2⟩:=ab h
  injection h2 with h2
  subst h2
  have h1' : x.size+y.size<=4611686018427387904:=by simpa using h1
  have h3:¬ (((x.size+y.size:Nat):Int)>IntKind.i64.max):=by
   have:IntKind.i64.max=9223372036854775807:=by decide
   rw[this];omega
  exact⟨.string (x++y),by simp only[binOp,Op.stringOp];rw[if_neg h3];rfl,.str _ _ (by simp)⟩
 all_goals
  subst h
  exact⟨_,by simp[binOp,Op.stringOp,hx,hy],.bool _⟩
theorem sC:∀ (k ks:List CK) (X Y:List AV) (b:Bool),bI (k++ks) X Y=some b ->
  ∃ b1 b2,bI k X Y=some b1/\bI ks (X.drop k.length) (Y.drop k.length)=some b2/\b=(b1&&b2)
 | [],ks,X,Y,b,h=>⟨true,b,rfl,by simpa using h,by simp⟩
 | c :: k,ks,X,Y,b,h=>by
  have step:∀ (e:Bool) (X' Y' : List AV),(bI (k++ks) X' Y').map (e&&·)=some b->∃ b1 b2,(bI k X' Y').map (e&&·)=some b1/\bI ks (X'.drop k.length) (Y'.drop k.length)=some b2/\b=(b1&&b2):=by
   intro e X' Y' h
   simp only[aoO] at h
   obtain⟨b',fP,rfl⟩:=h
   obtain⟨b1,b2,h1,h2,rfl⟩:=sC k ks X' Y' b' fP
   exact⟨e&&b1,b2,by simp[h1],h2,by rw[Bool.and_assoc]⟩
  cases c<;>cases X<;>try (cases h;done)
  all_goals (rename_i x X';cases x<;>try (cases h;done))
  all_goals (cases Y<;>try (cases h;done))
  all_goals (rename_i y Y';cases y<;>try (cases h;done))
  ·exact step _ _ _ h
  ·simp only[apj,bI] at h
   obtain⟨h0,h⟩:=ab h
   obtain⟨b1,b2,h1,h2,h3⟩:=step _ _ _ h
   exact⟨b1,b2,by simp only[bI];rw[h0];exact h1,h2,h3⟩
  ·exact step _ _ _ h
theorem nT:∀ (k:List CK) (X Y:List AV) (n:Nat),k.length<=n->bI k (X.take n) (Y.take n)=bI k X Y
 | [],X,Y,n,_=>rfl
 | c :: k,[],Y,n,h=>by rw[List.take_nil];cases c<;>rfl
 | c :: k,x :: X,[],n,h=>by
  obtain⟨m,rfl⟩:∃ m,n=m+1:=⟨n-1,by simp at h;omega⟩
  rw[List.take_nil,ap9];cases c<;>cases x<;>rfl
 | c :: k,x :: X,y :: Y,n,h=>by
  obtain⟨m,rfl⟩:∃ m,n=m+1:=⟨n-1,by simp at h;omega⟩
  have ih:=nT k X Y m (by simp at h;omega)
  rw[ap9,ap9]
  cases c<;>cases x<;>first|rfl|(cases y<;>first|rfl|simp only[bI,ih])
def Row(gh:Gh)(n:Nat)(w:World)(cs:Array Value)(X:List AV):Prop :=
 cs.size=X.length/\∀ (j:Nat) (v:Value) (x:AV),cs[j]?=some v->X[j]?=some x->VR gh n w v x
theorem Row.extract{n:Nat}{cs:Array Value}{X:List AV}(h:Row gh n w cs X)(o k:Nat):Row gh n w (cs.extract o (o+k)) ((X.drop o).take k):=by
 refine⟨by have:=h.1;simp;omega,fun j v x hj hx=>?_⟩
 rw[aq9] at hj
 rw[apa,apq] at hx
 split at hj
 ·split at hx
  ·exact h.2 _ v x hj hx
  ·cases hx
 ·cases hj
theorem lH{t:TypeId}{d:TypeDesc}(h:P.underlying t=some d)(hd:(match d with|.struct _=>true|.array _ _=>true|_=>false)=false):kQ P t=some false:=by
 unfold kQ;rw[h];simp[hd];cases d<;>simp_all
theorem qN{n:Nat}{c:CK}{t:TypeId}{D o:Nat}{cs ds:Array Value}{X Y:List AV}{b:Bool}(hX:Row gh n w cs X)(hY:Row gh n w ds Y)(hD:1<=D)
  (ht:match c with|.b=>P.underlying t=some .bool|.i=>∃ k,P.underlying t=some (.int k)|.s=>P.underlying t=some .string)
  (h:bI [c] (X.drop o) (Y.drop o)=some b):∃ u v,(part t cs o).run P w=.ok u w/\(part t ds o).run P w=.ok v w/\(Op.equalIn D t u v).run P w=.ok b w:=by
 obtain⟨D,rfl⟩:∃ m,D=m+1:=⟨D-1,by omega⟩
 have hg:kQ P t=some false:=by cases c<;>first|exact lH ht rfl|(obtain⟨k,ht⟩:=ht;exact lH ht rfl)
 have get:∀ {cs:Array Value} {X:List AV} {x:AV} {X' : List AV},Row gh n w cs X->X.drop o=x :: X'->∃ u,(part t cs o).run P w=.ok u w/\VR gh n w u x:=by
  intro cs X x X' hR hd
  have hx:X[o]?=some x:=by
   have:(X.drop o)[0]?=some x:=by rw[hd];rfl
   rw[apq] at this;simpa using this
  have aU:o<cs.size:=by rw[hR.1];exact (aoR.1 hx).1
  have hv:cs[o]?=some cs[o]:=ao2 aU
  exact⟨cs[o],by simp[part,gY hg,hv],hR.2 o _ x hv hx⟩
 generalize hXd:X.drop o=Xd at h
 generalize hYd:Y.drop o=Yd at h
 cases c<;>cases Xd<;>try (cases h;done)
 all_goals (rename_i x X';cases x<;>try (cases h;done))
 all_goals (cases Yd<;>try (cases h;done))
 all_goals (rename_i y Y';cases y<;>try (cases h;done))
 all_goals
  obtain⟨u,Tz,hu2⟩:=get hX hXd
  obtain⟨v,US,UT⟩:=get hY hYd
 ·obtain rfl:=hu2.jm
  obtain rfl:=UT.jm
  simp[bI] at h
  exact⟨_,_,Tz,US,by rw[run_equalIn_bool' w D t _ _ ht,h]⟩
 ·obtain rfl:=hu2.jE
  obtain rfl:=UT.jE
  obtain⟨k,ht⟩:=ht
  simp only[bI] at h
  obtain⟨h0,h'⟩:=ab h
  simp at h' h0
  exact⟨_,_,Tz,US,by rw[h0,run_equalIn_int w D t _ _ _ _ ht,h']⟩
 ·obtain⟨p,rfl,rfl⟩:=hu2.jF
  obtain⟨q,rfl,rfl⟩:=UT.jF
  simp[bI] at h
  refine⟨_,_,Tz,US,?_⟩
  rw[run_equalIn_string w D t _ _ ht,ByteArray.toList_eq,ByteArray.toList_eq,<- h]
  simp
def Bm(P:Program)(gh:Gh)(w:World)(d:Nat):Prop :=
 ∀ (t:TypeId) (k:List CK),my P d t=some k->∀ (n D o:Nat) (cs ds:Array Value) (X Y:List AV) (b:Bool),Row gh n w cs X->Row gh n w ds Y->d<=D ->
  bI k (X.drop o) (Y.drop o)=some b->∃ u v,(part t cs o).run P w=.ok u w/\(part t ds o).run P w=.ok v w/\(Op.equalIn D t u v).run P w=.ok b w
theorem Ip{d:Nat}(hd:Bm P gh w d){n D:Nat}(hD:d<=D){cs ds:Array Value}{X Y:List AV}(hX:Row gh n w cs X)(hY:Row gh n w ds Y) :
  ∀ (fs:List Go.Field) (q:Nat) (ks:List CK) (b:Bool),nV (my P d) fs q=some ks->bI ks (X.drop q) (Y.drop q)=some b->(Op.eqFields D cs ds fs).run P w=.ok b w:=by
 intro fs
 induction fs with
 | nil=>intro q ks b h1 h2;simp[nV] at h1;subst h1;simp[bI] at h2;subst h2;rfl
 | cons f fs ih =>
  intro q ks b h1 h2
  unfold nV at h1
  obtain⟨h3,h1⟩:=ab h1
  simp only[aoP,aoO] at h1
  obtain⟨kf,YP,kr,hkr,rfl⟩:=h1
  simp only[Bool.and_eq_true,dR,apc,bne_iff_ne] at h3
  obtain⟨hof,su⟩:=h3
  obtain⟨b1,b2,e1,e2,rfl⟩:=sC kf kr _ _ b h2
  rw[aqr,aqr] at e2
  obtain⟨u,v,p1,p2,p3⟩:=hd f.type kf YP n D q cs ds X Y b1 hX hY hD e1
  have hr:=ih (q+kf.length) kr b2 hkr e2
  unfold Op.eqFields
  rw[if_pos su,hof]
  simp only[Sem.run_bind,p1,p2,p3,Result.andThen_ok]
  cases b1
  ·simp
  ·simp only[aq1,apC,ap2,hr,aql]
theorem qh{d:Nat}{t:TypeId}{k:List CK}{fs:Array Go.Field}(h:my P (d+1) t=some k)(hu:P.underlying t=some (.struct fs)) :
  P.stoodInHeld t=false/\nV (my P d) fs.toList 0=some k/\∃ sz,de P t=some sz/\sz=k.length:=by
 unfold my at h
 rw[hu] at h
 obtain⟨h1,h⟩:=ab h
 simp only[aoP] at h
 obtain⟨ks,Hm,h⟩:=h
 obtain⟨h2,h⟩:=ab h
 injection h with h
 subst h
 refine⟨by simpa using h1,Hm,?_⟩
 cases hq:de P t with
 | none=>rw[hq] at h2;cases h2
 | some m=>rw[hq] at h2;exact⟨m,rfl,by simpa [dR] using h2⟩
theorem tB{d:Nat}(hd:Bm P gh w d){t:TypeId}{k:List CK}{fs:Array Go.Field}(h:my P (d+1) t=some k)(hu:P.underlying t=some (.struct fs))
  {n D:Nat} (hD:d<=D) {cs ds:Array Value} {X Y:List AV} {b:Bool} (hX:Row gh n w cs X) (hY:Row gh n w ds Y) (he:bI k X Y=some b) :
  (Op.equalIn (D+1) t (.agg cs) (.agg ds)).run P w=.ok b w:=by
 obtain⟨sF,Hm,_⟩:=qh h hu
 have hf:P.fieldsOf t=fs:=by unfold Program.fieldsOf;rw[hu]
 rw[run_equalIn_struct w D t _ _ (by rw[hf];exact hu) sF,hf]
 exact Ip hd hD hX hY fs.toList 0 k b Hm (by simpa using he)
theorem vf:∀ d:Nat,Bm P gh w d
 | 0=>fun t k h=>by cases h
 | d+1=>by
  intro t k h n D o cs ds X Y b hX hY hD he
  have h0:=h
  unfold my at h
  cases hu:P.underlying t with
  | none=>rw[hu] at h;cases h
  | some dd =>
   rw[hu] at h
   cases dd<;>try (cases h;done)
   case bool=>injection h with h;subst h;exact qN (c:=.b) hX hY (by omega) hu he
   case int kk=>injection h with h;subst h;exact qN (c:=.i) hX hY (by omega) ⟨kk,hu⟩ he
   case string=>injection h with h;subst h;exact qN (c:=.s) hX hY (by omega) hu he
   case struct fs =>
    obtain⟨_,_,sz,gA,hlen⟩:=qh h0 hu
    have hg:kQ P t=some true:=by unfold kQ;rw[hu];rfl
    refine⟨.agg (cs.extract o (o+sz)),.agg (ds.extract o (o+sz)),by simp[part,gY hg,dx gA],by simp[part,gY hg,dx gA],?_⟩
    obtain⟨D,rfl⟩:∃ m,D=m+1:=⟨D-1,by omega⟩
    rw[<- nT k _ _ sz (by omega)] at he
    exact tB (vf d) h0 hu (by omega) (hX.extract o sz) (hY.extract o sz) he
theorem Jo{op:BinOp}{b:Bool}{z:AV}(h:j9 op b=some z):(op=.eql/\z=.bool b)\/(op=.neq/\z=.bool !b):=by
 cases op<;>simp[j9] at h
 ·exact .inl ⟨rfl,h.symm⟩
 ·exact .inr ⟨rfl,h.symm⟩
theorem mS{op:BinOp}{t:TypeId}{u v:Value}{b:Bool}{z:AV}(h:j9 op b=some z)(hr:(Op.equal t u v).run P w=.ok b w)
  (h1:∀ q,(binOp .eql t u v)=q->q=(do pure (.bool (<- Op.equal t u v)))) (h2:(binOp .neq t u v)=(do pure (.bool (!(<- Op.equal t u v))))) :
  ∃ r,(binOp op t u v).run P w=.ok r w/\PR gh.S w r z:=by
 rcases Jo h with ⟨rfl,rfl⟩|⟨rfl,rfl⟩
 ·exact⟨.bool b,by rw[h1 _ rfl];simp[hr],.bool _⟩
 ·exact⟨.bool !b,by rw[h2];simp[hr],.bool _⟩
theorem ZS(hW:aK G base s.H gh w)(hF:FR L nt gh w a s){o:Oper}{op:BinOp}{t u:TypeId}{x y:Operand}{ix iy:an}{z:AV}
  (ho:o.op=.binOp op t x y u) (hx:ak nt x=some ix) (hy:ak nt y=some iy)
  (he:vJ op (ni P t) (oR ix || oR iy) (ix.eval G s.T) (iy.eval G s.T)=some z) :
  ∃ v,(execOp a.eval o).run P w=.ok (.value v) w/\lZ gh s.H.length nt w s.T s.gen (fj a) v z:=by
 generalize hX:ix.eval G s.T=X at he
 generalize hY:iy.eval G s.T=Y at he
 have fin:∀ {U V:Value},a.eval x=U->a.eval y=V->(eqGuard op t x y U V).run P w=.ok () w->(∃ r,(binOp op t U V).run P w=.ok r w/\PR gh.S w r z) ->
   ∃ v,(execOp a.eval o).run P w=.ok (.value v) w/\lZ gh s.H.length nt w s.T s.gen (fj a) v z:=by
  rintro U V hU hV hg ⟨r,hr,hp⟩
  exact⟨r,by simp[execOp,ho,hU,hV,hg,hr],.cF (.plain _ _ hp)⟩
 have ZD:(oR ix || oR iy)=true->(∃ v,x=.const v)\/(∃ v,y=.const v):=by
  intro h
  rcases Bool.or_eq_true_iff.1 h with h|h
  ·left
   cases x<;>simp only[ak] at hx
   ·have:=(ab hx).2;injection this with this;subst this;cases h
   ·exact⟨_,rfl⟩
   ·injection hx with hx;subst hx;cases h
   ·injection hx with hx;subst hx;cases h
  ·right
   cases y<;>simp only[ak] at hy
   ·have:=(ab hy).2;injection this with this;subst this;cases h
   ·exact⟨_,rfl⟩
   ·injection hy with hy;subst hy;cases h
   ·injection hy with hy;subst hy;cases h
 unfold vJ at he
 split at he
 ·
  obtain⟨h0,uS⟩:=ab he
  have hk:=of_decide_eq_true h0
  have h1:=(bY hW hF hx hX rfl).jE
  have h2:=(bY hW hF hy hY rfl).jE
  rw[<- hk] at h2
  exact fin h1 h2 (fg (by intro c;simp) (.inl (by simp))) (HF uS t)
 ·
  obtain⟨p,h1,hp⟩:=(bY hW hF hx hX rfl).jF
  obtain⟨q,h2,hq⟩:=(bY hW hF hy hY rfl).jF
  subst hp hq
  exact fin h1 h2 (fg (by intro c;simp) (.inl (by simp))) (HG he t)
 ·
  rename_i p q
  have h1:=(bY hW hF hx hX rfl).jm
  have h2:=(bY hW hF hy hY rfl).jm
  generalize hQ:ni P t=Q at he
  cases Q<;>simp only[reduceCtorEq] at he
  have ht:P.underlying t=some .bool:=by
   unfold ni at hQ
   split at hQ<;>first|assumption|(cases hQ)|skip
   cases hb:(!P.eqGuardType P.depth t)<;>rw[hb] at hQ<;>simp at hQ
   split at hQ<;>cases hQ
  exact fin h1 h2 (fg (by intro c;simp) (.inl (by simp))) (mS he (run_equal_bool w t p q ht) (by rintro _ rfl;rfl) rfl)
 ·
  rename_i xs ys
  obtain⟨cs,h1,AL,_,hr1⟩:=(bY hW hF hx hX rfl).jD
  obtain⟨ds,h2,NO,_,hr2⟩:=(bY hW hF hy hY rfl).jD
  generalize hQ:ni P t=Q at he
  cases Q<;>simp only[reduceCtorEq,aoP] at he
  rename_i ks
  obtain⟨b,hb,he⟩:=he
  obtain⟨hg,hk⟩:P.eqGuardType P.depth t=false/\my P 8 t=some ks:=by
   unfold ni at hQ
   split at hQ<;>first|(cases hQ;done)|skip
   cases hb:(P.eqGuardType P.depth t)<;>rw[hb] at hQ<;>simp at hQ
   split at hQ<;>first|(cases hQ;done)|skip
   injection hQ with hQ
   subst hQ
   exact⟨rfl,by assumption⟩
  obtain⟨fs,hu⟩:∃ fs,P.underlying t=some (.struct fs):=by
   unfold ni at hQ
   cases hu:P.underlying t with
   | none=>rw[hu] at hQ;cases hQ
   | some d =>
    rw[hu] at hQ
    cases d<;>simp only[reduceCtorEq] at hQ
    exact⟨_,rfl⟩
  have cz:(Op.equal t (.agg cs) (.agg ds)).run P w=.ok b w :=
   tB (vf 7) hk hu (D:=9999) (by omega) (n:=s.H.length) ⟨AL,hr1⟩ ⟨NO,hr2⟩ hb
  exact fin h1 h2 (run_eqGuard_agg w op t x y cs ds hg) (mS he cz (by rintro _ rfl;rfl) rfl)
 ·
  obtain⟨h0,he⟩:=ab he
  obtain⟨xY,hq⟩:=ard.1 h0
  simp only[aoP] at he
  obtain⟨b,hb,he⟩:=he
  have ht:∃ m,P.underlying t=some (.interface m):=by
   generalize hQ:ni P t=Q at hq
   cases Q<;>simp only[reduceCtorEq] at hq
   unfold ni at hQ
   split at hQ<;>first|exact⟨_,by assumption⟩|(cases hQ;done)|skip
   cases hb:(!P.eqGuardType P.depth t)<;>rw[hb] at hQ<;>simp at hQ
   split at hQ<;>cases hQ
  obtain⟨m,ht⟩:=ht
  have h2:=(bY hW hF hy hY rfl).uu
  split at hb
  ·injection hb with hb
   subst hb
   have h1:=(bY hW hF hx hX rfl).uu
   have hr:(Op.equal t .nilIface .nilIface).run P w=.ok true w:=(fun d=>(by simp[Op.equalIn,run_underlying ht]:(Op.equalIn (d+1) t .nilIface .nilIface).run P w=.ok true w)) 9999
   refine fin h1 h2 ?_ (mS he hr (by rintro _ rfl;rfl) rfl)
   rcases ZD xY with ⟨v,rfl⟩|⟨v,rfl⟩
   ·cases op<;>simp[eqGuard]
   ·cases op<;>simp[eqGuard]
  ·injection hb with hb
   subst hb
   obtain⟨q,h1⟩:=(bY hW hF hx hX rfl).Mz
   have hr:∀ ti,(Op.equal t (.iface ti q) .nilIface).run P w=.ok false w:=fun ti=>(fun d=>(by simp[Op.equalIn,run_underlying ht]:(Op.equalIn (d+1) t (.iface ti q) .nilIface).run P w=.ok false w)) 9999
   exact fin h1 h2 (fg (by intro c;simp) (.inl (by simp))) (mS he (hr _) (by rintro _ rfl;rfl) rfl)
  ·cases hb
 ·
  obtain⟨h0,he⟩:=ab he
  simp only[aoP] at he
  obtain⟨b,hb,he⟩:=he
  have ht:∃ p q r,P.underlying t=some (.func p q r):=by
   generalize hQ:ni P t=Q at h0
   cases Q<;>simp only[reduceCtorEq] at h0
   unfold ni at hQ
   split at hQ<;>first|exact⟨_,_,_,by assumption⟩|(cases hQ;done)|skip
   cases hb:(!P.eqGuardType P.depth t)<;>rw[hb] at hQ<;>simp at hQ
   split at hQ<;>cases hQ
  obtain⟨p,q,r,ht⟩:=ht
  have h2:=(bY hW hF hy hY rfl).wa
  split at hb
  ·injection hb with hb
   subst hb
   have h1:=(bY hW hF hx hX rfl).wa
   have hr:(Op.equal t .nilFunc .nilFunc).run P w=.ok true w:=(fun d=>(by simp[Op.equalIn,run_underlying ht]:(Op.equalIn (d+1) t .nilFunc .nilFunc).run P w=.ok true w)) 9999
   exact fin h1 h2 (fg (by intro c;simp) (.inl (by simp))) (mS he hr (by rintro _ rfl;rfl) rfl)
  ·injection hb with hb
   subst hb
   obtain⟨fs,cs,h1,_⟩:=(bY hW hF hx hX rfl).rb
   have hr:∀ f,(Op.equal t (.func f fs cs) .nilFunc).run P w=.ok false w:=fun f=>(fun d=>(by simp[Op.equalIn,run_underlying ht]:(Op.equalIn (d+1) t (.func f fs cs) .nilFunc).run P w=.ok false w)) 9999
   exact fin h1 h2 (fg (by intro c;simp) (.inl (by simp))) (mS he (hr _) (by rintro _ rfl;rfl) rfl)
  ·cases hb
 ·cases he
end
end
section
section
variable {P:Program}{G:Nat->List AV}{base nt:Nat}{L:List Nat}{gh:Gh}{w:World}{a:Act}{s:AS}
def pt(gh:Gh)(n:Nat)(w:World)(C:Array Value)(X:List AV):Prop :=
 C.size=X.length/\∀ (j:Nat) (v:Value) (x:AV),C[j]?=some v->X[j]?=some x->VR gh n w v x/\v.oneCell'=true
theorem VR.dX{n:Nat}{v:Value}{x:AV}(h:VR gh n w v x)(hx:∀ cs,x≠.agg cs)(nM:∀ cs,x≠.tuple cs):v.oneCell'=true:=by
 cases h with
 | plain _ _ h=>exact h.dX
 | full=>rfl
 | ref=>rfl
 | sref=>rfl
 | mref=>rfl
 | func=>rfl
 | iface=>rfl
 | agg _ xs=>exact absurd rfl (hx xs)
 | tuple _ xs=>exact absurd rfl (nM xs)
theorem rL{n:Nat}{v:Value}{x:AV}{cs:List AV}(h:VR gh n w v x)(hc:x.cells=some cs):pt gh n w v.cells cs:=by
 have single:x.cells=some [x]->(∀ cs,x≠.agg cs)->(∀ cs,x≠.tuple cs)->pt gh n w v.cells cs:=by
  intro h1 h2 h3
  rw[h1] at hc
  injection hc with hc
  subst hc
  have fL:=h.dX h2 h3
  have:v.cells=#[v]:=by cases v<;>first|rfl|(simp[Value.oneCell'] at fL)
  rw[this]
  refine⟨rfl,fun j u y hu hy=>?_⟩
  cases j with
  | zero=>simp at hu hy;subst hu hy;exact⟨h,fL⟩
  | succ j=>simp at hu
 cases x
 case agg xs =>
  obtain⟨C,rfl,hs,fL,h⟩:=h.jD
  injection hc with hc
  subst hc
  exact⟨hs,fun j v x hv hx=>⟨h j v x hv hx,fL j v hv⟩⟩
 case any=>cases hc
 case tuple=>cases hc
 case lbox=>cases hc
 case lref=>cases hc
 case lsl=>cases hc
 case lsr=>cases hc
 case eref=>cases hc
 case iter=>cases hc
 all_goals exact single rfl (by intro cs h;cases h) (by intro cs h;cases h)
theorem pt.dropped{n:Nat}{C:Array Value}{X:List AV}(h:pt gh n w C X):pt gh n w C (X.map AV.drop):=by
 refine⟨by simp[h.1],fun j v x hv hx=>?_⟩
 simp only[ao1,aoO] at hx
 obtain⟨y,hy,rfl⟩:=hx
 exact⟨VR.dropped (h.2 j v y hv hy).1,(h.2 j v y hv hy).2⟩
theorem oq:∀ (l:List Value) (off k:Nat) (C:Array Value) (j:Nat),off+k+l.length<=C.size ->
  ((l.zipIdx k).foldl (fun cs (c,i)=>cs.setIfInBounds (off+i) c) C)[j]?=if off+k<=j/\j<off+k+l.length then l[j-(off+k)]? else C[j]?
 | [],off,k,C,j,h=>by simp;omega
 | v :: l,off,k,C,j,h=>by
  have h' : off+(k+1)+l.length<=(C.setIfInBounds (off+k) v).size:=by simp at h ⊢;omega
  rw[List.zipIdx_cons,aqt,oq l off (k+1) _ j h']
  by_cases h1:j=off+k
  ·subst h1
   have aU:off+k<C.size:=by simp at h;omega
   rw[if_neg (by omega),if_pos (by simp)]
   simp[aU]
  ·by_cases h2:off+(k+1)<=j/\j<off+(k+1)+l.length
   ·rw[if_pos h2,if_pos (by simp;omega)]
    have:j-(off+k)=j-(off+(k+1))+1:=by omega
    rw[this,apf]
   ·rw[if_neg h2,if_neg (by simp;omega),arc (by omega)]
theorem nv:∀ (l:List (Value × Nat)) (off:Nat) (C:Array Value),(l.foldl (fun cs (c,i)=>cs.setIfInBounds (off+i) c) C).size=C.size
 | [],off,C=>rfl
 | v :: l,off,C=>by rw[aqt,nv l off];simp
theorem r9{l cs:List AV}{off:Nat}(h:off+cs.length<=l.length)(j:Nat):(putAt l off cs)[j]?=if off<=j/\j<off+cs.length then cs[j-off]? else l[j]?:=by
 have aaC:min off l.length=off:=by omega
 unfold putAt
 simp only[apU,ao6,aqW,aaC,apa,apq]
 by_cases h1:j<off
 ·have e1:j<off+cs.length:=by omega
  rw[if_pos e1,if_pos h1,if_pos h1,if_neg (by omega)]
 ·by_cases h2:j<off+cs.length
  ·rw[if_pos h2,if_neg h1,if_pos ⟨by omega,h2⟩]
  ·rw[if_neg h2,if_neg (by omega)]
   congr 1;omega
theorem oZ{l cs:List AV}{off:Nat}(h:off+cs.length<=l.length):(putAt l off cs).length=l.length:=by
 unfold putAt;simp;omega
theorem pt.put{n:Nat}{C D:Array Value}{X Y:List AV}(h:pt gh n w C X)(hd:pt gh n w D Y){off:Nat}(hl:off+Y.length<=X.length) :
  pt gh n w (D.zipIdx.foldl (fun cs (c,i)=>cs.setIfInBounds (off+i) c) C) (putAt X off Y):=by
 have e:D.zipIdx.foldl (fun cs (c,i)=>cs.setIfInBounds (off+i) c) C=(D.toList.zipIdx 0).foldl (fun cs (c,i)=>cs.setIfInBounds (off+i) c) C:=by
  rw[<- Array.foldl_toList,Array.toList_zipIdx]
 rw[e]
 refine⟨by rw[nv,oZ hl,h.1],fun j v x hv hx=>?_⟩
 have hD:D.toList.length=Y.length:=by simpa using hd.1
 rw[oq _ _ _ _ _ (by rw[hD,h.1];omega)] at hv
 rw[r9 hl] at hx
 simp only[ap6,hD] at hv
 by_cases hc:off<=j/\j<off+Y.length
 ·rw[if_pos hc] at hv hx
  exact hd.2 _ v x (by simpa using hv) hx
 ·rw[if_neg hc] at hv hx
  exact h.2 j v x hv hx
theorem xL{n:Nat}{place:Nat->Option (Nat × Nat)} : ∀ (parts:List (Nat × Value)) (ip:List (Nat × Nat × AV)) (C:Array Value) (Z Z' : List AV),pt gh n w C Z->fz Z ip=some Z'->parts.length=ip.length ->
  (∀ (j:Nat) (p:Nat × Value) (q:Nat × Nat × AV),parts[j]?=some p->ip[j]?=some q->place p.1=some (q.1,q.2.1)/\(∀ cs,q.2.2.cells=some cs->pt gh n w p.2.cells cs)) ->
  ∃ C',Instr.fill place C parts=some C'/\pt gh n w C' Z'
 | [],[],C,Z,Z',h,hb,_,_=>by simp[fz] at hb;subst hb;exact⟨C,rfl,h⟩
 | p :: parts,q :: ip,C,Z,Z',h,hb,hl,hp=>by
  obtain⟨h1,h2⟩:=hp 0 p q rfl rfl
  obtain⟨i,v⟩:=p
  obtain⟨off,sz,x⟩:=q
  simp only[fz] at hb
  split at hb
  ·cases hb
  ·rename_i cs fi
   obtain⟨h3,fP⟩:=ab hb
   simp only[Bool.and_eq_true,dR,apc,Nat.ble_eq] at h3
   have hr:=h2 cs fi
   have gA:v.cells.size=sz:=by rw[hr.1];exact h3.1
   have hlen:(cs.map AV.drop).length=cs.length:=by simp
   obtain⟨C',hf,bE⟩:=xL parts ip _ _ Z' (h.put hr.dropped (off:=off) (by rw[hlen];exact h3.2)) fP (by simpa using hl) (fun j p q jQ YV=>hp (j+1) p q (by simpa using jQ) (by simpa using YV))
   refine⟨C',?_,bE⟩
   simp only at h1
   unfold Instr.fill
   rw[h1]
   have jg:¬ (decide (v.cells.size≠sz) || decide (off+v.cells.size>C.size))=true:=by
    have:=hr.1;have:=h.1
    simp;omega
   simp only
   rw[if_neg jg]
   exact hf
 | [],_ :: _,_,_,_,_,_,hl,_=>by simp at hl
 | _ :: _,[],_,_,_,_,_,hl,_=>by simp at hl
theorem Hc{n:Nat}{t:TypeId}{z:List AV}(h:la P t=some z):∃ i zv,P.info? t=some i/\i.zero=some zv/\pt gh n w zv.cells z:=by
 simp only[la,aoP] at h
 obtain⟨zv,⟨i,hi,hz⟩,hc⟩:=h
 obtain⟨h1,h2⟩:=iT (gh:=gh) (n:=n) (w:=w) hc
 exact⟨i,zv,hi,hz,by simpa using h1,fun j v x hv hx=>h2 j v x (by simpa using hv) hx⟩
theorem Ae{n:Nat}{v:Value}{x:AV}(h:jB v=some x):VR gh n w v (mA x):=by
 have hv:VR gh n w v x:=tS h
 unfold mA
 split
 ·unfold jB at h
  split at h<;>first|(cases h;done)|(injection h with h;cases h;done)|exact .plain _ _ .ae
 ·exact hv
theorem BR{n:Nat}{v:Value}{x:AV}(h:qJ v=some x):VR gh n w v (mA x):=by
 have h0:=iD (gh:=gh) (n:=n) (w:=w) h
 unfold qJ at h
 split at h
 ·simp only[aoO] at h
  obtain⟨l,_,rfl⟩:=h
  exact h0
 ·exact Ae h
theorem qK:∀ {vs:List Value} {xs:List AV},dk vs=some xs->∀ (j:Nat) (v:Value) (x:AV),vs[j]?=some v->xs[j]?=some x->jB v=some x
 | [],xs,h,j,v,x,hv,hx=>by simp at hv
 | u :: vs,xs,h,j,v,x,hv,hx=>by
  simp only[dk,aoP,aoO] at h
  obtain⟨y,hy,ys,Mu,rfl⟩:=h
  cases j with
  | zero=>simp at hv hx;subst hv hx;exact hy
  | succ j=>exact qK Mu j v x (by simpa using hv) (by simpa using hx)
theorem pj{n:Nat}{t:TypeId}{b:Bool}{z:List AV}(h:(la P t).map (fun z=>cond b (z.map mA) z)=some z):∃ i zv,P.info? t=some i/\i.zero=some zv/\pt gh n w zv.cells z:=by
 simp only[aoO] at h
 obtain⟨z0,h0,rfl⟩:=h
 obtain⟨i,zv,h1,h2,h3⟩:=Hc (gh:=gh) (n:=n) (w:=w) h0
 refine⟨i,zv,h1,h2,?_⟩
 cases b with
 | false=>exact h3
 | true =>
  refine⟨by simpa using h3.1,fun j v x hv hx=>?_⟩
  simp only[cond_true,ao1,aoO] at hx
  obtain⟨y,hy,rfl⟩:=hx
  simp only[la,aoP] at h0
  obtain⟨zv',⟨i',jT,IV⟩,hc⟩:=h0
  rw[h1] at jT
  injection jT with jT
  subst jT
  rw[h2] at IV
  injection IV with IV
  subst IV
  exact⟨Ae (qK hc j v y (by simpa using hv) hy),(h3.2 j v y hv hy).2⟩
theorem oY(hW:aK G base s.H gh w)(hF:FR L nt gh w a s){x:Operand}{y:an}(hc:ak nt x=some y):∀ cs,(y.eval G s.T).drop.cells=some cs->pt gh s.H.length w (a.eval x).cells cs:=by
 intro cs fi
 have hf:al (y.eval G s.T)=true:=by
  rw[<- gy]
  generalize (y.eval G s.T).drop=Y at fi
  cases Y<;>first|rfl|cases fi
 exact rL (bY hW hF hc rfl hf) fi
theorem wD(hW:aK G base s.H gh w)(hF:FR L nt gh w a s){o:Oper}{t:TypeId}{parts:Array (Nat × Operand)}{fs:Array Go.Field}{z Z:List AV}{ps:List (Nat × Nat × an)}
  (ho:o.op=.build t parts) {kp:Bool} (hz:(la P t).map (fun z=>cond kp (z.map mA) z)=some z) (hu:P.underlying t=some (.struct fs)) (hp:mP P nt fs.toList parts.toList=some ps)
  (dq:∃ pl,fs.toList.mapM (fun f=>(P.info? f.type).map fun i=>(f.offset,i.size))=some pl)
  (he:fz z (ps.map fun p=>(p.1,p.2.1,(p.2.2.eval G s.T).drop))=some Z) :
  ∃ v,(execOp a.eval o).run P w=.ok (.value v) w/\lZ gh s.H.length nt w s.T s.gen (fj a) v (.agg Z):=by
 obtain⟨i,zv,hi,Mv,bE⟩:=pj (gh:=gh) (n:=s.H.length) (w:=w) hz
 obtain⟨pl,mf⟩:=dq
 have inv:∀ (l:List (Nat × Operand)) (ps:List (Nat × Nat × an)),mP P nt fs.toList l=some ps->l.length=ps.length /\
   ∀ (j:Nat) (p:Nat × Operand) (q:Nat × Nat × an),l[j]?=some p->ps[j]?=some q->(∃ f,fs.toList[p.1]?=some f/\de P f.type=some q.2.1/\f.offset=q.1)/\ak nt p.2=some q.2.2:=by
  intro l
  induction l with
  | nil=>intro ps h;simp[mP] at h;subst h;exact⟨rfl,fun j p q h=>by simp at h⟩
  | cons p l ih =>
   intro ps h
   obtain⟨k,x⟩:=p
   simp only[mP,aoP,aoO] at h
   obtain⟨f,hf,sz,gA,y,hy,rest,hr,rfl⟩:=h
   obtain⟨h1,h2⟩:=ih rest hr
   refine⟨by simp[h1],fun j p q hp hq=>?_⟩
   cases j with
   | zero=>simp at hp hq;subst hp hq;exact⟨⟨f,hf,gA,rfl⟩,hy⟩
   | succ j=>exact h2 j p q (by simpa using hp) (by simpa using hq)
 obtain⟨hl,hinv⟩:=inv _ _ hp
 have aaM:∀ (k:Nat) (f:Go.Field) (sz:Nat),fs.toList[k]?=some f->de P f.type=some sz->pl.toArray[k]?=some (f.offset,sz):=by
  have gen:∀ (l:List Go.Field) (pl:List (Nat × Nat)),l.mapM (fun f=>(P.info? f.type).map fun i=>(f.offset,i.size))=some pl->∀ (k:Nat) (f:Go.Field) (sz:Nat),l[k]?=some f->de P f.type=some sz->pl[k]?=some (f.offset,sz):=by
   intro l
   induction l with
   | nil=>intro pl _ k f sz h;simp at h
   | cons g l ih =>
    intro pl h k f sz hk hs
    simp only[List.mapM_cons,Option.bind_eq_bind,Option.pure_def,aoP,aoO] at h
    obtain⟨q,⟨ii,Mj,rfl⟩,rest,hr,h⟩:=h
    injection h with h
    subst h
    cases k with
    | zero =>
     simp at hk;subst hk
     obtain⟨i',jT,qy⟩:=mH hs
     rw[jT] at Mj;injection Mj with Mj;subst Mj;simp[qy]
    | succ k=>simpa using ih rest hr k f sz (by simpa using hk) hs
  intro k f sz hk hs
  simpa using gen _ _ mf k f sz hk hs
 obtain⟨C',hf,ui⟩:=xL (gh:=gh) (w:=w) (n:=s.H.length) (place:=fun x=>pl.toArray[x]?) ((parts.map fun p=>(p.1,a.eval p.2)).toList) (ps.map fun p=>(p.1,p.2.1,(p.2.2.eval G s.T).drop)) zv.cells z Z bE he (by simpa using hl) (by
  intro j p q hp hq
  simp only[ara,ao1,aoO] at hp hq
  obtain⟨p0,Tx,rfl⟩:=hp
  obtain⟨q0,Mr,rfl⟩:=hq
  obtain⟨⟨f,hf,hs,mG⟩,hc⟩:=hinv j p0 q0 Tx Mr
  exact⟨by rw[aaM _ f _ hf hs,mG],oY hW hF hc⟩)
 have hb:P.built t (parts.map fun p=>(p.1,a.eval p.2)).toList=some C':=by
  unfold Program.built
  rw[hi,hu]
  simp only[Mv,mf]
  exact hf
 refine⟨.agg C',by simp[execOp,ho,run_build w t _ C' hb],.cF (.agg _ _ ui.1 (fun j v hj=>?_) (fun j v x hv hx=>(ui.2 j v x hv hx).1))⟩
 have aU:j<Z.length:=by rw[<- ui.1];exact (aoY.1 hj).1
 exact (ui.2 j v _ hj (aoT aU)).2
end
end
section
section
variable {G:Nat->List AV}{base nt:Nat}{L:List Nat}{gh:Gh}{w w' : World}{a:Act}{s:AS}{H:ah}
def Gh.alloc(gh:Gh)(b:Nat)(p:ba)(q:Nat->Prop):Gh:={ S:=fun b' o=>gh.S b' o\/(b'=b/\q o),κ:=fun b'=>if b'=b then p else gh.κ b',ρ:=gh.ρ }
structure dJ (w w' : World) (o:Obj):Prop where
 heap:w'.heap=w.heap.push o
 os:w'.os=w.os
 tape:w'.tape=w.tape
 output:w'.output=w.output
theorem dJ.alloc(w:World)(o:Obj):dJ w (w.alloc o) o:=⟨rfl,rfl,rfl,rfl⟩
theorem dJ.drew(w:World)(o:Obj):dJ w (w.drew.alloc o) o:=⟨rfl,rfl,rfl,rfl⟩
theorem dJ.old{o:Obj}(h:dJ w w' o)(b:Nat)(hb:b<w.heap.size):w'.heap[b]?=w.heap[b]?:=by
 rw[h.heap,aqv,if_neg (by omega)]
theorem dJ.new{o:Obj}(h:dJ w w' o):w'.heap[w.heap.size]?=some o:=by
 rw[h.heap,aqv,if_pos rfl]
theorem dJ.size{o:Obj}(h:dJ w w' o):w'.heap.size=w.heap.size+1:=by rw[h.heap];simp
theorem cell_of_heap{b o:Nat}(h:w'.heap[b]?=w.heap[b]?):w'.cell? ⟨b,o,none⟩=w.cell? ⟨b,o,none⟩:=by simp[World.cell?,h]
theorem aK.bG(hW:aK G base H gh w)(b:Nat)(hb:w.heap.size<=b):gh.κ b≠.outer:=by rw[hW.fresh b hb];simp
theorem gT(hW:aK G base H gh w){o:Obj}(hp:dJ w w' o){p:ba}(bB:p≠.outer)(q:Nat->Prop)(n:Nat):Step (fun _=>False) n gh w (gh.alloc w.heap.size p q) w':=by
 refine⟨fun b o h=>.inl h,fun b o h=>cell_of_heap (hp.old b (hW.mX b o h)),by rw[hp.size];omega,hp.os,hp.tape,hp.output,?_,?_,fun _ _=>rfl,fun b ty m hb=>by
  obtain⟨C,fr,h1,h2⟩:=hb
  exact⟨C,fr,by rw[hp.old b (aoY.1 h1).1];exact h1,h2⟩,fun b E ck hs hb=>by rw[hp.old b (hW.mX b 0 hs)];exact hb⟩
 ·intro b hb _
  have zC:b≠w.heap.size:=by omega
  refine⟨.inl (hp.old b hb),by simp[Gh.alloc,zC],fun o ho=>?_⟩
  rcases ho with ho|⟨e,_⟩
  ·exact ho
  ·exact absurd e zC
 ·intro b hb
  show (if b=w.heap.size then p else gh.κ b)≠.outer
  split
  ·exact bB
  ·exact hW.bG b hb
theorem mO(hW:aK G base H gh w){o:Obj}(hp:dJ w w' o){p:ba}(bB:p≠.outer)(q:Nat->Prop)(n:Nat):Ext n gh w (gh.alloc w.heap.size p q) w':=by
 refine⟨(gT hW hp bB q n).mono (fun _ h=>h.elim),fun b hb=>?_⟩
 have fP:(if b=w.heap.size then p else gh.κ b)=.outer:=hb
 split at fP
 ·exact absurd fP bB
 ·exact fP
theorem aK.step{touch:ba->Prop}{aH:Gh}(hW:aK G base H gh w)(st:Step touch H.length gh w aH w')(ht:∀ l,¬ touch (.hb l)/\∀ j,¬ touch (.hs l j))
  (hs:∀ b o,aH.S b o->b<w'.heap.size) (hk:∀ b,aH.κ b≠.none->base<=b/\b<w'.heap.size)
  (qt:∀ b o m,aH.S b o->gh.S b o\/(w'.cell? ⟨b,o,none⟩=some (.int .u8 m)->∃ C fr,w'.heap[b]?=some (.cells C iF fr))):aK G base H aH w':=by
 refine⟨apV hW.size st.size,hs,hk,fun g j x hx=>?_,fun loc ty cs hl=>?_,hW.refs,fun g hg=>(hW.wL g hg).imp fun ty h=>st.len g ty _ h,hW.j4 st qt,fun loc o hl=>?_,fun loc ty cs hl=>?_⟩
 ·obtain⟨v,h1,h2,h3⟩:=hW.aN g j x hx
  exact⟨v,(st.cell g j h3).trans h1,h2.mono st.S st.cell st.mp,st.S g j h3⟩
 ·have aU:loc<H.length:=(aoR.1 hl).1
  have h:=(hW.boxes loc ty cs hl).mono st (aoU _) (ht loc).1 (ht loc).2
  rw[st.ρ loc aU];exact h
 ·rw[st.ρ loc (aoR.1 hl).1]
  exact (hW.more loc o hl).mono st (aoU _) (ht loc).1 (ht loc).2
 ·rw[st.ρ loc (aoR.1 hl).1]
  exact fun hf=>st.len _ _ _ (hW.types loc ty cs hl hf)
theorem aK.alloc(hW:aK G base H gh w){o:Obj}(hp:dJ w w' o){p:ba}(bB:p≠.outer)(q:Nat->Prop)
  (hq:∀ k m,q k->w'.cell? ⟨w.heap.size,k,none⟩=some (.int .u8 m)->∃ C fr,w'.heap[w.heap.size]?=some (.cells C iF fr)):aK G base H (gh.alloc w.heap.size p q) w':=by
 refine hW.step (gT hW hp bB q H.length) (fun l=>⟨id,fun _=>id⟩) ?_ ?_ (fun b k m h=>h.elim .inl (fun ⟨e,hk⟩=>.inr (by subst e;exact hq k m hk)))
 ·intro b o ho
  rw[hp.size]
  rcases ho with ho|⟨rfl,_⟩
  ·have:=hW.mX b o ho;omega
  ·omega
 ·intro b hb
  rw[hp.size]
  have fP:(if b=w.heap.size then p else gh.κ b)≠.none:=hb
  split at fP
  ·rename_i e
   have:=hW.size
   omega
  ·have:=hW.ow b fP;omega
def Gh.ma(gh:Gh)(b:Nat)(p:ba):Gh:={ gh with κ:=fun b'=>if b'=b then p else gh.κ b' }
theorem iU(hW:aK G base H gh w){b:Nat}(hb:b<w.heap.size)(p:ba)(n:Nat):Step (fun r=>r=gh.κ b) n gh w (gh.ma b p) w:=by
 refine⟨fun _ _ h=>h,fun _ _ _=>rfl,aoU _,rfl,rfl,rfl,fun b' fP hn=>⟨.inl rfl,?_,fun _ h=>h⟩,fun b' fP=>?_,fun _ _=>rfl,fun _ _ _ h=>h,fun _ _ _ _ h=>h⟩
 ·have bB:b'≠b:=by rintro rfl;exact hn rfl
  simp[Gh.ma,bB]
 ·have bB:b'≠b:=by omega
  simp only[Gh.ma,if_neg bB]
  exact hW.bG b' fP
theorem qQ(hW:aK G base H gh w){b:Nat}(hb:b<w.heap.size){p:ba}(hp:p≠.outer)(h0:gh.κ b≠.none)(h1:gh.κ b≠.outer)(n:Nat):Ext n gh w (gh.ma b p) w:=by
 refine⟨(iU hW hb p n).mono (fun r h=>by rw[h];exact⟨h0,h1⟩),fun b' fP=>?_⟩
 have iO:(if b'=b then p else gh.κ b')=.outer:=fP
 split at iO
 ·exact absurd iO hp
 ·exact iO
theorem ID(hW:aK G base H gh w){b:Nat}(hb:b<w.heap.size)(p:ba)(h0:gh.κ b≠.none)(ht:∀ l,gh.κ b≠.hb l/\∀ j,gh.κ b≠.hs l j):aK G base H (gh.ma b p) w:=by
 refine hW.step (iU hW hb p H.length) (fun l=>⟨fun h=>(ht l).1 h.symm,fun j h=>(ht l).2 j h.symm⟩) hW.mX ?_ (fun _ _ _ h=>.inl h)
 intro b' fP
 have iO:(if b'=b then p else gh.κ b')≠.none:=fP
 split at iO
 ·rename_i e;rw[e];exact hW.ow b h0
 ·exact hW.ow b' iO
theorem pa(hW:aK G base H gh w){b:Nat}{C C' : Array Value}{ty:TypeId}{fr:Nat × Nat}(hb:w.heap[b]?=some (.cells C ty fr))(gA:C'.size=C.size)(q:Nat->Prop)
  (cL:∀ o,gh.S b o->C'[o]?=C[o]?) (p:ba) (n:Nat) :
  Step (fun r=>r=gh.κ b) n gh w { gh with S:=fun b' o=>gh.S b' o\/(b'=b/\q o),κ:=fun b'=>if b'=b then p else gh.κ b' } (w.setRow b C'):=by
 have aU:b<w.heap.size:=(aoY.1 hb).1
 refine⟨fun b o h=>.inl h,fun b' o h=>?_,by simp,rfl,rfl,rfl,fun b' fP hn=>?_,fun b' fP=>?_,fun _ _=>rfl,fun b' kC m hm=>by
  obtain⟨D,fr',h1,h2⟩:=hm
  by_cases e:b'=b
  ·subst e
   rw[hb] at h1
   injection h1 with h1
   injection h1 with h1 h3 h4
   subst h1 h3
   exact⟨C',fr,setRow_heap w b' C C' ty fr hb,by rw[gA,h2]⟩
  ·exact⟨D,fr',by rw[setRow_other w b b' C' e];exact h1,h2⟩,fun b' E ck hs hm=>by
  have e:b'≠b:=by rintro rfl;rw[hb] at hm;cases hm
  rw[setRow_other w b b' C' e];exact hm⟩
 ·by_cases e:b'=b
  ·subst e
   rw[cell_setRow_same w b' o C C' ty fr hb,cL o h]
   simp[World.cell?,hb]
  ·exact cell_of_heap (setRow_other w b b' C' e)
 ·have bB:b'≠b:=by rintro rfl;exact hn rfl
  refine⟨.inl (setRow_other w b b' C' bB),by simp[bB],fun o ho=>?_⟩
  rcases ho with ho|⟨e,_⟩
  ·exact ho
  ·exact absurd e bB
 ·have bB:b'≠b:=by omega
  simp only[if_neg bB]
  exact hW.bG b' fP
theorem wY(hW:aK G base H gh w){b:Nat}{C C' : Array Value}{ty:TypeId}{fr:Nat × Nat}(hb:w.heap[b]?=some (.cells C ty fr))(gA:C'.size=C.size)(q:Nat->Prop)
  (cL:∀ o,gh.S b o->C'[o]?=C[o]?) {p:ba} (hp:p≠.outer) (h0:gh.κ b≠.none) (h1:gh.κ b≠.outer) (n:Nat) :
  Ext n gh w { gh with S:=fun b' o=>gh.S b' o\/(b'=b/\q o),κ:=fun b'=>if b'=b then p else gh.κ b' } (w.setRow b C'):=by
 refine⟨(pa hW hb gA q cL p n).mono (fun r h=>by rw[h];exact⟨h0,h1⟩),fun b' fP=>?_⟩
 have iO:(if b'=b then p else gh.κ b')=.outer:=fP
 split at iO
 ·exact absurd iO hp
 ·exact iO
theorem KV(hW:aK G base H gh w){b:Nat}{C C' : Array Value}{ty:TypeId}{fr:Nat × Nat}(hb:w.heap[b]?=some (.cells C ty fr))(gA:C'.size=C.size)(q:Nat->Prop)
  (cL:∀ o,gh.S b o->C'[o]?=C[o]?) (hq:∀ k m,q k->C'[k]?=some (.int .u8 m)->ty=iF) (p:ba) (h0:gh.κ b≠.none) (ht:∀ l,gh.κ b≠.hb l/\∀ j,gh.κ b≠.hs l j) :
  aK G base H { gh with S:=fun b' o=>gh.S b' o\/(b'=b/\q o),κ:=fun b'=>if b'=b then p else gh.κ b' } (w.setRow b C'):=by
 have aU:b<w.heap.size:=(aoY.1 hb).1
 refine hW.step (pa hW hb gA q cL p H.length) (fun l=>⟨fun h=>(ht l).1 h.symm,fun j h=>(ht l).2 j h.symm⟩) ?_ ?_ (fun b' k m h=>h.elim .inl (fun ⟨e,hk⟩=>.inr (fun hc=>by
   subst e
   rw[cell_setRow_same w b' k C C' ty fr hb] at hc
   have:=hq k m hk hc
   subst this
   exact⟨C',fr,setRow_heap w b' C C' _ fr hb⟩)))
 ·intro b' o ho
  simp
  rcases ho with ho|⟨rfl,_⟩
  ·exact hW.mX b' o ho
  ·exact aU
 ·intro b' fP
  simp
  have iO:(if b'=b then p else gh.κ b')≠.none:=fP
  split at iO
  ·rename_i e;rw[e];exact hW.ow b h0
  ·exact hW.ow b' iO
theorem FR.br{aH:Gh}{touch:ba->Prop}(h:FR L nt gh w a s)(st:Step touch s.H.length gh w aH w'){t:Nat}{X:AV}{H' : ah}{lo' : Nat}(hH:s.H.length<=H'.length)
  (ht:∀ i,i≠t->¬ touch (.bx i)/\¬ touch (.sl i)/\∀ j,¬ touch (.sc i j))
  (hX:(t<nt/\aO X=aO (s.T t))\/aO X=none) (hsr:t<nt->SR aH H'.length nt w' s.T s.gen (fj a) t (fj a t) X) :
  FR L nt aH w' a (({ s with H:=H',lo:=lo' } : AS).br t X):=by
 refine h.update st h.defers h.size hH (aoU _) (fun i=>i=t) ?_ ?_ ?_
 ·intro i hi
  exact⟨by simp[AS.br,db,hi],fun _=>⟨rfl,ht i hi⟩⟩
 ·rintro i rfl
  simp only[AS.br,db,ap4]
  rcases hX with ⟨h1,h2⟩|h1
  ·exact .inl ⟨h1,h2,trivial⟩
  ·exact .inr (.inl h1)
 ·rintro i rfl hi
  simp only[AS.br,db,ap4]
  refine SR.mono (touch:=fun _=>False) (n:=H'.length) (gh:=aH) (w:=w') (Step.refl _ _ _ _ (fun b hb=>st.fresh b (apV st.size hb))) (aoU _) (aoU _) id id (fun _=>id) ?_ (hsr hi)
  intro k hk
  by_cases NK:k=i
  ·subst NK
   rcases hX with ⟨h1,h2⟩|h1
   ·exact .inl (by rw[db,if_pos rfl];exact⟨h2,rfl⟩)
   ·exact .inr (.inl (by simp[db,h1]))
  ·exact .inl ⟨by simp[db,NK],rfl⟩
theorem FR.Sx(h:FR L nt gh w a s){gen' : Nat}(hg:s.gen<=gen')(dA:∀ b,w.heap.size<=b->gh.κ b≠.outer)(d:Option Nat)(hd:∀ k,d=some k->k<nt){v:Value}{x:AV}
  (hx:aO x=none\/((∃ g,s.gen<=g/\aO x=some g)/\∀ k,d=some k->k∈L))
  (hv:∀ k,d=some k->SR gh s.H.length nt w s.T gen' (fj a) k v x):FR L nt gh w (a.put d v) (({ s with gen:=gen' } : AS).bM d x):=by
 have st:Step (fun _=>False) s.H.length gh w gh w:=Step.refl _ _ _ _ dA
 cases d with
 | none=>exact h.update st h.defers h.size (aoU _) hg (fun _=>False) (fun i _=>⟨rfl,fun _=>⟨rfl,id,id,fun _=>id⟩⟩) (fun _ h=>h.elim) (fun _ h=>h.elim)
 | some d =>
  have aU:=hd d rfl
  have gA:d<a.tmps.size:=by rw[h.size];exact aU
  refine h.update (s':=({ s with gen:=gen' } : AS).bM (some d) x) st ((wm a (some d) v).trans h.defers) ((GU a (some d) v).trans h.size) (aoU _) hg (fun i=>i=d) ?_ ?_ ?_
  ·intro i hi
   exact⟨by simp[AS.bM,AS.br,db,hi],fun _=>⟨by rw[oc a d v i gA,if_neg hi],id,id,fun _=>id⟩⟩
  ·rintro i rfl
   simp only[AS.bM,AS.br,db,ap4]
   rcases hx with hx|⟨⟨g,hg1,hg2⟩,hl⟩
   ·exact .inr (.inl hx)
   ·exact .inr (.inr ⟨hl i rfl,g,hg1,hg2⟩)
  ·rintro i rfl hi
   simp only[AS.bM,AS.br,db,ap4]
   rw[oc a i v i gA,if_pos rfl]
   have tE:=hv i rfl
   cases x
   case lref b g off =>
    obtain⟨h1,h2,h3⟩:=tE
    refine⟨h1,h2,fun x4 b' fP=>?_⟩
    by_cases Pj:b=i
    ·subst Pj;simp[db,aO] at x4
    ·simp only[db,if_neg Pj] at x4
     rw[oc a i v b gA,if_neg Pj] at fP
     exact h3 x4 b' fP
   case lsr b g =>
    obtain⟨h1,h2,h3⟩:=tE
    refine⟨h1,h2,fun x4=>?_⟩
    by_cases Pj:b=i
    ·subst Pj;simp[db,aO] at x4
    ·simp only[db,if_neg Pj] at x4
     rw[oc a i v b gA,if_neg Pj]
     exact h3 x4
   case eref b g r z off =>
    obtain⟨h1,h2,h3⟩:=tE
    refine⟨h1,h2,fun x4 b' k cap fP=>?_⟩
    by_cases Pj:b=i
    ·subst Pj;simp[db,aO] at x4
    ·simp only[db,if_neg Pj] at x4
     rw[oc a i v b gA,if_neg Pj] at fP
     exact h3 x4 b' k cap fP
   all_goals exact tE
end
end
section
section
variable {P:Program}{G:Nat->List AV}{base nt:Nat}{L:List Nat}{gh:Gh}{w:World}{a:Act}{s:AS}
structure Out (G:Nat->List AV) (base nt:Nat) (L:List Nat) (gh:Gh) (w:World) (a:Act) (s:AS) (d:Option Nat) (x:AV) (s' : AS) (v' : Value) (aH:Gh) (w' : World):Prop where
 W:aK G base s'.H aH w'
 F:FR L nt aH w' (a.put d v') (s'.bM d x)
 E:Ext s.H.length gh w aH w'
def sm(P:Program)(a:Act)(o:Oper)(w:World)(v' : Value)(w' : World):Prop :=
 (execOp a.eval o).run P w=.ok (.value v') w'\/((execOp a.eval o).run P w=.ok .skip w'/\v'=undef)
theorem sm.wp{o:Oper}{v' : Value}{w' : World}{K:Act->World->Prop}{Q:Exit->Act->World->Prop}(h:sm P a o w v' w')(hK:K (a.put o.dst v') w'):o.wp P a w K Q:=by
 unfold Oper.wp
 rcases h with h|⟨h,rfl⟩
 ·rw[h];exact hK
 ·rw[h];exact hK
theorem Out.pure(hW:aK G base s.H gh w)(hF:FR L nt gh w a s){d:Option Nat}(hd:∀ k,d=some k->k<nt){v:Value}{x:AV}(hv:lZ gh s.H.length nt w s.T s.gen (fj a) v x) :
  Out G base nt L gh w a s d x s v gh w:=by
 refine⟨hW,?_,Ext.refl _ _ _ (fun b hb=>hW.bG b hb)⟩
 have:=hF.put (touch:=fun _=>False) (H':=s.H) (lo':=s.lo) (Step.refl _ _ _ _ (fun b hb=>hW.bG b hb)) (fun i=>⟨id,id,fun _=>id⟩) (aoU _) d hd hv
 exact this
theorem S9{n:Nat}{T:aw}{gen:Nat}{tm:Nat->Value}{i:Nat}{v:Value}{e:List (List AV)}{own:Bool}(h:CR gh n w (.sl i) v (.slice e own)):SR gh n nt w T gen tm i v (.slice e own):=h
def ik(S:Nat->Nat->Prop)(w:World)(sz:Nat)(C:Array Value)(E:List (List AV)):Prop :=
 C.size=E.length*sz/\(∀ (i:Nat) (r:List AV),E[i]?=some r->r.length=sz) /\
  ∀ (i j:Nat) (r:List AV) (x:AV),E[i]?=some r->r[j]?=some x->∃ v,C[i*sz+j]?=some v/\PR S w v x
theorem VR.jX{n:Nat}{v:Value}{x:AV}(h:VR gh n w v x)(hp:x.plain=true):PR gh.S w v x:=by
 cases h with
 | plain _ _ h=>exact h
 | full=>simp[AV.plain] at hp
 | ref=>simp[AV.plain] at hp
 | sref=>simp[AV.plain] at hp
 | mref=>simp[AV.plain] at hp
 | func f fs cs xs ys hf hc h1 h2 =>
  cases xs<;>cases ys<;>simp[AV.plain] at hp
  have e1:fs=#[]:=aqK hf
  have e2:cs=#[]:=aqK hc
  subst e1 e2
  exact .func f
 | iface t v x h =>
  cases x<;>simp[AV.plain] at hp
  all_goals
   cases h with
   | plain _ _ h=>exact .iface _ _ _ h
 | agg=>simp[AV.plain] at hp
 | tuple=>simp[AV.plain] at hp
theorem OM{n:Nat}{v:Value}{x:AV}{sz:Nat}{cs:List AV}(hx:∀ ds,x.cells=some ds->pt gh n w v.cells ds)(he:x.elem sz=some cs) :
  v.cells.size=sz/\cs.length=sz/\∀ (j:Nat) (y:AV),cs[j]?=some y->∃ u,v.cells[j]?=some u/\PR gh.S w u y:=by
 unfold AV.elem at he
 split at he
 ·cases he
 ·rename_i ds wE
  obtain⟨h1,h2⟩:=ab he
  injection h2 with h2
  subst h2
  simp only[Bool.and_eq_true,dR,apc] at h1
  have hr:=(hx ds wE).dropped
  refine⟨by rw[hr.1];exact h1.1,h1.1,fun j y hy=>?_⟩
  have hj:j<v.cells.size:=by rw[hr.1];exact (aoR.1 hy).1
  have hv:v.cells[j]?=some v.cells[j]:=ao2 hj
  exact⟨_,hv,((hr.2 j _ y hv hy).1).jX (aoV.1 h1.2 y (ao0 hy))⟩
theorem tp{i n sz j:Nat}(hi:i<n)(hj:j<sz):i*sz+j<n*sz:=by
 have:(i+1)*sz<=n*sz:=apl _ hi
 rw[apy] at this
 omega
theorem ik.put{S:Nat->Nat->Prop}{sz:Nat}{C D:Array Value}{E:List (List AV)}{cs:List AV}{i:Nat}(h:ik S w sz C E)(hi:i<E.length)(hD:D.size=sz)(fi:cs.length=sz)
  (cr:∀ (j:Nat) (y:AV),cs[j]?=some y->∃ u,D[j]?=some u/\PR S w u y):ik S w sz (D.zipIdx.foldl (fun q (c,k)=>q.setIfInBounds (i*sz+k) c) C) (E.set i cs):=by
 have e:D.zipIdx.foldl (fun q (c,k)=>q.setIfInBounds (i*sz+k) c) C=(D.toList.zipIdx 0).foldl (fun q (c,k)=>q.setIfInBounds (i*sz+k) c) C:=by
  rw[<- Array.foldl_toList,Array.toList_zipIdx]
 have hDl:D.toList.length=sz:=by simpa using hD
 have hle:i*sz+sz<=C.size:=by
  have:(i+1)*sz<=E.length*sz:=apl _ hi
  rw[apy] at this
  rw[h.1];omega
 rw[e]
 refine⟨by rw[nv,h.1];simp,fun k r hk=>?_,fun k j r x hk hj=>?_⟩
 ·rw[apr] at hk
  split at hk
  ·rename_i NK
   subst NK
   injection hk with hk;subst hk;exact fi
  ·exact h.2.1 k r hk
 ·rw[oq _ _ _ _ _ (by rw[hDl];omega)]
  simp only[ap6,hDl]
  rw[apr] at hk
  split at hk
  ·rename_i NK
   subst NK
   ·injection hk with hk
    subst hk
    have Dr:j<sz:=by rw[<- fi];exact (aoR.1 hj).1
    rw[if_pos ⟨by omega,by omega⟩]
    obtain⟨u,hu,hp⟩:=cr j x hj
    refine⟨u,?_,hp⟩
    rw[show i*sz+j-i*sz=j by omega]
    simpa using hu
  ·rename_i NK
   have Dr:j<sz:=by rw[<- h.2.1 k r hk];exact (aoR.1 hj).1
   have jg:¬ (i*sz<=k*sz+j/\k*sz+j<i*sz+sz):=by
    rintro ⟨c1,c2⟩
    have:i=k:=by
     rcases aqo i k with h'|h'|h'
     ·have:(i+1)*sz<=k*sz:=apl _ h'
      rw[apy] at this;omega
     ·exact h'
     ·have:(k+1)*sz<=i*sz:=apl _ h'
      rw[apy] at this;omega
    exact NK this
   rw[if_neg jg]
   exact h.2.2 k j r x hk hj
theorem At{S:Nat->Nat->Prop}{sz:Nat} : ∀ (parts:List (Nat × Value)) (ip:List (Nat × AV)) (C:Array Value) (E E' : List (List AV)),ik S w sz C E->cA sz E ip=some E'->parts.length=ip.length ->
  (∀ (j:Nat) (p:Nat × Value) (q:Nat × AV),parts[j]?=some p->ip[j]?=some q->p.1=q.1/\∀ cs,q.2.elem sz=some cs->p.2.cells.size=sz/\cs.length=sz/\∀ (j:Nat) (y:AV),cs[j]?=some y->∃ u,p.2.cells[j]?=some u/\PR S w u y) ->
  ∃ C',Instr.fill (fun i=>some (i*sz,sz)) C parts=some C'/\ik S w sz C' E'
 | [],[],C,E,E',h,hb,_,_=>by simp[cA] at hb;subst hb;exact⟨C,rfl,h⟩
 | p :: parts,q :: ip,C,E,E',h,hb,hl,hp=>by
  obtain⟨h1,h2⟩:=hp 0 p q rfl rfl
  obtain⟨i,v⟩:=p
  obtain⟨i',x⟩:=q
  simp only at h1
  subst h1
  simp only[cA] at hb
  split at hb
  ·cases hb
  ·rename_i cs fi
   obtain⟨h3,fP⟩:=ab hb
   have hi:i<E.length:=by simpa [api] using h3
   obtain⟨c1,c2,c3⟩:=h2 cs fi
   obtain⟨C',hf,bE⟩:=At parts ip _ _ E' (h.put hi c1 c2 c3) fP (by simpa using hl) (fun j p q jQ YV=>hp (j+1) p q (by simpa using jQ) (by simpa using YV))
   refine⟨C',?_,bE⟩
   unfold Instr.fill
   simp only
   have hle:i*sz+sz<=C.size:=by
    have:(i+1)*sz<=E.length*sz:=apl _ hi
    rw[apy] at this
    rw[h.1];omega
   have jg:¬ (decide (v.cells.size≠sz) || decide (i*sz+v.cells.size>C.size))=true:=by
    simp at c1;simp;omega
   rw[if_neg jg]
   exact hf
 | [],_ :: _,_,_,_,_,_,hl,_=>by simp at hl
 | _ :: _,[],_,_,_,_,_,hl,_=>by simp at hl
theorem ik.slice{S:Nat->Nat->Prop}{sz:Nat}{C:Array Value}{E:List (List AV)}{w' : World}{ty:TypeId}(h:ik S w sz C E){gh:Gh}(hS:gh.S=S){C' : Array Value}{p:ba}(hp:dJ w w' (.cells C' ty))
  (hW:∀ b o,S b o->b<w.heap.size) (hC:∀ j,j<C.size->C'[j]?=C[j]?) {q:Nat->Prop} (hq:∀ j,j<E.length*sz->q j) (cap:Nat) (jC:E.length<=cap) :
  PR (gh.alloc w.heap.size p q).S w' (.slice (some ⟨w.heap.size,0,none⟩) E.length cap) (.slice E false):=by
 subst hS
 have key:∀ (i j:Nat) (r:List AV) (x:AV),E[i]?=some r->r[j]?=some x->∃ v,C[i*sz+j]?=some v/\PR gh.S w v x/\i*sz+j<E.length*sz:=by
  intro i j r x hi hj
  obtain⟨v,hv,vi⟩:=h.2.2 i j r x hi hj
  exact⟨v,hv,vi,by rw[<- h.1];exact (aoY.1 hv).1⟩
 refine .slice w.heap.size 0 E.length cap sz E (fun i j=>C.getD (i*sz+j) undef) rfl jC h.2.1 ?_ ?_
 ·intro i j r x hi hj
  obtain⟨v,hv,vi,aU⟩:=key i j r x hi hj
  have gW:i*sz+j<C.size:=by rw[h.1];exact aU
  have hg:C.getD (i*sz+j) undef=v:=by
   rw[ao2 gW] at hv
   injection hv with hv
   simp[gW,hv]
  refine⟨.inr ⟨rfl,by simpa using hq _ aU⟩,?_,by rw[hg];exact vi.dX⟩
  rw[hg,Nat.zero_add]
  simp only[World.cell?,hp.new]
  simpa [hC _ gW] using hv
 ·intro i j r x hi hj
  obtain⟨v,hv,vi,aU⟩:=key i j r x hi hj
  have gW:i*sz+j<C.size:=by rw[h.1];exact aU
  have hg:C.getD (i*sz+j) undef=v:=by
   rw[ao2 gW] at hv
   injection hv with hv
   simp[gW,hv]
  rw[hg]
  exact vi.mono (fun b o ho=>.inl ho) (fun b o ho=>cell_of_heap (hp.old b (hW b o ho))) (fun b E ck hs hb=>by rw[hp.old b (hW b 0 hs)];exact hb)
end
end
section
section
variable {P:Program}{G:Nat->List AV}{base nt:Nat}{L:List Nat}{gh:Gh}{w w' : World}{a:Act}{s:AS}{H:ah}
def Np:Option Nat->ba
 | some d=>.sl d
 | none=>.none
def Hf:Option Nat->ba
 | some d=>.bx d
 | none=>.none
theorem mM(d:Option Nat):Np d≠.outer:=by cases d<;>simp[Np]
theorem tH(d:Option Nat):Hf d≠.outer:=by cases d<;>simp[Hf]
theorem FR.grown{aH:Gh}{touch:ba->Prop}(h:FR L nt gh w a s)(st:Step touch s.H.length gh w aH w')(ht:∀ i,¬ touch (.bx i)/\¬ touch (.sl i)/\∀ j,¬ touch (.sc i j))
  {H' : ah} {lo' : Nat} (hH:s.H.length<=H'.length):FR L nt aH w' a { s with H:=H',lo:=lo' } :=
 h.update st h.defers h.size hH (aoU _) (fun _=>False) (fun i _=>⟨rfl,fun _=>⟨rfl,ht i⟩⟩) (fun _ h=>h.elim) (fun _ h=>h.elim)
def Gh.bd(gh:Gh)(b n:Nat):Gh:={ gh.alloc b (.hb n) (fun _=>False) with ρ:=fun l=>if l=n then b else gh.ρ l }
theorem fF(hW:aK G base H gh w){o:Obj}(hp:dJ w w' o):Step (fun _=>False) H.length gh w (gh.bd w.heap.size H.length) w':=by
 have h:=gT hW hp (p:=.hb H.length) (by simp) (fun _=>False) H.length
 refine⟨h.S,h.cell,h.size,h.os,h.tape,h.output,h.zi,h.fresh,fun loc hl=>?_,h.len,h.mp⟩
 show (if loc=H.length then _ else _)=_
 rw[if_neg (by omega)]
theorem jq(hW:aK G base H gh w){o:Obj}(hp:dJ w w' o):Ext H.length gh w (gh.bd w.heap.size H.length) w':=by
 refine⟨(fF hW hp).mono (fun _ h=>h.elim),fun b hb=>?_⟩
 have fP:(if b=w.heap.size then ba.hb H.length else gh.κ b)=.outer:=hb
 split at fP
 ·cases fP
 ·exact fP
theorem aK.bd(hW:aK G base H gh w){C:Array Value}{ty:TypeId}(hp:dJ w w' (.cells C ty)){cs:List AV}(bE:pt gh H.length w C cs)(hr:cs.all (aV H.length)=true) :
  aK G base (H++[.box ty cs]) (gh.bd w.heap.size H.length) w':=by
 have st:=fF hW hp
 refine⟨apV hW.size st.size,?_,?_,fun g j x hx=>?_,fun loc kC ds hl=>?_,fun loc kC ds hl=>?_,fun g hg=>(hW.wL g hg).imp fun ty h=>st.len g ty _ h,hW.j4 st (fun b o m h=>h.elim .inl (fun h=>h.2.elim)),fun loc o hl=>?_,fun loc kC ds hl=>?_⟩
 ·intro b o ho
  rw[hp.size]
  rcases ho with ho|⟨_,ho⟩
  ·have:=hW.mX b o ho;omega
  ·exact ho.elim
 ·intro b hb
  rw[hp.size]
  have fP:(if b=w.heap.size then ba.hb H.length else gh.κ b)≠.none:=hb
  split at fP
  ·rename_i e
   have:=hW.size
   omega
  ·have:=hW.ow b fP;omega
 ·obtain⟨v,h1,h2,h3⟩:=hW.aN g j x hx
  exact⟨v,(st.cell g j h3).trans h1,h2.mono st.S st.cell st.mp,st.S g j h3⟩
 ·rw[ao6,apt]
  by_cases aU:loc<H.length
  ·rw[ao7 aU] at hl
   have h:=(hW.boxes loc kC ds hl).mono st (n':=H.length+1) (apH _) id (fun _=>id)
   rw[st.ρ loc aU];exact h
  ·rw[ao5 (by omega)] at hl
   have hz:loc=H.length:=by
    have:=(aoR.1 hl).1
    simp at this;omega
   subst hz
   simp only[apW,ao4,aoQ,cj.box.injEq] at hl
   obtain⟨rfl,rfl⟩:=hl
   have hρ:(gh.bd w.heap.size H.length).ρ H.length=w.heap.size:=by simp[Gh.bd]
   rw[hρ]
   refine⟨by simp[Gh.bd,Gh.alloc],?_,C,ty,hp.new,ap0 bE.1.symm,fun j v x hv hx=>?_⟩
   ·rintro o (ho|⟨_,ho⟩)
    ·have:=hW.mX _ o ho;omega
    ·exact ho
   ·obtain⟨h1,h2⟩:=bE.2 j v x hv hx
    exact⟨h2,.inl (h1.mono st (apH _))⟩
 ·by_cases aU:loc<H.length
  ·rw[ao7 aU] at hl
   exact hW.refs loc kC ds hl
  ·rw[ao5 (by omega)] at hl
   have hz:loc=H.length:=by
    have:=(aoR.1 hl).1
    simp at this;omega
   subst hz
   simp only[apW,ao4,aoQ,cj.box.injEq] at hl
   obtain⟨rfl,rfl⟩:=hl
   exact hr
 ·rw[ao6,apt]
  by_cases aU:loc<H.length
  ·rw[ao7 aU] at hl
   rw[st.ρ loc aU]
   exact (hW.more loc o hl).mono st (apH _) id (fun _=>id)
  ·rw[ao5 (by omega)] at hl
   have hz:loc=H.length:=by
    have:=(aoR.1 hl).1
    simp at this;omega
   subst hz
   simp only[apW,ao4,aoQ] at hl
   subst hl
   trivial
 ·by_cases aU:loc<H.length
  ·rw[ao7 aU] at hl
   rw[st.ρ loc aU]
   exact fun hf=>st.len _ _ _ (hW.types loc kC ds hl hf)
  ·rw[ao5 (by omega)] at hl
   have hz:loc=H.length:=by
    have:=(aoR.1 hl).1
    simp at this;omega
   subst hz
   simp only[apW,ao4,aoQ,cj.box.injEq] at hl
   obtain⟨rfl,rfl⟩:=hl
   have hρ:(gh.bd w.heap.size H.length).ρ H.length=w.heap.size:=by simp[Gh.bd]
   rw[hρ]
   exact fun _=>⟨C,(0,0),hp.new,bE.1⟩
theorem Out.bd(hW:aK G base s.H gh w)(hF:FR L nt gh w a s){d:Option Nat}(hd:∀ k,d=some k->k<nt){C:Array Value}{ty:TypeId}(hp:dJ w w' (.cells C ty)){cs:List AV}(bE:pt gh s.H.length w C cs)
  (hr:cs.all (aV s.H.length)=true) :
  Out G base nt L gh w a s d (.ref s.H.length 0) (s.fp ⟨s.H++[.box ty cs],s.H.length⟩) (.pointer (some ⟨w.heap.size,0,none⟩)) (gh.bd w.heap.size s.H.length) w':=by
 have hρ:(gh.bd w.heap.size s.H.length).ρ s.H.length=w.heap.size:=by simp[Gh.bd]
 have hv:VR (gh.bd w.heap.size s.H.length) (s.H++[cj.box ty cs]).length w' (.pointer (some ⟨w.heap.size,0,none⟩)) (.ref s.H.length 0):=by
  have:=VR.ref (gh:=gh.bd w.heap.size s.H.length) (w:=w') (n:=(s.H++[cj.box ty cs]).length) s.H.length 0 (by simp)
  rw[hρ] at this;exact this
 exact⟨hW.bd hp bE hr,hF.put (fF hW hp) (fun i=>⟨id,id,fun _=>id⟩) (by simp) d hd (.cF hv),jq hW hp⟩
theorem zp{v:Value}{x:AV}(h:jB v=some x):x.drop.plain=true:=by
 unfold jB at h
 split at h<;>first|(injection h with h;subst h;rfl)|cases h
theorem ng:∀ {vs:List Value} {xs:List AV},dk vs=some xs->∀ x,x∈xs->x.drop.plain=true
 | [],xs,h=>by simp[dk] at h;subst h;simp
 | v :: r,xs,h=>by
  simp only[dk,aoP,aoO] at h
  obtain⟨x,hx,ys,hy,rfl⟩:=h
  intro z hz
  rcases ao8.1 hz with rfl|hz
  ·exact zp hx
  ·exact ng hy z hz
theorem vE{t:TypeId}{z:List AV}(h:la P t=some z):∀ x,x∈z->x.drop.plain=true:=by
 simp only[la,aoP] at h
 obtain⟨zv,_,hc⟩:=h
 exact ng hc
theorem uf{loc:Nat}{x:AV}(h:x.drop.plain=true):aV loc x=true:=by
 cases x<;>first|exact h|(simp[AV.drop,AV.plain] at h;done)|skip
 rename_i f fs cs
 cases fs<;>cases cs<;>first|rfl|(simp[AV.drop,AV.plain] at h)
theorem ot{loc:Nat}{x:AV}(h:aV loc x=true):aV loc x.drop=true:=by
 cases x<;>exact h
theorem vx{t:TypeId}{i:TypeInfo}{zv:Value}(hi:P.info? t=some i)(hz:i.zero=some zv)(w:World) :
  (Instr.alloc t true (.tuple #[])).run P w=.ok (.pointer (some ⟨w.heap.size,0,none⟩)) (w.alloc (.cells zv.cells t)):=by
 simp[Instr.alloc,zeroValue,typeInfo,hi,hz,newVar,newRow]
theorem Ny{t:TypeId}{kp:Bool}{z:List AV}(h:(la P t).map (fun z=>cond kp (z.map mA) z)=some z):∀ x,x∈z->x.drop.plain=true:=by
 simp only[aoO] at h
 obtain⟨z0,h0,rfl⟩:=h
 cases kp with
 | false=>exact vE h0
 | true =>
  intro x hx
  obtain⟨y,hy,rfl⟩:=apu.1 hx
  have:=vE h0 y hy
  unfold mA
  split
  ·rfl
  ·exact this
theorem LR(hW:aK G base s.H gh w)(hF:FR L nt gh w a s){o:Oper}{t:TypeId}{z:List AV}(ho:o.op=.alloc t){kp:Bool}(hz:(la P t).map (fun z=>cond kp (z.map mA) z)=some z)(hd:∀ k,o.dst=some k->k<nt) :
  ∃ v' aH w',sm P a o w v' w'/\Out G base nt L gh w a s o.dst (.ref s.H.length 0) (s.fp ⟨s.H++[.box t z],s.H.length⟩) v' aH w':=by
 obtain⟨i,zv,hi,Mv,bE⟩:=pj (gh:=gh) (n:=s.H.length) (w:=w) hz
 refine⟨_,_,_,.inl ?_,Out.bd hW hF hd (.alloc w (.cells zv.cells t)) bE ?_⟩
 ·simp[execOp,ho,vx hi Mv]
 ·exact aoV.2 fun x hx=>uf (Ny hz x hx)
theorem ZT(hW:aK G base s.H gh w)(hF:FR L nt gh w a s){o:Oper}{t:TypeId}{x:Operand}{y:an}{cs:List AV}(ho:o.op=.box t x)(hc:ak nt x=some y)(fi:(y.eval G s.T).drop.cells=some cs)
  (dq:cs.all (aV s.H.length)=true) (hd:∀ k,o.dst=some k->k<nt) :
  ∃ v' aH w',sm P a o w v' w'/\Out G base nt L gh w a s o.dst (.ref s.H.length 0) (s.fp ⟨s.H++[.box t (cs.map AV.drop)],s.H.length⟩) v' aH w':=by
 have bE:=(oY hW hF hc cs fi).dropped
 refine⟨_,_,_,.inl ?_,Out.bd hW hF hd (.alloc w (.cells (a.eval x).cells t)) bE ?_⟩
 ·simp[execOp,ho,Instr.box,newVar,newRow]
 ·refine aoV.2 fun x hx=>?_
  obtain⟨y,hy,rfl⟩:=apu.1 hx
  exact ot (aoV.1 dq y hy)
theorem LS(hW:aK G base s.H gh w)(hF:FR L nt gh w a s){o:Oper}{t:TypeId}{z:List AV}(ho:o.op=.alloc t){kp:Bool}(hz:(la P t).map (fun z=>cond kp (z.map mA) z)=some z)(hd:∀ k,o.dst=some k->k<nt/\k∈L) :
  ∃ v' aH w',sm P a o w v' w'/\Out G base nt L gh w a s o.dst (.lbox s.gen z) { s with gen:=s.gen+1 } v' aH w':=by
 obtain⟨i,zv,hi,Mv,bE⟩:=pj (gh:=gh) (n:=s.H.length) (w:=w) hz
 have hp:=dJ.alloc w (.cells zv.cells t)
 have bB:=tH o.dst
 have st:=gT hW hp bB (fun _=>False) s.H.length
 have zB:FR L nt (gh.alloc w.heap.size (Hf o.dst) fun _=>False) (w.alloc (.cells zv.cells t)) a s:=hF.grown (H':=s.H) (lo':=s.lo) st (fun i=>⟨id,id,fun _=>id⟩) (aoU _)
 have kR:=hW.alloc hp bB (fun _=>False) (fun _ _ h=>h.elim)
 refine⟨.pointer (some ⟨w.heap.size,0,none⟩),_,_,.inl ?_,kR,zB.Sx (gen':=s.gen+1) (apH _) (fun b hb=>kR.bG b hb) o.dst (fun k hk=>(hd k hk).1) (.inr ⟨⟨s.gen,aoU _,rfl⟩,fun k hk=>(hd k hk).2⟩) ?_,mO hW hp bB _ _⟩
 ·simp[execOp,ho,vx hi Mv]
 ·intro k hk
  refine⟨aqH _,w.heap.size,rfl,?_⟩
  rw[hk] at st ⊢
  refine⟨by simp[Gh.alloc,Hf],?_,zv.cells,t,hp.new,ap0 bE.1.symm,fun j v x hv hx=>?_⟩
  ·rintro o (ho|⟨_,ho⟩)
   ·have:=hW.mX _ o ho;omega
   ·exact ho
  ·obtain⟨h1,h2⟩:=bE.2 j v x hv hx
   exact⟨h2,.inl (h1.mono st (aoU _))⟩
theorem T6(hW:aK G base s.H gh w)(hF:FR L nt gh w a s){o:Oper}{t:TypeId}{x:Operand}{y:an}{cs:List AV}(ho:o.op=.box t x)(hc:ak nt x=some y)(fi:(y.eval G s.T).drop.cells=some cs)(hd:∀ k,o.dst=some k->k<nt/\k∈L) :
  ∃ v' aH w',sm P a o w v' w'/\Out G base nt L gh w a s o.dst (.lbox s.gen (cs.map AV.drop)) { s with gen:=s.gen+1 } v' aH w':=by
 have bE:=(oY hW hF hc cs fi).dropped
 have hp:=dJ.alloc w (.cells (a.eval x).cells t)
 have bB:=tH o.dst
 have st:=gT hW hp bB (fun _=>False) s.H.length
 have zB:FR L nt (gh.alloc w.heap.size (Hf o.dst) fun _=>False) (w.alloc (.cells (a.eval x).cells t)) a s:=hF.grown (H':=s.H) (lo':=s.lo) st (fun i=>⟨id,id,fun _=>id⟩) (aoU _)
 have kR:=hW.alloc hp bB (fun _=>False) (fun _ _ h=>h.elim)
 refine⟨.pointer (some ⟨w.heap.size,0,none⟩),_,_,.inl ?_,kR,zB.Sx (gen':=s.gen+1) (apH _) (fun b hb=>kR.bG b hb) o.dst (fun k hk=>(hd k hk).1) (.inr ⟨⟨s.gen,aoU _,rfl⟩,fun k hk=>(hd k hk).2⟩) ?_,mO hW hp bB _ _⟩
 ·simp[execOp,ho,Instr.box,newVar,newRow]
 ·intro k hk
  refine⟨aqH _,w.heap.size,rfl,?_⟩
  rw[hk] at st ⊢
  refine⟨by simp[Gh.alloc,Hf],?_,(a.eval x).cells,t,hp.new,ap0 bE.1.symm,fun j v x hv hx=>?_⟩
  ·rintro o (ho|⟨_,ho⟩)
   ·have:=hW.mX _ o ho;omega
   ·exact ho
  ·obtain⟨h1,h2⟩:=bE.2 j v x hv hx
   exact⟨h2,.inl (h1.mono st (aoU _))⟩
theorem xJ(hW:aK G base s.H gh w)(hF:FR L nt gh w a s){o:Oper}{t e:TypeId}{n sz:Nat}{parts:Array (Nat × Operand)}{z Z:List AV}{ps:List (Nat × Nat × an)}
  (ho:o.op=.build t parts) {kp:Bool} (hz:(la P t).map (fun z=>cond kp (z.map mA) z)=some z) (hu:P.underlying t=some (.array n e)) (hs:de P e=some sz) (hp:jz nt sz parts.toList=some ps)
  (he:fz z (ps.map fun p=>(p.1,p.2.1,(p.2.2.eval G s.T).drop))=some Z) :
  ∃ v,(execOp a.eval o).run P w=.ok (.value v) w/\lZ gh s.H.length nt w s.T s.gen (fj a) v (.agg Z):=by
 obtain⟨i,zv,hi,Mv,bE⟩:=pj (gh:=gh) (n:=s.H.length) (w:=w) hz
 obtain⟨ie,hie,Pt⟩:=mH hs
 have inv:∀ (l:List (Nat × Operand)) (ps:List (Nat × Nat × an)),jz nt sz l=some ps->l.length=ps.length /\
   ∀ (j:Nat) (p:Nat × Operand) (q:Nat × Nat × an),l[j]?=some p->ps[j]?=some q->q.1=p.1*sz/\q.2.1=sz/\ak nt p.2=some q.2.2:=by
  intro l
  induction l with
  | nil=>intro ps h;simp[jz] at h;subst h;exact⟨rfl,fun j p q h=>by simp at h⟩
  | cons p l ih =>
   intro ps h
   obtain⟨k,x⟩:=p
   simp only[jz,aoP,aoO] at h
   obtain⟨y,hy,rest,hr,rfl⟩:=h
   obtain⟨h1,h2⟩:=ih rest hr
   refine⟨by simp[h1],fun j p q hp hq=>?_⟩
   cases j with
   | zero=>simp at hp hq;subst hp hq;exact⟨rfl,rfl,hy⟩
   | succ j=>exact h2 j p q (by simpa using hp) (by simpa using hq)
 obtain⟨hl,hinv⟩:=inv _ _ hp
 obtain⟨C',hf,ui⟩:=xL (gh:=gh) (w:=w) (n:=s.H.length) (place:=fun i=>some (i*ie.size,ie.size)) ((parts.map fun p=>(p.1,a.eval p.2)).toList) (ps.map fun p=>(p.1,p.2.1,(p.2.2.eval G s.T).drop)) zv.cells z Z bE he (by simpa using hl) (by
  intro j p q hp hq
  simp only[ara,ao1,aoO] at hp hq
  obtain⟨p0,Tx,rfl⟩:=hp
  obtain⟨q0,Mr,rfl⟩:=hq
  obtain⟨h1,h2,hc⟩:=hinv j p0 q0 Tx Mr
  exact⟨by simp[h1,h2,Pt],oY hW hF hc⟩)
 have hb:P.built t (parts.map fun p=>(p.1,a.eval p.2)).toList=some C':=by
  unfold Program.built
  rw[hi,hu]
  simp only[Mv,hie]
  exact hf
 refine⟨.agg C',by simp[execOp,ho,run_build w t _ C' hb],.cF (.agg _ _ ui.1 (fun j v hj=>?_) (fun j v x hv hx=>(ui.2 j v x hv hx).1))⟩
 have aU:j<Z.length:=by rw[<- ui.1];exact (aoY.1 hj).1
 exact (ui.2 j v _ hj (aoT aU)).2
theorem Nz{t:TypeId}{z:List AV}{zv:Value}{sz len:Nat}(bE:pt gh H.length w zv.cells z)(dq:∀ x,x∈z->x.drop.plain=true)(hz:z.length=sz)(zE:0<sz) :
  ik gh.S w sz ((Array.range (len*sz)).map (zv.cells[· % zv.cells.size]!)) (List.replicate len (z.map AV.drop)):=by
 have gA:zv.cells.size=sz:=by rw[bE.1,hz]
 refine⟨by simp,fun i r hi=>?_,fun i j r x hi hj=>?_⟩
 ·rw[ars] at hi
  split at hi
  ·injection hi with hi;subst hi;simpa using hz
  ·cases hi
 ·rw[ars] at hi
  split at hi
  ·rename_i aU
   injection hi with hi;subst hi
   simp only[ao1,aoO] at hj
   obtain⟨y,hy,rfl⟩:=hj
   have hj:j<sz:=by rw[<- hz];exact (aoR.1 hy).1
   have iL:j<zv.cells.size:=by omega
   have IQ:(i*sz+j) % zv.cells.size=j:=by rw[gA,Nat.mul_add_mod',Nat.mod_eq_of_lt hj]
   refine⟨zv.cells[j],?_,?_⟩
   ·have wG:i*sz+j<len*sz:=tp aU hj
    rw[arj,ao2 (by simpa using wG)]
    simp only[Array.getElem_range,Option.map_some,IQ]
    congr 1
    exact getElem!_pos zv.cells j iL
   ·have hv:zv.cells[j]?=some zv.cells[j]:=ao2 iL
    exact (VR.dropped (bE.2 j _ y hv hy).1).jX (dq y (ao0 hy))
  ·cases hi
theorem rB{k n sz:Nat}(h:k<n*sz):k / sz<n/\k % sz<sz/\k / sz*sz+k % sz=k:=by
 have gA:0<sz:=by
  rcases Nat.eq_zero_or_pos sz with h0|h0
  ·subst h0;simp at h
  ·exact h0
 refine⟨Nat.div_lt_of_lt_mul (by rw[aq6];exact h),Nat.mod_lt _ gA,?_⟩
 have:=Nat.div_add_mod k sz
 rw[aq6] at this
 exact this
theorem nH{S:Nat->Nat->Prop}{sz:Nat}{A:Array Value}{E:List (List AV)}{isB:Bool}{ty:TypeId}(h:ik S w sz A E)(oD:nG isB E=true)(hB:isB=true->ty=iF){k:Nat}{m:Int}(hk:k<E.length*sz)
  (hc:A[k]?=some (.int .u8 m)):ty=iF:=by
 cases isB with
 | true=>exact hB rfl
 | false =>
  exfalso
  obtain⟨h1,h2,h3⟩:=rB hk
  have hr:=aoT h1
  obtain⟨x,hx⟩:∃ x,E[k / sz][k % sz]?=some x:=⟨_,aoT (show k % sz<E[k / sz].length by rw[h.2.1 _ _ hr];exact h2)⟩
  obtain⟨v,hv,hp⟩:=h.2.2 _ _ _ _ hr hx
  rw[h3,hc] at hv
  injection hv with hv
  subst hv
  have hn:iY E=true:=oD
  have h4:=aoV.1 (aoV.1 hn _ (ao0 hr)) _ (ao0 hx)
  cases hp<;>simp at h4
theorem we(hW:aK G base s.H gh w)(hF:FR L nt gh w a s){t e:TypeId}{len sz:Nat}{parts:Array (Nat × Operand)}{z:List AV}{E:List (List AV)}{ps:List (Nat × an)}
  (hu:P.underlying t=some (.slice e)) (hs:de P e=some sz) (hz:la P e=some z) (hp:ki nt parts.toList=some ps) (Cq:len*sz<=16777216) (UY:z.length=sz) (zE:0<sz)
  (he:cA sz (List.replicate len (z.map AV.drop)) (ps.map fun p=>(p.1,(p.2.eval G s.T).drop))=some E) :
  ∃ C',(Instr.buildSlice t len (parts.map fun p=>(p.1,a.eval p.2))).run P w=.ok (.slice (some ⟨w.heap.size,0,none⟩) len len) (w.alloc (.cells C' e))/\ik gh.S w sz C' E/\E.length=len:=by
 obtain⟨i,zv,hi,Mv,bE⟩:=Hc (gh:=gh) (n:=s.H.length) (w:=w) hz
 obtain⟨ie,hie,Pt⟩:=mH hs
 rw[hi] at hie;injection hie with hie;subst hie
 have inv:∀ (l:List (Nat × Operand)) (ps:List (Nat × an)),ki nt l=some ps->l.length=ps.length /\
   ∀ (j:Nat) (p:Nat × Operand) (q:Nat × an),l[j]?=some p->ps[j]?=some q->q.1=p.1/\ak nt p.2=some q.2:=by
  intro l
  induction l with
  | nil=>intro ps h;simp[ki] at h;subst h;exact⟨rfl,fun j p q h=>by simp at h⟩
  | cons p l ih =>
   intro ps h
   obtain⟨k,x⟩:=p
   simp only[ki,aoP,aoO] at h
   obtain⟨y,hy,rest,hr,rfl⟩:=h
   obtain⟨h1,h2⟩:=ih rest hr
   refine⟨by simp[h1],fun j p q hp hq=>?_⟩
   cases j with
   | zero=>simp at hp hq;subst hp hq;exact⟨rfl,hy⟩
   | succ j=>exact h2 j p q (by simpa using hp) (by simpa using hq)
 obtain⟨hl,hinv⟩:=inv _ _ hp
 obtain⟨C',hf,cN⟩:=At (w:=w) (S:=gh.S) (sz:=sz) ((parts.map fun p=>(p.1,a.eval p.2)).toList) (ps.map fun p=>(p.1,(p.2.eval G s.T).drop)) _ _ E (Nz (t:=e) (len:=len) bE (vE hz) UY zE) he (by simpa using hl) (by
  intro j p q hp hq
  simp only[ara,ao1,aoO] at hp hq
  obtain⟨p0,Tx,rfl⟩:=hp
  obtain⟨q0,Mr,rfl⟩:=hq
  obtain⟨h1,hc⟩:=hinv j p0 q0 Tx Mr
  exact⟨h1.symm,fun cs fi=>OM (oY hW hF hc) fi⟩)
 have vW:E.length=len:=by
  have:∀ (ip:List (Nat × AV)) (es E:List (List AV)),cA sz es ip=some E->E.length=es.length:=by
   intro ip
   induction ip with
   | nil=>intro es E h;simp[cA] at h;rw[h]
   | cons q ip ih =>
    intro es E h
    obtain⟨i,v⟩:=q
    simp only[cA] at h
    split at h
    ·cases h
    ·obtain⟨_,h⟩:=ab h
     rw[ih _ _ h];simp
  rw[this _ _ _ he];simp
 have cz:(Instr.buildSlice t len (parts.map fun p=>(p.1,a.eval p.2))).run P w=.ok (.slice (some ⟨w.heap.size,0,none⟩) len len) (w.alloc (.cells C' e)):=by
  by_cases h0:len*sz=0
  ·have afC:len=0:=by rcases Nat.mul_eq_zero.1 h0 with h|h<;>omega
   subst afC
   have hE:ps=[]:=by
    cases hps:ps with
    | nil=>rfl
    | cons q r =>
     rw[hps] at he
     simp only[apm,cA,List.replicate_zero,List.length_nil] at he
     split at he
     ·cases he
     ·obtain⟨h,_⟩:=ab he
      simp[api] at h
   have mf:parts.toList=[]:=by
    have:parts.toList.length=0:=by rw[hl,hE];rfl
    exact aqJ.1 this
   have hpa:parts=#[]:=by simpa using mf
   subst hpa
   have NM:Array.range 0=#[]:=rfl
   have IE:C'=#[]:=by simpa [Instr.fill,NM] using hf.symm
   subst IE
   simp[Instr.buildSlice,run_underlying hu,sizeOf,typeInfo,hi,Instr.fill,newRow,NM]
  ·exact run_buildSlice w t e len _ C' i zv hu hi Mv (by rw[Pt];omega) (by rw[Pt];exact h0) (by rw[Pt];exact hf)
 exact⟨C',cz,cN,vW⟩
theorem Ij(hW:aK G base s.H gh w)(hF:FR L nt gh w a s){o:Oper}{t e:TypeId}{len sz:Nat}{parts:Array (Nat × Operand)}{z:List AV}{E:List (List AV)}{ps:List (Nat × an)}{isB:Bool}
  (ho:o.op=.buildSlice t len parts) (hu:P.underlying t=some (.slice e)) (hs:de P e=some sz) (hz:la P e=some z) (hp:ki nt parts.toList=some ps)
  (oD:nG isB E=true) (Pu:isB=true->e=iF) (Cq:len*sz<=16777216) (UY:z.length=sz) (zE:0<sz)
  (he:cA sz (List.replicate len (z.map AV.drop)) (ps.map fun p=>(p.1,(p.2.eval G s.T).drop))=some E) (hd:∀ k,o.dst=some k->k<nt) :
  ∃ v' aH w',sm P a o w v' w'/\Out G base nt L gh w a s o.dst (.slice E true) s v' aH w':=by
 obtain⟨C',cz,cN,vW⟩:=we (P:=P) hW hF hu hs hz hp Cq UY zE he
 have jQ:=dJ.alloc w (.cells C' e)
 have bB:=mM o.dst
 have Dl:=cN.slice (gh:=gh) rfl jQ (p:=Np o.dst) hW.mX (fun j _=>rfl) (q:=fun _=>True) (fun _ _=>trivial) E.length (aoU _)
 have hv:VR (gh.alloc w.heap.size (Np o.dst) fun _=>True) s.H.length (w.alloc (.cells C' e)) (.slice (some ⟨w.heap.size,0,none⟩) E.length E.length) (.slice E true):=.full _ _ _ Dl trivial
 rw[vW] at hv
 have st:=gT hW jQ bB (fun _=>True) s.H.length
 have zB:FR L nt (gh.alloc w.heap.size (Np o.dst) fun _=>True) (w.alloc (.cells C' e)) a s:=hF.grown (H':=s.H) (lo':=s.lo) st (fun i=>⟨id,id,fun _=>id⟩) (aoU _)
 have kR:=hW.alloc jQ bB (fun _=>True) (fun k m _ hc=>by
  rw[cell_of_row _ _ k _ _ _ jQ.new] at hc
  have hk:k<E.length*sz:=by rw[<- cN.1];exact (aoY.1 hc).1
  have:=nH cN oD Pu hk hc
  subst this
  exact⟨C',(0,0),jQ.new⟩)
 refine⟨.slice (some ⟨w.heap.size,0,none⟩) len len,_,_,.inl ?_,kR,zB.Sx (gen':=s.gen) (aoU _) (fun b hb=>kR.bG b hb) o.dst hd (.inl rfl) (fun k hk=>?_),mO hW jQ bB _ _⟩
 ·have:(parts.map fun x=>(x.1,a.eval x.2))=parts.map fun p=>(p.1,a.eval p.2):=rfl
  simp[execOp,ho,cz]
 ·exact S9 (.inl hv)
end
end
end Go.Abs
