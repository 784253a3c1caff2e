/-
  A part of the proof of PrintForms: AbsOps2, AbsOps3, AbsOps4, AbsOps5, AbsOps6, AbsStep, AbsOps7, AbsOps8.
-/
import Derived.Great.BuildSlice
import Derived.Test.YtbdnnjjcdcacnaaGreatDoorP01
set_option linter.unusedSimpArgs false
set_option linter.unusedVariables false
set_option linter.defProp false
namespace Go.Abs
section
section
variable {P:Program}{G:Nat->List AV}{base nt:Nat}{L:List Nat}{gh:Gh}{w:World}{a:Act}{s:AS}
theorem y4(hF:FR L nt gh w a s){v:Value}{z:AV}(hv:mO gh s.H.length nt w s.T s.gen (fP a) v z)(hl:bQ s z=true) :
  ∃ b o,v=.pointer (some ⟨b,o,none⟩):=by
 cases z<;>simp only[bQ,apy] at hl
 case eptr cs =>
  have hp:=VR.uG (hv:VR gh s.H.length w v (.eptr cs))
  cases hp;exact⟨_,_,rfl⟩
 case ref loc off=>exact⟨_,_,(VR.jm (hv:VR gh s.H.length w v (.ref loc off))).2⟩
 case lref b g off =>
  obtain⟨hb,hg,hr⟩:=(hv:_/\_/\_)
  split at hl
  ·rename_i g' cs hT
   have DG:g=g':=by simpa [fW] using hl
   obtain⟨k,hk,_⟩:=uY hF hb hT
   exact⟨_,_,hr (by rw[hT,DG];rfl) k hk⟩
  ·cases hl
 case eref b g i zz off =>
  obtain⟨hb,hg,hr⟩:=(hv:_/\_/\_)
  split at hl
  ·rename_i g' e hT
   obtain⟨h1,h2⟩:=by simpa [fW,aoO] using hl
   obtain⟨ad,cap,sE,bN⟩:=nX hF hb hT
   rcases bN with ⟨rfl,_⟩|⟨k,_,_,_,_,rfl,_⟩
   ·simp at h2
   ·exact⟨_,_,hr (by rw[hT,h1];rfl) k _ _ sE⟩
  ·cases hl
theorem FJ(hW:aX G base s.H gh w)(hF:FR L nt gh w a s){o:Oper}{x:Operand}{y:aF}(ho:o.op=.nilCheck x)(hc:ax nt x=some y)(hl:bQ s (y.addr G s.T)=true) :
  ∃ v,(execOp a.eval o).run P w=.ok (.value v) w/\mO gh s.H.length nt w s.T s.gen (fP a) v (y.addr G s.T):=by
 have hv:=arg_val hW hF hc
 have hd:(y.addr G s.T).drop=y.addr G s.T:=by cases hz:y.addr G s.T<;>rw[hz] at hl<;>first|rfl|(simp[bQ] at hl)
 rw[hd] at hv
 obtain⟨b,of,hp⟩:=y4 hF hv hl
 refine⟨a.eval x,?_,hv⟩
 simp[execOp,ho,hp]
theorem K6(hF:FR L nt gh w a s){v:Value}{z z' : AV}(hv:mO gh s.H.length nt w s.T s.gen (fP a) v z)(hl:bQ s z=true){off:Nat}(ho:fm off z=some z') :
  ∃ b o,v=.pointer (some ⟨b,o,none⟩)/\mO gh s.H.length nt w s.T s.gen (fP a) (.pointer (some ⟨b,o+off,none⟩)) z':=by
 cases z<;>simp only[fm,an2,reduceCtorEq] at ho<;>subst ho
 case eptr cs =>
  have hp:=VR.uG (hv:VR gh s.H.length w v (.eptr cs))
  cases hp with
  | eptr b o _ f cx cL =>
   refine⟨b,o,rfl,.dC (.plain _ _ (.eptr b (o+off) _ (fun j=>f (off+j)) ?_ ?_))⟩
   ·intro j x hx
    rw[aoU] at hx
    have:=cx (off+j) x hx
    rw[ap2]
    exact this
   ·intro j x hx
    rw[aoU] at hx
    exact cL (off+j) x hx
 case ref loc of =>
  obtain⟨bf,rfl⟩:=VR.jm (hv:VR gh s.H.length w v (.ref loc of))
  exact⟨_,_,rfl,.dC (.ref loc (of+off) bf)⟩
 case lref b g of =>
  obtain⟨k,o,rfl⟩:=y4 hF hv hl
  obtain⟨hb,hg,hr⟩:=(hv:_/\_/\_)
  refine⟨k,o,rfl,hb,hg,fun h1 b' h2=>?_⟩
  have:=hr h1 b' h2
  injection this with this;injection this with this;injection this with e1 e2
  rw[e1,e2]
 case eref b g i zz of =>
  obtain⟨k,o,rfl⟩:=y4 hF hv hl
  obtain⟨hb,hg,hr⟩:=(hv:_/\_/\_)
  refine⟨k,o,rfl,hb,hg,fun h1 b' c1 c2 h2=>?_⟩
  have:=hr h1 b' c1 c2 h2
  injection this with this;injection this with this;injection this with e1 e2
  rw[e1,e2,ap2]
theorem Bi{z:AV}(hl:bQ s z=true):z.drop=z:=by cases z<;>first|rfl|(simp[bQ] at hl)
theorem Cs(hW:aX G base s.H gh w)(hF:FR L nt gh w a s){o:Oper}{t:TypeId}{x:Operand}{f:Nat}{y:aF}{fs:Array Go.Field}{q:Go.Field}{sz:Nat}{z:AV}
  (ho:o.op=.fieldAddr t x f) (hc:ax nt x=some y) (hu:P.underlying t=some (.struct fs)) (hq:fs[f]?=some q) (hs:dV P q.type=some sz) (h0:0<sz)
  (hl:bQ s (y.addr G s.T)=true) (he:fm q.offset (y.addr G s.T)=some z) :
  ∃ v,(execOp a.eval o).run P w=.ok (.value v) w/\mO gh s.H.length nt w s.T s.gen (fP a) v z:=by
 have hv:=arg_val hW hF hc
 rw[Bi hl] at hv
 obtain⟨b,of,hp,sE⟩:=K6 hF hv hl he
 refine⟨_,?_,sE⟩
 have dn:¬ sz=0:=by omega
 simp[execOp,ho,hp,Instr.fieldAt,run_underlying hu,hq,Instr.sureAddr,fieldPlace,dU hs,dn,addr_add]
theorem OD(hW:aX G base s.H gh w)(hF:FR L nt gh w a s){o:Oper}{t e:TypeId}{x i:Operand}{n sz k:Nat}{y yi:aF}{z:AV}
  (ho:o.op=.indexAddr t x i) (hc:ax nt x=some y) (hi:ax nt i=some yi) (hu:P.underlying t=some (.array n e)) (hs:dV P e=some sz)
  (hk:asNat (yi.eval G s.T)=some k) (hkn:k<n) (hl:bQ s (y.addr G s.T)=true) (he:fm (k*sz) (y.addr G s.T)=some z) :
  ∃ v,(execOp a.eval o).run P w=.ok (.value v) w/\mO gh s.H.length nt w s.T s.gen (fP a) v z:=by
 have hv:=arg_val hW hF hc
 rw[Bi hl] at hv
 obtain⟨b,of,hp,sE⟩:=K6 hF hv hl he
 obtain⟨kd,Mr⟩:=kG hW hF hi hk
 refine⟨_,?_,sE⟩
 have h1:k<n:=hkn
 simp[execOp,ho,hp,Mr,Instr.indexAt,asIntOf,run_underlying hu,Instr.sureAddr,dU hs,h1,addr_add]
theorem TK(hW:aX G base s.H gh w)(hF:FR L nt gh w a s){o:Oper}{t e:TypeId}{x i:Operand}{sz k:Nat}{y yi:aF}{el:List (List AV)}{own:Bool}{r:List AV}
  (ho:o.op=.indexAddr t x i) (hc:ax nt x=some y) (hi:ax nt i=some yi) (hu:P.underlying t=some (.slice e)) (hs:dV P e=some sz)
  (hk:asNat (yi.eval G s.T)=some k) (hy:y.addr G s.T=.slice el own) (hr:el[k]?=some r) (DI:r.length=sz) :
  ∃ v,(execOp a.eval o).run P w=.ok (.value v) w/\mO gh s.H.length nt w s.T s.gen (fP a) v (.eptr r):=by
 have hv:=VR.iF (oh hW hF hc hy rfl)
 obtain⟨kd,Mr⟩:=kG hW hF hi hk
 generalize hA:a.eval x=V at hv
 cases hv with
 | dw=>simp at hr
 | slice b of n cap jx _ f hn jG bN cx cL =>
  have mV:k<el.length:=(an9.1 hr).1
  have gO:jx=sz:=by rw[<- DI,bN k r hr]
  subst gO
  refine⟨.pointer (some ⟨b,of+k*jx,none⟩),?_,.dC (.plain _ _ (.eptr b (of+k*jx) r (f k) (fun j x hx=>cx k j r x hr hx) (fun j x hx=>cL k j r x hr hx)))⟩
  have h1:k<n:=by omega
  simp[execOp,ho,hA,Mr,Instr.indexAt,asIntOf,run_underlying hu,dU hs,h1,addr_add]
theorem L2(hW:aX G base s.H gh w)(hF:FR L nt gh w a s){o:Oper}{t e:TypeId}{x i:Operand}{sz k l of m zz:Nat}{y yi:aF}
  (ho:o.op=.indexAddr t x i) (hc:ax nt x=some y) (hi:ax nt i=some yi) (hu:P.underlying t=some (.slice e)) (hs:dV P e=some sz)
  (hk:asNat (yi.eval G s.T)=some k) (hy:y.addr G s.T=.sref l of m zz) (hkm:k<m) :
  ∃ v,(execOp a.eval o).run P w=.ok (.value v) w/\mO gh s.H.length nt w s.T s.gen (fP a) v (.ref l (of+k*sz)):=by
 obtain⟨bf,cap,_,_,hA⟩:=VR.jJ (oh hW hF hc hy rfl)
 obtain⟨kd,Mr⟩:=kG hW hF hi hk
 refine⟨.pointer (some ⟨gh.ρ l,of+k*sz,none⟩),?_,.dC (.ref l (of+k*sz) bf)⟩
 simp[execOp,ho,hA,Mr,Instr.indexAt,asIntOf,run_underlying hu,dU hs,hkm,addr_add]
theorem OE(hW:aX G base s.H gh w)(hF:FR L nt gh w a s){o:Oper}{t e:TypeId}{x i:Operand}{sz k b g:Nat}{y yi:aF}{el:List (List AV)}{r:List AV}
  (ho:o.op=.indexAddr t x i) (hc:ax nt x=some y) (hi:ax nt i=some yi) (hu:P.underlying t=some (.slice e)) (hs:dV P e=some sz)
  (hk:asNat (yi.eval G s.T)=some k) (hy:y.addr G s.T=.lsr b g) (hT:s.T b=.lsl g el) (hr:el[k]?=some r) (DI:r.length=sz) :
  ∃ v,(execOp a.eval o).run P w=.ok (.value v) w/\mO gh s.H.length nt w s.T s.gen (fP a) v (.eref b g k sz 0):=by
 have hv:=arg_val hW hF hc
 rw[hy] at hv
 obtain⟨hb,hg,hrr⟩:=(hv:_/\_/\_)
 obtain⟨kd,Mr⟩:=kG hW hF hi hk
 have qg:=hrr (by rw[hT];rfl)
 have mV:k<el.length:=(an9.1 hr).1
 obtain⟨ad,cap,sE,bN⟩:=nX hF hb hT
 rcases bN with ⟨rfl,_⟩|⟨c,C,ty,jx,_,rfl,hκ,hS,Am,hC,hl,hrw,gC⟩
 ·simp at hr
 ·have h1:k<el.length:=mV
  refine⟨.pointer (some ⟨c,k*sz,none⟩),?_,hb,hg,fun _ b' c1 c2 h2=>?_⟩
  ·simp[execOp,ho,qg,sE,Mr,Instr.indexAt,asIntOf,run_underlying hu,dU hs,h1,addr_add]
  ·rw[sE] at h2
   injection h2 with h2 _ _
   injection h2 with h2
   injection h2 with h2
   subst h2;simp
theorem TQ(hW:aX G base s.H gh w)(hF:FR L nt gh w a s){o:Oper}{c x y:Operand}{ic ix iy:aF}{t:Bool}
  (ho:o.op=.pick c x y) (hc:ax nt c=some ic) (hx:ax nt x=some ix) (hy:ax nt y=some iy) (ht:ic.eval G s.T=.bool t) :
  ∃ v,(execOp a.eval o).run P w=.ok (.value v) w/\mO gh s.H.length nt w s.T s.gen (fP a) v (cond t (ix.addr G s.T).drop (iy.addr G s.T).drop):=by
 have hb:=(cJ hW hF hc ht rfl).jI
 have h1:=arg_val hW hF hx
 have h2:=arg_val hW hF hy
 cases t
 ·exact⟨_,by simp[execOp,ho,hb,asBool],h2⟩
 ·exact⟨_,by simp[execOp,ho,hb,asBool],h1⟩
theorem ad8(hW:aX G base s.H gh w)(hF:FR L nt gh w a s){o:Oper}{op:UnOp}{t:TypeId}{x:Operand}{ix:aF}{z:AV}
  (ho:o.op=.unOp op t x) (hc:ax nt x=some ix) (he:rB op (ix.eval G s.T)=some z) :
  ∃ v,(execOp a.eval o).run P w=.ok (.value v) w/\mO gh s.H.length nt w s.T s.gen (fP a) v z:=by
 generalize hz:ix.eval G s.T=X at he
 unfold rB at he
 split at he<;>first|(injection he with he;subst he)|cases he
 ·have hv:=(cJ hW hF hc hz rfl).jl
  exact⟨_,by simp[execOp,ho,hv,Op.unary,Op.intArith],.dC (.plain _ _ (.int _ _))⟩
 ·have hv:=(cJ hW hF hc hz rfl).jI
  exact⟨_,by simp[execOp,ho,hv,Op.unary],.dC (.plain _ _ (.bool _))⟩
theorem OI(hW:aX G base s.H gh w)(hF:FR L nt gh w a s){o:Oper}{st dt:TypeId}{x:Operand}{ix:aF}{k k' : IntKind}{z:AV}
  (ho:o.op=.convert st dt x) (hc:ax nt x=some ix) (hs:P.underlying st=some (.int k')) (hd:P.underlying dt=some (.int k)) (he:gQ (.toInt k) (ix.eval G s.T)=some z) :
  ∃ v,(execOp a.eval o).run P w=.ok (.value v) w/\mO gh s.H.length nt w s.T s.gen (fP a) v z:=by
 generalize hz:ix.eval G s.T=X at he
 cases X<;>simp[gQ] at he
 subst he
 have hv:=(cJ hW hF hc hz rfl).jl
 exact⟨_,by simp[execOp,ho,hv,convert,run_underlying hs,run_underlying hd,Conv.intToInt],.dC (.plain _ _ (.int _ _))⟩
theorem IY(hW:aX G base s.H gh w)(hF:FR L nt gh w a s){o:Oper}{st dt:TypeId}{x:Operand}{ix:aF}{z:AV}
  (ho:o.op=.convert st dt x) (hc:ax nt x=some ix) (hs:P.underlying st=some .string) (hd:P.underlying dt=some .string) (he:gQ .Dv (ix.eval G s.T)=some z) :
  ∃ v,(execOp a.eval o).run P w=.ok (.value v) w/\mO gh s.H.length nt w s.T s.gen (fP a) v z:=by
 generalize hz:ix.eval G s.T=X at he
 cases X<;>simp[gQ] at he
 subst he
 obtain⟨b,hv,hl⟩:=(cJ hW hF hc hz rfl).jn
 exact⟨_,by simp[execOp,ho,hv,convert,run_underlying hs,run_underlying hd],.dC (.plain _ _ (.str _ _ hl))⟩
theorem foldl_push(ns:List Int):∀ s:ByteArray,(ns.foldl (fun r n=>r.push (UInt8.ofNat n.toNat)) s).data.toList=s.data.toList++ns.map fun n=>UInt8.ofNat n.toNat:=by
 induction ns with
 | nil=>intro s;simp
 | cons n ns ih=>intro s;rw[aqK,ih];simp[ByteArray.push]
theorem wm:∀ {e:List (List AV)} {l:List UInt8},bytesOf e=some l->∃ ns:List Int,e=ns.map (fun n=>[AV.int .u8 n])/\l=ns.map fun n=>UInt8.ofNat n.toNat
 | [],l,h=>by simp[bytesOf] at h;exact⟨[],rfl,by simp[h]⟩
 | r :: e,l,h=>by
  unfold bytesOf at h
  split at h
  ·rename_i hh;cases hh
  ·rename_i n r' heq
   injection heq with h1 h2
   subst h1 h2
   simp only[an0] at h
   obtain⟨l',zS,rfl⟩:=h
   obtain⟨ns,rfl,rfl⟩:=wm zS
   exact⟨n :: ns,rfl,rfl⟩
  ·cases h
theorem M'{n0:Nat}{V:Value}{ns:List Int}(hv:PR gh.S w V (.slice (ns.map fun n=>[AV.int .u8 n]) false)) :
  ∃ q:ByteArray,(Conv.bytesToString V).run P w=.ok (.string q) w/\q.data.toList=ns.map (fun n=>UInt8.ofNat n.toNat)/\∃ b c d,V=.slice b c d:=by
 generalize hE:(ns.map fun n=>[AV.int .u8 n])=E at hv
 cases hv with
 | dw =>
  have:ns=[]:=by simpa using hE
  subst this
  exact⟨ByteArray.empty,by simp[Conv.bytesToString],rfl,_,_,_,rfl⟩
 | slice b of n cap jx _ f hn jG bN cx cL =>
  subst hE
  have hlen:n=ns.length:=by rw[<- hn];simp
  have aeV:(loadCells ⟨b,of,none⟩ n).run P w=.ok (ns.map (Value.int .u8)).toArray w:=by
   have:=run_loadCells_list (P:=P) w ⟨b,of,none⟩ (ns.map (Value.int .u8)) (fun j v hj=>by
    simp only[aor,an0] at hj
    obtain⟨m,hm,rfl⟩:=hj
    have hr:(ns.map fun n=>[AV.int .u8 n])[j]?=some [AV.int .u8 m]:=by simp[hm]
    have An:jx=1:=by rw[<- bN j _ hr];rfl
    subst An
    obtain⟨_,h1,_⟩:=cx j 0 _ _ hr rfl
    have h2:=cL j 0 _ _ hr rfl
    have h3:f j 0=.int .u8 m:=by generalize f j 0=F at h2;cases h2;rfl
    rw[addr_add,<- h3,<- h1];simp)
   rw[aoA,<- hlen] at this
   exact this
  refine⟨_,run_bytesToString w _ n cap ns aeV,?_,_,_,_,rfl⟩
  rw[foldl_push];simp[ByteArray.empty,ByteArray.emptyWithCapacity];rfl
theorem FG(hW:aX G base s.H gh w)(hF:FR L nt gh w a s){o:Oper}{st dt e:TypeId}{x:Operand}{ix:aF}{z:AV}
  (ho:o.op=.convert st dt x) (hc:ax nt x=some ix) (hs:P.underlying st=some (.slice e)) (hE:P.underlying e=some (.int .u8)) (hd:P.underlying dt=some .string) (he:gQ .qy (ix.eval G s.T)=some z) :
  ∃ v,(execOp a.eval o).run P w=.ok (.value v) w/\mO gh s.H.length nt w s.T s.gen (fP a) v z:=by
 generalize hz:ix.eval G s.T=X at he
 cases X<;>simp only[gQ,reduceCtorEq,an0] at he
 obtain⟨l,hl,rfl⟩:=he
 obtain⟨ns,rfl,rfl⟩:=wm hl
 have hv:=VR.iF (cJ hW hF hc hz rfl)
 obtain⟨q,h1,h2,b,c,d,hV⟩:=M' (P:=P) (n0:=0) hv
 refine⟨.string q,?_,.dC (.plain _ _ (.str _ _ h2))⟩
 have h3:(convert st dt (a.eval x)).run P w=.ok (.string q) w:=by rw[hV] at h1 ⊢;rw[run_convert_bytes_string w st dt e b c d hs hE hd,h1]
 simp[execOp,ho,h3]
end
end
section
section
variable {P:Program}{G:Nat->List AV}{base nt:Nat}{L:List Nat}{gh:Gh}{w:World}{a:Act}{s:AS}
theorem RQ{n:Nat}{agg:Bool}{sz off:Nat}{xs:List AV}{z:AV}(hl:ab false agg sz off xs=some z){t:TypeId}(hg:l9 P t=some agg)(hs:dV P t=some sz)
  {cs:Array Value} (gO:cs.size=xs.length) (fY:∀ (j:Nat) (v:Value),cs[j]?=some v->v.oneCell'=true)
  (h:∀ (j:Nat) (v:Value) (x:AV),cs[j]?=some v->xs[j]?=some x->VR gh n w v x) :
  ∃ v,(part t cs off).run P w=.ok v w/\VR gh n w v z:=by
 unfold ab at hl
 cases agg
 ·simp only[an8,an0] at hl
  obtain⟨x,hx,rfl⟩:=hl
  have hj:off<cs.size:=by rw[gO];exact (an9.1 hx).1
  have hv:cs[off]?=some cs[off]:=aop hj
  exact⟨cs[off],by simp[part,iv hg,hv],VR.dropped (h off _ x hv hx)⟩
 ·simp only[cond_true] at hl
  obtain⟨h0,h1⟩:=ae hl
  have Mj:off+sz<=xs.length:=by simpa [ao2] using h0
  injection h1 with h1
  subst h1
  refine⟨.agg (cs.extract off (off+sz)),by simp[part,iv hg,dU hs],.agg _ _ (by simp;omega) ?_ ?_⟩
  ·intro j v hj
   rw[aqE] at hj
   split at hj
   ·exact fY _ v hj
   ·cases hj
  ·intro j v x hj hx
   rw[aqE] at hj
   split at hj
   ·rename_i bf
    simp only[aor,an0] at hx
    obtain⟨y,hy,rfl⟩:=hx
    rw[aoC,aoU] at hy
    split at hy
    ·exact VR.dropped (h _ v y hj hy)
    ·cases hy
   ·cases hj
theorem OC(hW:aX G base s.H gh w)(hF:FR L nt gh w a s){o:Oper}{t e:TypeId}{x i:Operand}{n sz k:Nat}{ix ii:aF}{agg:Bool}{xs:List AV}{z:AV}
  (ho:o.op=.index t x i) (hc:ax nt x=some ix) (hi:ax nt i=some ii) (hu:P.underlying t=some (.array n e)) (hs:dV P e=some sz) (hg:l9 P e=some agg)
  (hk:asNat (ii.eval G s.T)=some k) (hkn:k<n) (hz:ix.eval G s.T=.agg xs) (he:ab false agg sz (k*sz) xs=some z) :
  ∃ v,(execOp a.eval o).run P w=.ok (.value v) w/\mO gh s.H.length nt w s.T s.gen (fP a) v z:=by
 obtain⟨cs,hA,gO,fY,h⟩:=(cJ hW hF hc hz rfl).kj
 obtain⟨kd,Mr⟩:=kG hW hF hi hk
 obtain⟨v,h1,h2⟩:=RQ he hg hs gO fY h
 exact⟨v,by simp[execOp,ho,hA,Mr,Instr.index,asIntOf,run_underlying hu,dU hs,hkn,h1],.dC h2⟩
theorem FH(hW:aX G base s.H gh w)(hF:FR L nt gh w a s){o:Oper}{t:TypeId}{x i:Operand}{k:Nat}{ix ii:aF}{l:List UInt8}{b:UInt8}
  (ho:o.op=.index t x i) (hc:ax nt x=some ix) (hi:ax nt i=some ii) (hu:P.underlying t=some .string)
  (hk:asNat (ii.eval G s.T)=some k) (hz:ix.eval G s.T=.str l) (hb:l[k]?=some b) :
  ∃ v,(execOp a.eval o).run P w=.ok (.value v) w/\mO gh s.H.length nt w s.T s.gen (fP a) v (.int .u8 b.toNat):=by
 obtain⟨q,hA,hl⟩:=(cJ hW hF hc hz rfl).jn
 obtain⟨kd,Mr⟩:=kG hW hF hi hk
 have hq:q[k]?=some b:=by
  obtain⟨⟨d⟩⟩:=q
  simp at hl;subst hl
  have mV:=(an9.1 hb).1
  have fV:k<(ByteArray.mk ⟨d⟩).size:=mV
  rw[ByteArray.getElem?_lt' _ _ fV]
  rw[an' mV] at hb
  exact hb
 exact⟨_,by simp[execOp,ho,hA,Mr,Instr.index,asIntOf,run_underlying hu,hq],.dC (.plain _ _ (.int _ _))⟩
theorem VR.yh{n:Nat}{v:Value}{x:AV}(h:VR gh n w v x):VR gh n w v x.bD:=by
 cases x<;>try exact VR.dropped h
 obtain⟨cs,rfl,hs,fY,h⟩:=h.kj
 refine .agg _ _ (by simp[hs]) fY fun j v x hj hx=>?_
 simp only[aor,an0] at hx
 obtain⟨y,hy,rfl⟩:=hx
 exact VR.dropped (h j v y hj hy)
theorem IV(hW:aX G base s.H gh w)(hF:FR L nt gh w a s){o:Oper}{x:Operand}{i:Nat}{ix:aF}{vs:List AV}{z:AV}
  (ho:o.op=.extract x i) (hc:ax nt x=some ix) (hz:ix.eval G s.T=.tuple vs) (hi:vs[i]?=some z) :
  ∃ v,(execOp a.eval o).run P w=.ok (.value v) w/\mO gh s.H.length nt w s.T s.gen (fP a) v z.bD:=by
 obtain⟨us,hA,gO,h⟩:=(cJ hW hF hc hz rfl).rS
 have hj:i<us.size:=by rw[gO];exact (an9.1 hi).1
 have hv:us[i]?=some us[i]:=aop hj
 exact⟨us[i],by simp[execOp,ho,hA,Instr.extract,hv],.dC (VR.yh (h i _ z hv hi))⟩
theorem TL{t:TypeId}{k:lU}{V:Value}{X z:AV}{n:Nat}(hv:VR gh n w V X.drop)(ht:match k with|.str=>P.underlying t=some .string|.sl=>∃ e,P.underlying t=some (.slice e)|.arr m=>∃ e,P.underlying t=some (.array m e))
  (he:iG k X=some z) (ty:TypeId):∃ v,(Builtin.len_ #[t] ty #[V]).run P w=.ok v w/\VR gh n w v z:=by
 cases k<;>cases X<;>simp only[iG,an2,reduceCtorEq] at he<;>subst he
 case str.str l =>
  obtain⟨q,rfl,rfl⟩:=hv.jn
  refine⟨.int .i64 q.size,by simp[Builtin.len_,run_underlying ht,goInt],?_⟩
  exact .plain _ _ (by rw[show (q.data.toList.length:Int)=(q.size:Int) by simp];exact .int _ _)
 case sl.slice el own =>
  obtain⟨e,ht⟩:=ht
  have hp:=hv.iF
  cases hp with
  | dw=>exact⟨.int .i64 0,by simp[Builtin.len_,run_underlying ht,goInt],.plain _ _ (.int _ _)⟩
  | slice b of m cap sz _ f hn jG bN cx cL=>exact⟨.int .i64 el.length,by simp[Builtin.len_,run_underlying ht,goInt,hn],.plain _ _ (.int _ _)⟩
 case sl.sref loc off m zz =>
  obtain⟨e,ht⟩:=ht
  obtain⟨_,cap,_,_,rfl⟩:=hv.jJ
  exact⟨.int .i64 m,by simp[Builtin.len_,run_underlying ht,goInt],.plain _ _ (.int _ _)⟩
 case sl.aj =>
  obtain⟨e,ht⟩:=ht
  have hp:=hv.lN
  subst hp
  exact⟨.int .i64 0,by simp[Builtin.len_,run_underlying ht,goInt],.plain _ _ (.int _ _)⟩
 all_goals
  obtain⟨e,ht⟩:=ht
  exact⟨.int .i64 _,by simp[Builtin.len_,run_underlying ht,goInt],.plain _ _ (.int _ _)⟩
theorem k9:∀ {xs:List Operand} {ys:List aF},jA nt xs=some ys->xs.length=ys.length/\∀ (j:Nat) (x:Operand) (y:aF),xs[j]?=some x->ys[j]?=some y->ax nt x=some y
 | [],ys,h=>by simp[jA] at h;subst h;exact⟨rfl,fun j x y h=>by simp at h⟩
 | x :: r,ys,h=>by
  simp only[jA,an1,an0] at h
  obtain⟨y,hy,zs,hz,rfl⟩:=h
  obtain⟨h1,h2⟩:=k9 hz
  refine⟨by simp[h1],fun j u v hu hv=>?_⟩
  cases j with
  | zero=>simp at hu hv;subst hu hv;exact hy
  | succ j=>exact h2 j u v (by simpa using hu) (by simpa using hv)
theorem BV(hW:aX G base s.H gh w)(hF:FR L nt gh w a s){xs:List Operand}{ys:List aF}(hc:jA nt xs=some ys)(hf:(ys.map fun y=>y.addr G s.T).all aG=true) :
  ∀ (j:Nat) (v:Value) (x:AV),(xs.map a.eval)[j]?=some v->(ys.map fun y=>(y.addr G s.T).drop)[j]?=some x->VR gh s.H.length w v x:=by
 obtain⟨hl,h⟩:=k9 hc
 intro j v x hj hx
 simp only[aor,an0] at hj hx
 obtain⟨o,ho,rfl⟩:=hj
 obtain⟨y,hy,rfl⟩:=hx
 have hfy:aG (y.addr G s.T)=true:=aof.1 hf _ (aoy.2 ⟨y,aoo hy,rfl⟩)
 exact oh hW hF (h j o y ho hy) rfl hfy
theorem L3(hW:aX G base s.H gh w)(hF:FR L nt gh w a s){o:Oper}{f:Fn}{fs cs:Array Operand}{ifs ics:List aF}
  (ho:o.op=.makeFunc f fs cs) (h1:jA nt fs.toList=some ifs) (h2:jA nt cs.toList=some ics)
  (xt:(ifs.map fun y=>y.addr G s.T).all aG=true) (hf2:(ics.map fun y=>y.addr G s.T).all aG=true) :
  ∃ v,(execOp a.eval o).run P w=.ok (.value v) w/\mO gh s.H.length nt w s.T s.gen (fP a) v (.func f (ifs.map fun y=>(y.addr G s.T).drop) (ics.map fun y=>(y.addr G s.T).drop)):=by
 refine⟨.func f (fs.map a.eval) (cs.map a.eval),by simp[execOp,ho,Instr.makeFunc],.dC (.func _ _ _ _ _ ?_ ?_ ?_ ?_)⟩
 ·simpa using (k9 h1).1
 ·simpa using (k9 h2).1
 ·intro j v x hj hx
  exact BV hW hF h1 xt j v x (by simpa using hj) hx
 ·intro j v x hj hx
  exact BV hW hF h2 hf2 j v x (by simpa using hj) hx
end
end
section
section
variable {P:Program}{G:Nat->List AV}{base nt:Nat}{L:List Nat}{gh:Gh}{w:World}{a:Act}{s:AS}
theorem jP(hW:aX G base s.H gh w)(hF:FR L nt gh w a s){x:Option Operand}{ix:Option aF}(hc:gI nt x=some ix){d ga n:Nat}(hb:bound d (ix.map (·.eval G s.T)) ga=some n) :
  (x.map a.eval=none/\ix=none/\n=d)\/(ix.isSome=true/\n<=ga/\∃ k,x.map a.eval=some (.int k (n:Int))):=by
 cases x with
 | none=>simp[gI] at hc;subst hc;simp[bound] at hb;exact .inl ⟨rfl,rfl,hb.symm⟩
 | some x =>
  simp only[gI,an0] at hc
  obtain⟨y,hy,rfl⟩:=hc
  simp only[bound,aok,an1] at hb
  obtain⟨m,hm,hb⟩:=hb
  obtain⟨h1,h2⟩:=ae hb
  injection h2 with h2
  subst h2
  obtain⟨k,hk⟩:=kG hW hF hy hm
  exact .inr ⟨rfl,by simpa [ao2] using h1,k,by simp[hk]⟩
theorem p8{isSlice:Bool}{len cap l h m:Nat}{lo hi mx:Option Value}
  (hm:(mx=none/\m=cap)\/(m<=cap/\∃ k,mx=some (.int k (m:Int)))) (hh:(hi=none/\h=len/\mx=none)\/(h<=m/\∃ k,hi=some (.int k (h:Int))))
  (hl:(lo=none/\l=0)\/(l<=h/\∃ k,lo=some (.int k (l:Int)))) :
  (Instr.sliceBounds isSlice len cap lo hi mx).run P w=.ok (l,h,m) w:=by
 have sb:∀ (k:IntKind) (n y:Nat) (code:BoundsCode),n<=y->(Instr.sliceBound (.int k (n:Int)) y code).run P w=.ok n w:=by
  intro k n y code hn
  rw[run_sliceBound w k n y code (by omega) (by omega)];simp
 rcases hm with ⟨rfl,rfl⟩|⟨hm,km,rfl⟩<;>rcases hh with ⟨rfl,rfl,hx⟩|⟨hh,kh,rfl⟩<;>rcases hl with ⟨rfl,rfl⟩|⟨hl,kl,rfl⟩ <;>
  first|(cases hx;done)|simp[Instr.sliceBounds,sb, *]
theorem Cw(hW:aX G base s.H gh w)(hF:FR L nt gh w a s){o:Oper}{t:TypeId}{x:Operand}{lo hi mx:Option Operand}{ix:aF}{Mz HY Be:Option aF}{z:AV}
  (ho:o.op=.slice t x lo hi mx) (hc:ax nt x=some ix) (h1:gI nt lo=some Mz) (h2:gI nt hi=some HY) (h3:gI nt mx=some Be) (hu:P.underlying t=some .string)
  (he:fD .str (ix.eval G s.T) (Mz.map (·.eval G s.T)) (HY.map (·.eval G s.T)) (Be.map (·.eval G s.T))=some z) :
  ∃ v,(execOp a.eval o).run P w=.ok (.value v) w/\mO gh s.H.length nt w s.T s.gen (fP a) v z:=by
 generalize hz:ix.eval G s.T=X at he
 cases X<;>simp only[fD,reduceCtorEq,an1] at he
 rename_i l
 obtain⟨h,hh,l0,hl,he⟩:=he
 obtain⟨hn,he⟩:=ae he
 injection he with he
 subst he
 obtain⟨q,hA,hq⟩:=(cJ hW hF hc hz rfl).jn
 have gO:q.size=l.length:=by rw[<- hq];simp
 have hmn:mx.map a.eval=none/\Be=none:=by
  cases mx with
  | none=>simp[gI] at h3;subst h3;exact⟨rfl,rfl⟩
  | some m=>simp only[gI,an0] at h3;obtain⟨_,_,rfl⟩:=h3;simp at hn
 have bh:=jP hW hF h2 hh
 have bl:=jP hW hF h1 hl
 have hb:(Instr.sliceBounds false q.size q.size (lo.map a.eval) (hi.map a.eval) none).run P w=.ok (l0,h,q.size) w:=by
  refine p8 (.inl ⟨rfl,rfl⟩) ?_ ?_
  ·rcases bh with ⟨e1,_,e2⟩|⟨_,e1,k,e2⟩
   ·exact .inl ⟨e1,by omega,rfl⟩
   ·exact .inr ⟨by omega,k,e2⟩
  ·rcases bl with ⟨e1,_,e2⟩|⟨_,e1,k,e2⟩
   ·exact .inl ⟨e1,e2⟩
   ·exact .inr ⟨e1,k,e2⟩
 refine⟨.string (q.extract l0 h),?_,.dC (.plain _ _ (.str _ _ ?_))⟩
 ·have hA':=hA
  have uD:(Instr.slice t (.string q) (lo.map a.eval) (hi.map a.eval) none).run P w=.ok (.string (q.extract l0 h)) w:=by
   simp[Instr.slice,run_underlying hu,hb]
  simp only[execOp,ho,hA',hmn.1,Sem.run_bind,run_sliceAt_string w t (.string q) _ _ _ hu,uD,Result.andThen_ok,Sem.run_pure]
 ·rw[<- hq]
  rw[ByteArray.data_extract,Array.toList_extract,List.extract_eq_take_drop,List.drop_take]
theorem yE{sz jx:Nat}{e:List (List AV)}(h:gG sz e=true)(hr:∀ (i:Nat) (r:List AV),e[i]?=some r->r.length=jx)(dn:e≠[]):jx=sz:=by
 cases e with
 | nil=>exact absurd rfl dn
 | cons r e =>
  simp[gG,fW] at h
  rw[<- hr 0 r rfl,h]
theorem PR.part{S:Nat->Nat->Prop}{b o n cap:Nat}{e:List (List AV)}(hv:PR S w (.slice (some ⟨b,o,none⟩) n cap) (.slice e false)){sz:Nat}(gO:e≠[]->∀ (i:Nat) (r:List AV),e[i]?=some r->r.length=sz)
  {l h c:Nat} (hl:l<=h) (hh:h<=n) (hc:h-l<=c):PR S w (.slice (some ⟨b,o+l*sz,none⟩) (h-l) c) (.slice ((e.take h).drop l) false):=by
 cases hv with
 | slice _ _ _ _ jx _ f hn jG bN cx cL =>
  have idx:∀ (i:Nat) (r:List AV),((e.take h).drop l)[i]?=some r->e[l+i]?=some r:=by
   intro i r hi
   rw[aoU,aoC] at hi
   split at hi
   ·exact hi
   ·cases hi
  have hz:∀ (i:Nat) (r:List AV),e[i]?=some r->jx=sz:=by
   intro i r hi
   have dn:e≠[]:=by rintro rfl;simp at hi
   rw[<- bN i r hi,gO dn i r hi]
  refine .slice b (o+l*sz) (h-l) c sz _ (fun i j=>f (l+i) j) (by simp;omega) hc ?_ ?_ ?_
  ·intro i r hi
   rw[bN _ r (idx i r hi),hz _ r (idx i r hi)]
  ·intro i j r x hi hj
   have h1:=cx (l+i) j r x (idx i r hi) hj
   rw[hz _ r (idx i r hi)] at h1
   rw[show o+l*sz+i*sz+j=o+(l+i)*sz+j by rw[aoT];omega]
   exact h1
  ·intro i j r x hi hj
   exact cL (l+i) j r x (idx i r hi) hj
theorem PR.Bo{S:Nat->Nat->Prop}{b o c:Nat}{e:List (List AV)}{l h:Nat}(hl:h<=l):PR S w (.slice (some ⟨b,o,none⟩) 0 c) (.slice ((e.take h).drop l) false):=by
 have:(e.take h).drop l=[]:=by simp;omega
 rw[this]
 exact .slice b o 0 c 0 [] (fun _ _=>undef) rfl (ao9 _) (fun i r h=>by simp at h) (fun i j r x h=>by simp at h) (fun i j r x h=>by simp at h)
theorem Ah(hW:aX G base s.H gh w)(hF:FR L nt gh w a s){o:Oper}{t e0:TypeId}{x:Operand}{lo hi mx:Option Operand}{ix:aF}{Mz HY Be:Option aF}{sz:Nat}{z:AV}
  (ho:o.op=.slice t x lo hi mx) (hc:ax nt x=some ix) (h1:gI nt lo=some Mz) (h2:gI nt hi=some HY) (h3:gI nt mx=some Be) (hu:P.underlying t=some (.slice e0)) (hs:dV P e0=some sz)
  {ll o0 n zz:Nat} (hz:ix.eval G s.T=.sref ll o0 n zz) (he:∃ h,bound n (HY.map (·.eval G s.T)) n=some h/\∃ l0,bound 0 (Mz.map (·.eval G s.T)) h=some l0 /\
   cond ((Be.map (·.eval G s.T)).isNone&&Nat.beq zz sz) (some (cond (Nat.blt l0 n) (.sref ll (o0+l0*zz) (h-l0) zz) (.slice [] false))) none=some z) :
  ∃ v,(execOp a.eval o).run P w=.ok (.value v) w/\mO gh s.H.length nt w s.T s.gen (fP a) v z:=by
 obtain⟨h,hh,l0,hl,he⟩:=he
 obtain⟨hn,qi⟩:=ae he
 clear he
 simp only[aod,ap7,Option.map_eq_none_iff,fW,aov] at hn
 obtain⟨rfl,rfl⟩:=hn
 have hmx:mx.map a.eval=none:=by
  cases mx with
  | none=>rfl
  | some m=>simp only[gI,an0,reduceCtorEq,aqJ,aqO] at h3
 obtain⟨bf,cap,hk,ah0,hA⟩:=(cJ hW hF hc hz rfl).jJ
 have bh:=jP hW hF h2 hh
 have bl:=jP hW hF h1 hl
 have hhn:h<=n:=by rcases bh with ⟨_,_,e⟩|⟨_,e,_⟩<;>omega
 have YD:l0<=h:=by rcases bl with ⟨_,_,e⟩|⟨_,e,_⟩<;>omega
 have hb:(Instr.sliceBounds true n cap (lo.map a.eval) (hi.map a.eval) (mx.map a.eval)).run P w=.ok (l0,h,cap) w:=by
  refine p8 (.inl ⟨hmx,rfl⟩) ?_ ?_
  ·rcases bh with ⟨e1,e2,e3⟩|⟨_,e1,k,e2⟩
   ·exact .inl ⟨e1,by omega,hmx⟩
   ·exact .inr ⟨by omega,k,e2⟩
  ·rcases bl with ⟨e1,_,e2⟩|⟨_,e1,k,e2⟩
   ·exact .inl ⟨e1,e2⟩
   ·exact .inr ⟨e1,k,e2⟩
 have hr:(Instr.sliceAt t (a.eval x) (lo.map a.eval) (hi.map a.eval) (mx.map a.eval)).run P w=.ok (.slice (if cap=l0 then some ⟨gh.ρ ll,o0,none⟩ else (some (⟨gh.ρ ll,o0,none⟩:Addr)).map (·.add (l0*zz))) (h-l0) (cap-l0)) w:=by
  rw[hA]
  simp[Instr.sliceAt,run_underlying hu,Instr.slice,hb,dU hs]
 refine⟨_,by simp only[execOp,ho,Sem.run_bind,hr,Result.andThen_ok,Sem.run_pure];rfl,?_⟩
 injection qi with qi
 subst qi
 cases hq:Nat.blt l0 n with
 | true =>
  have hq' : l0<n:=by simpa [aoO] using hq
  rw[if_neg (by omega),aok,addr_add]
  refine .dC (.sref ll (o0+l0*zz) (h-l0) (cap-l0) zz bf (by omega) (fun h0=>?_))
  obtain⟨ty,Mn⟩:=ah0 h0
  refine⟨ty,?_⟩
  have:o0+l0*zz+(cap-l0)*zz=o0+cap*zz:=by
   have h3:(l0+(cap-l0))*zz=l0*zz+(cap-l0)*zz:=aoT _ _ _
   rw[show l0+(cap-l0)=cap by omega] at h3
   omega
  rw[this];exact Mn
 | false =>
  have hq' : ¬ l0<n:=fun h=>by rw[<- aoO] at h;rw[h] at hq;cases hq
  have e0:h-l0=0:=by omega
  rw[e0]
  have hp:∀ (b of c:Nat),PR gh.S w (.slice (some ⟨b,of,none⟩) 0 c) (.slice [] false):=fun b of c=>.slice b of 0 c 0 [] (fun _ _=>undef) rfl (ao9 _) (fun i r h=>by simp at h) (fun i j r x h=>by simp at h) (fun i j r x h=>by simp at h)
  split
  ·exact .dC (.plain _ _ (hp _ _ _))
  ·rw[aok,addr_add];exact .dC (.plain _ _ (hp _ _ _))
theorem FK(hW:aX G base s.H gh w)(hF:FR L nt gh w a s){o:Oper}{t e0:TypeId}{x:Operand}{lo hi mx:Option Operand}{ix:aF}{Mz HY Be:Option aF}{sz:Nat}{z:AV}
  (ho:o.op=.slice t x lo hi mx) (hc:ax nt x=some ix) (h1:gI nt lo=some Mz) (h2:gI nt hi=some HY) (h3:gI nt mx=some Be) (hu:P.underlying t=some (.slice e0)) (hs:dV P e0=some sz)
  (he:fD (.sl sz) (ix.eval G s.T) (Mz.map (·.eval G s.T)) (HY.map (·.eval G s.T)) (Be.map (·.eval G s.T))=some z) :
  ∃ v,(execOp a.eval o).run P w=.ok (.value v) w/\mO gh s.H.length nt w s.T s.gen (fP a) v z:=by
 generalize hz:ix.eval G s.T=X at he
 cases X<;>simp only[fD,reduceCtorEq,an1] at he
 case sref=>exact Ah hW hF ho hc h1 h2 h3 hu hs hz he
 rename_i e own
 obtain⟨m,hm,h,hh,l0,hl,he⟩:=he
 obtain⟨hn,he⟩:=ae he
 injection he with he
 subst he
 have hp:=VR.iF (cJ hW hF hc hz rfl)
 have bm:=jP hW hF h3 hm
 have bh:=jP hW hF h2 hh
 have bl:=jP hW hF h1 hl
 have hmx:Be=none->mx.map a.eval=none:=by
  rintro rfl
  cases mx with
  | none=>rfl
  | some m=>simp only[gI,an0,reduceCtorEq,aqJ,aqO] at h3
 have qp:lo.map a.eval=none->l0=0:=by
  intro qp
  rcases bl with ⟨_,_,e2⟩|⟨_,_,k,e2⟩
  ·exact e2
  ·rw[qp] at e2;cases e2
 simp only[aod,apZ,ap7,Option.map_eq_none_iff] at hn
 obtain⟨Ug,hn2⟩:=hn
 have YD:l0<=h:=by rcases bl with ⟨_,_,e⟩|⟨_,e,_⟩<;>omega
 have hhm:h<=m:=by
  rcases bh with ⟨_,e1,e2⟩|⟨_,e,_⟩
  ·subst e1
   rcases Ug with rfl|hx
   ·simp[bound] at hm;omega
   ·simp at hx
  ·exact e
 have Pl:m<=e.length:=by rcases bm with ⟨_,_,e⟩|⟨_,e,_⟩<;>omega
 have key:∀ len cap:Nat,len=e.length->len<=cap->∀ ad,∃ m',(m'=if Be=none then cap else m) /\
   (Instr.slice t (.slice ad len cap) (lo.map a.eval) (hi.map a.eval) (mx.map a.eval)).run P w=.ok (.slice (if m'=l0 then ad else ad.map (·.add (l0*sz))) (h-l0) (m' - l0)) w:=by
  intro len cap hlen jG ad
  refine⟨_,rfl,?_⟩
  have hb:(Instr.sliceBounds true len cap (lo.map a.eval) (hi.map a.eval) (mx.map a.eval)).run P w=.ok (l0,h,if Be=none then cap else m) w:=by
   refine p8 ?_ ?_ ?_
   ·rcases bm with ⟨e1,e2,_⟩|⟨e1,e2,k,e3⟩
    ·exact .inl ⟨e1,by rw[if_pos e2]⟩
    ·have dn:Be≠none:=by rintro rfl;cases e1
     rw[if_neg dn]
     exact .inr ⟨by omega,k,e3⟩
   ·rcases bh with ⟨e1,e2,e3⟩|⟨_,e1,k,e2⟩
    ·refine .inl ⟨e1,by omega,?_⟩
     subst e2
     rcases Ug with hx|hx
     ·exact hmx hx
     ·simp at hx
    ·refine .inr ⟨?_,k,e2⟩
     split<;>omega
   ·rcases bl with ⟨e1,_,e2⟩|⟨_,e1,k,e2⟩
    ·exact .inl ⟨e1,e2⟩
    ·exact .inr ⟨e1,k,e2⟩
  simp[Instr.slice,run_underlying hu,hb,dU hs]
 have fin:∀ {V:Value} {R:Value},a.eval x=V->(Instr.slice t V (lo.map a.eval) (hi.map a.eval) (mx.map a.eval)).run P w=.ok R w->(∃ ad n c,V=.slice ad n c) ->
   (execOp a.eval o).run P w=.ok (.value R) w:=by
  rintro V R hA hR ⟨ad,n,c,rfl⟩
  have:(Instr.sliceAt t (.slice ad n c) (lo.map a.eval) (hi.map a.eval) (mx.map a.eval)).run P w=.ok R w:=by simp[Instr.sliceAt,run_underlying hu,hR]
  simp only[execOp,ho,hA,Sem.run_bind,this,Result.andThen_ok,Sem.run_pure]
 generalize hA:a.eval x=V at hp
 have Pq:=hp
 cases hp with
 | dw =>
  have hlen:([]:List (List AV)).length=0:=rfl
  simp only[an6] at Pl
  have e1:m=0:=by omega
  have e2:h=0:=by omega
  have e3:l0=0:=by omega
  subst e1 e2 e3
  obtain⟨m',YE,hr⟩:=key 0 0 rfl (aoa _) none
  have:m'=0:=by rw[YE];split<;>rfl
  subst this
  refine⟨_,fin hA hr ⟨_,_,_,rfl⟩,.dC ?_⟩
  simp
  generalize Be.isSome=q
  cases q<;>exact .plain _ _ .dw
 | slice b of n cap jx _ f hn' jG bN cx cL =>
  obtain⟨m',YE,hr⟩:=key n cap hn'.symm jG (some ⟨b,of,none⟩)
  refine⟨_,fin hA hr ⟨_,_,_,rfl⟩,.dC ?_⟩
  have al2:h<=m':=by rw[YE];split<;>omega
  have lM:PR gh.S w (.slice (if m'=l0 then some ⟨b,of,none⟩ else (some (⟨b,of,none⟩:Addr)).map (·.add (l0*sz))) (h-l0) (m' - l0)) (.slice ((e.take h).drop l0) false):=by
   by_cases aeY:m'=l0
   ·rw[if_pos aeY]
    have:h-l0=0:=by omega
    rw[this]
    exact PR.Bo (by omega)
   ·rw[if_neg aeY,aok,addr_add]
    by_cases aeO:l0=0
    ·have:=PR.part Pq (sz:=jx) (fun _=>bN) YD (c:=m' - l0) (by omega) (by omega)
     rw[aeO,aqA] at this ⊢
     exact this
    ·refine PR.part Pq (fun dn i r hi=>?_) YD (by omega) (by omega)
     have air:¬ (Mz=none):=by
      rintro rfl
      rcases bl with ⟨_,_,e2⟩|⟨e1,_⟩
      ·exact aeO e2
      ·cases e1
     have:=yE (hn2.resolve_left air) bN dn
     rw[bN i r hi,this]
  generalize hq:((Option.map (fun x=>aF.eval G s.T x) Be).isSome&&m.beq h&&SE e)=q
  cases q
  ·exact .plain _ _ lM
  ·simp only[aod,Option.isSome_map,fW,aov] at hq
   have dn:Be≠none:=by rintro rfl;simp at hq
   have:m'=h:=by rw[YE,if_neg dn];exact hq.1.2
   subst this
   refine .full _ _ _ lM (fun ad ha _=>?_)
   have hbk:ad.block=b:=by
    split at ha
    ·injection ha with ha;rw[<- ha]
    ·rw[aok,addr_add] at ha;injection ha with ha;rw[<- ha]
   rw[hbk]
   obtain⟨x,r,e2,rfl⟩:∃ x r e2,e=(x :: r) :: e2:=by
    have hs:=hq.2
    unfold SE at hs
    split at hs
    ·exact⟨_,_,_,rfl⟩
    ·cases hs
   exact hW.nW b _ (cx 0 0 _ x rfl rfl).1
theorem pL(sz:Nat):∀ (n:Nat) (l:List AV) (i:Nat),(chunks sz n l)[i]?=if i<n then some ((l.drop (i*sz)).take sz) else none
 | 0,l,i=>by simp[chunks]
 | n+1,l,0=>by simp[chunks]
 | n+1,l,i+1=>by
  simp only[chunks,apq,pL sz n,aqB,Nat.add_lt_add_iff_right]
  congr 3
  rw[aoT,ap8,aqM]
theorem xW(sz:Nat):∀ (n:Nat) (l:List AV),(chunks sz n l).length=n
 | 0,l=>rfl
 | n+1,l=>by simp[chunks,xW sz n]
theorem PR.chunks{S:Nat->Nat->Prop}{b o n sz:Nat}{cs:List AV}(hv:PR S w (.pointer (some ⟨b,o,none⟩)) (.eptr cs))(hl:cs.length=n*sz) :
  PR S w (.slice (some ⟨b,o,none⟩) n n) (.slice (chunks sz n cs) false):=by
 cases hv with
 | eptr _ _ _ f cx cL =>
  have idx:∀ (i j:Nat) (r:List AV) (x:AV),(Abs.chunks sz n cs)[i]?=some r->r[j]?=some x->cs[i*sz+j]?=some x:=by
   intro i j r x hi hj
   rw[pL] at hi
   split at hi
   ·injection hi with hi
    subst hi
    rw[aoC,aoU] at hj
    split at hj
    ·exact hj
    ·cases hj
   ·cases hi
  refine .slice b o n n sz _ (fun i j=>f (i*sz+j)) (xW sz n cs) (aoa _) ?_ ?_ ?_
  ·intro i r hi
   rw[pL] at hi
   split at hi
   ·rename_i bf
    injection hi with hi
    subst hi
    have:(i+1)*sz<=n*sz:=aot _ bf
    rw[aoT] at this
    simp;omega
   ·cases hi
  ·intro i j r x hi hj
   rw[ap2]
   exact cx _ x (idx i j r x hi hj)
  ·intro i j r x hi hj
   exact cL _ x (idx i j r x hi hj)
theorem Cv(hW:aX G base s.H gh w)(hF:FR L nt gh w a s){o:Oper}{t e0:TypeId}{x:Operand}{lo hi mx:Option Operand}{ix:aF}{Mz HY Be:Option aF}{n sz:Nat}{z:AV}
  (ho:o.op=.slice t x lo hi mx) (hc:ax nt x=some ix) (h1:gI nt lo=some Mz) (h2:gI nt hi=some HY) (h3:gI nt mx=some Be) (hu:P.underlying t=some (.array n e0)) (hs:dV P e0=some sz) (h0:0<sz)
  (he:fD (.arr n sz) (ix.eval G s.T) (Mz.map (·.eval G s.T)) (HY.map (·.eval G s.T)) (Be.map (·.eval G s.T))=some z) :
  ∃ v,(execOp a.eval o).run P w=.ok (.value v) w/\mO gh s.H.length nt w s.T s.gen (fP a) v z:=by
 generalize hz:ix.eval G s.T=X at he
 cases X<;>simp only[fD,reduceCtorEq] at he
 rename_i cs
 obtain⟨hlen,he⟩:=ae he
 simp only[an1] at he
 obtain⟨h,hh,l0,hl,he⟩:=he
 obtain⟨hn,he⟩:=ae he
 injection he with he
 subst he
 have A5:cs.length=n*sz:=by simpa [fW] using hlen
 have hp:=VR.uG (cJ hW hF hc hz rfl)
 have hmn:mx.map a.eval=none:=by
  cases mx with
  | none=>rfl
  | some m=>simp only[gI,an0] at h3;obtain⟨_,_,rfl⟩:=h3;simp at hn
 have bh:=jP hW hF h2 hh
 have bl:=jP hW hF h1 hl
 have YD:l0<=h:=by rcases bl with ⟨_,_,e⟩|⟨_,e,_⟩<;>omega
 have hhn:h<=n:=by rcases bh with ⟨_,_,e⟩|⟨_,e,_⟩<;>omega
 have hb:(Instr.sliceBounds false n n (lo.map a.eval) (hi.map a.eval) none).run P w=.ok (l0,h,n) w:=by
  refine p8 (.inl ⟨rfl,rfl⟩) ?_ ?_
  ·rcases bh with ⟨e1,_,e2⟩|⟨_,e1,k,e2⟩
   ·exact .inl ⟨e1,by omega,rfl⟩
   ·exact .inr ⟨by omega,k,e2⟩
  ·rcases bl with ⟨e1,_,e2⟩|⟨_,e1,k,e2⟩
   ·exact .inl ⟨e1,e2⟩
   ·exact .inr ⟨e1,k,e2⟩
 generalize hA:a.eval x=V at hp
 have Pq:=hp
 cases hp with
 | eptr b of _ f cx cL =>
  refine⟨.slice (some (if n=l0 then ⟨b,of,none⟩ else (⟨b,of,none⟩:Addr).add (l0*sz))) (h-l0) (n-l0),?_,.dC (.plain _ _ ?_)⟩
  ·simp[execOp,ho,hA,hmn,Instr.sliceAt,run_underlying hu,Instr.sureAddr,hb,dU hs]
  ·have hc:=PR.chunks (sz:=sz) Pq A5
   by_cases qk:n=l0
   ·have:h-l0=0:=by omega
    rw[this]
    simp only[qk,apB]
    rw[<- qk]
    exact PR.Bo (by omega)
   ·rw[if_neg qk,addr_add]
    refine PR.part hc (fun _ i r hi=>?_) YD hhn (by omega)
    cases hc with
    | slice _ _ _ _ jx _ f' hn' jG bN ah2 akh =>
     rw[pL] at hi
     split at hi
     ·rename_i bf
      injection hi with hi
      subst hi
      have:(i+1)*sz<=n*sz:=aot _ bf
      rw[aoT] at this
      simp;omega
     ·cases hi
end
end
section
section
variable {P:Program}{G:Nat->List AV}{base nt:Nat}{L:List Nat}{gh:Gh}{w:World}{a:Act}{s:AS}
theorem fC{op:BinOp}{t:TypeId}{x y:Operand}{u v:Value}(h1:∀ c,u≠.agg c)(h2:u≠.nilIface\/v≠.nilIface):(eqGuard op t x y u v).run P w=.ok () w:=by
 have key:∀ (op:BinOp),op=.eql\/op=.neq\/(eqGuard op t x y u v)=pure ():=by
  intro op
  cases op<;>first|exact .inl rfl|exact .inr (.inl rfl)|exact .inr (.inr rfl)
 have k2:∀ op,op=BinOp.eql\/op=.neq->(eqGuard op t x y u v).run P w=.ok () w:=by
  rintro op (rfl|rfl)<;>simp only[eqGuard,aom,apy,aqv] <;>
   (cases u<;>first|rfl|exact absurd rfl (h1 _)|skip)<;>(cases v<;>first|rfl|(simp at h2))
 rcases key op with h|h|h
 ·exact k2 op (.inl h)
 ·exact k2 op (.inr h)
 ·rw[h];rfl
theorem Iq{op:BinOp}{k:IntKind}{m n:Int}{z:AV}(h:aa op k m n=some z)(t:TypeId):∃ v,(binOp op t (.int k m) (.int k n)).run P w=.ok v w/\PR gh.S w v z:=by
 unfold aa at h
 cases op<;>simp only[reduceCtorEq,an2] at h
 case quo =>
  rcases apk (decide (n=0)) with hb|hb<;>rw[hb] at h<;>simp at h
  subst h
  have hn:¬ n=0:=by simpa using hb
  exact⟨_,by simp[binOp,Op.intDiv,hn],.int _ _⟩
 case rem =>
  rcases apk (decide (n=0)) with hb|hb<;>rw[hb] at h<;>simp at h
  subst h
  have hn:¬ n=0:=by simpa using hb
  exact⟨_,by simp[binOp,Op.intDiv,hn],.int _ _⟩
 all_goals
  subst h
  first
   | exact⟨_,by simp[binOp,Op.intArith],.int _ _⟩
   | exact⟨_,by simp[binOp,Op.intCmp],.bool _⟩
theorem Ir{op:BinOp}{x y:ByteArray}{z:AV}(h:gP op x.data.toList y.data.toList=some z)(t:TypeId):∃ v,(binOp op t (.string x) (.string y)).run P w=.ok v w/\PR gh.S w v z:=by
 have hx:=ByteArray.toList_eq x
 have hy:=ByteArray.toList_eq y
 unfold gP at h
 cases op<;>simp only[reduceCtorEq,an2] at h
 case add =>
  obtain⟨h1,h2⟩:=ae h
  injection h2 with h2
  subst h2
  have OZ:x.size+y.size<=4611686018427387904:=by simpa using h1
  have h3:¬ (((x.size+y.size:Nat):Int)>IntKind.i64.max):=by
   have:IntKind.i64.max=9223372036854775807:=by decide
   rw[this];omega
  exact⟨.string (x++y),by simp only[binOp,Op.stringOp];rw[if_neg h3];rfl,.str _ _ (by simp)⟩
 all_goals
  subst h
  exact⟨_,by simp[binOp,Op.stringOp,hx,hy],.bool _⟩
theorem sC:∀ (k ks:List CK) (X Y:List AV) (b:Bool),cq (k++ks) X Y=some b ->
  ∃ b1 b2,cq k X Y=some b1/\cq ks (X.drop k.length) (Y.drop k.length)=some b2/\b=(b1&&b2)
 | [],ks,X,Y,b,h=>⟨true,b,rfl,by simpa using h,by simp⟩
 | c :: k,ks,X,Y,b,h=>by
  have step:∀ (e:Bool) (X' Y' : List AV),(cq (k++ks) X' Y').map (e&&·)=some b->∃ b1 b2,(cq k X' Y').map (e&&·)=some b1/\cq ks (X'.drop k.length) (Y'.drop k.length)=some b2/\b=(b1&&b2):=by
   intro e X' Y' h
   simp only[an0] at h
   obtain⟨b',gm,rfl⟩:=h
   obtain⟨b1,b2,h1,h2,rfl⟩:=sC k ks X' Y' b' gm
   exact⟨e&&b1,b2,by simp[h1],h2,by rw[Bool.and_assoc]⟩
  cases c<;>cases X<;>try (cases h;done)
  all_goals (rename_i x X';cases x<;>try (cases h;done))
  all_goals (cases Y<;>try (cases h;done))
  all_goals (rename_i y Y';cases y<;>try (cases h;done))
  ·exact step _ _ _ h
  ·simp only[apu,cq] at h
   obtain⟨h0,h⟩:=ae h
   obtain⟨b1,b2,h1,h2,h3⟩:=step _ _ _ h
   exact⟨b1,b2,by simp only[cq];rw[h0];exact h1,h2,h3⟩
  ·exact step _ _ _ h
theorem oo:∀ (k:List CK) (X Y:List AV) (n:Nat),k.length<=n->cq k (X.take n) (Y.take n)=cq k X Y
 | [],X,Y,n,_=>rfl
 | c :: k,[],Y,n,h=>by rw[List.take_nil];cases c<;>rfl
 | c :: k,x :: X,[],n,h=>by
  obtain⟨m,rfl⟩:∃ m,n=m+1:=⟨n-1,by simp at h;omega⟩
  rw[List.take_nil,apr];cases c<;>cases x<;>rfl
 | c :: k,x :: X,y :: Y,n,h=>by
  obtain⟨m,rfl⟩:∃ m,n=m+1:=⟨n-1,by simp at h;omega⟩
  have ih:=oo k X Y m (by simp at h;omega)
  rw[apr,apr]
  cases c<;>cases x<;>first|rfl|(cases y<;>first|rfl|simp only[cq,ih])
def Row(gh:Gh)(n:Nat)(w:World)(cs:Array Value)(X:List AV):Prop :=
 cs.size=X.length/\∀ (j:Nat) (v:Value) (x:AV),cs[j]?=some v->X[j]?=some x->VR gh n w v x
theorem Row.extract{n:Nat}{cs:Array Value}{X:List AV}(h:Row gh n w cs X)(o k:Nat):Row gh n w (cs.extract o (o+k)) ((X.drop o).take k):=by
 refine⟨by have:=h.1;simp;omega,fun j v x hj hx=>?_⟩
 rw[aqE] at hj
 rw[aoC,aoU] at hx
 split at hj
 ·split at hx
  ·exact h.2 _ v x hj hx
  ·cases hx
 ·cases hj
theorem ma{t:TypeId}{d:TypeDesc}(h:P.underlying t=some d)(hd:(match d with|.struct _=>true|.array _ _=>true|_=>false)=false):l9 P t=some false:=by
 unfold l9;rw[h];simp[hd];cases d<;>simp_all
theorem qF{n:Nat}{c:CK}{t:TypeId}{D o:Nat}{cs ds:Array Value}{X Y:List AV}{b:Bool}(hX:Row gh n w cs X)(hY:Row gh n w ds Y)(hD:1<=D)
  (ht:match c with|.b=>P.underlying t=some .bool|.i=>∃ k,P.underlying t=some (.int k)|.s=>P.underlying t=some .string)
  (h:cq [c] (X.drop o) (Y.drop o)=some b):∃ u v,(part t cs o).run P w=.ok u w/\(part t ds o).run P w=.ok v w/\(Op.equalIn D t u v).run P w=.ok b w:=by
 obtain⟨D,rfl⟩:∃ m,D=m+1:=⟨D-1,by omega⟩
 have hg:l9 P t=some false:=by cases c<;>first|exact ma ht rfl|(obtain⟨k,ht⟩:=ht;exact ma ht rfl)
 have get:∀ {cs:Array Value} {X:List AV} {x:AV} {X' : List AV},Row gh n w cs X->X.drop o=x :: X'->∃ u,(part t cs o).run P w=.ok u w/\VR gh n w u x:=by
  intro cs X x X' hR hd
  have hx:X[o]?=some x:=by
   have:(X.drop o)[0]?=some x:=by rw[hd];rfl
   rw[aoU] at this;simpa using this
  have bf:o<cs.size:=by rw[hR.1];exact (an9.1 hx).1
  have hv:cs[o]?=some cs[o]:=aop bf
  exact⟨cs[o],by simp[part,iv hg,hv],hR.2 o _ x hv hx⟩
 generalize hXd:X.drop o=Xd at h
 generalize hYd:Y.drop o=Yd at h
 cases c<;>cases Xd<;>try (cases h;done)
 all_goals (rename_i x X';cases x<;>try (cases h;done))
 all_goals (cases Yd<;>try (cases h;done))
 all_goals (rename_i y Y';cases y<;>try (cases h;done))
 all_goals
  obtain⟨u,Tg,hu2⟩:=get hX hXd
  obtain⟨v,Un,Uo⟩:=get hY hYd
 ·obtain rfl:=hu2.jI
  obtain rfl:=Uo.jI
  simp[cq] at h
  exact⟨_,_,Tg,Un,by rw[run_equalIn_bool' w D t _ _ ht,h]⟩
 ·obtain rfl:=hu2.jl
  obtain rfl:=Uo.jl
  obtain⟨k,ht⟩:=ht
  simp only[cq] at h
  obtain⟨h0,h'⟩:=ae h
  simp at h' h0
  exact⟨_,_,Tg,Un,by rw[h0,run_equalIn_int w D t _ _ _ _ ht,h']⟩
 ·obtain⟨p,rfl,rfl⟩:=hu2.jn
  obtain⟨q,rfl,rfl⟩:=Uo.jn
  simp[cq] at h
  refine⟨_,_,Tg,Un,?_⟩
  rw[run_equalIn_string w D t _ _ ht,ByteArray.toList_eq,ByteArray.toList_eq,<- h]
  simp
def BL(P:Program)(gh:Gh)(w:World)(d:Nat):Prop :=
 ∀ (t:TypeId) (k:List CK),mA P d t=some k->∀ (n D o:Nat) (cs ds:Array Value) (X Y:List AV) (b:Bool),Row gh n w cs X->Row gh n w ds Y->d<=D ->
  cq k (X.drop o) (Y.drop o)=some b->∃ u v,(part t cs o).run P w=.ok u w/\(part t ds o).run P w=.ok v w/\(Op.equalIn D t u v).run P w=.ok b w
theorem I1{d:Nat}(hd:BL P gh w d){n D:Nat}(hD:d<=D){cs ds:Array Value}{X Y:List AV}(hX:Row gh n w cs X)(hY:Row gh n w ds Y) :
  ∀ (fs:List Go.Field) (q:Nat) (ks:List CK) (b:Bool),ot (mA P d) fs q=some ks->cq ks (X.drop q) (Y.drop q)=some b->(Op.eqFields D cs ds fs).run P w=.ok b w:=by
 intro fs
 induction fs with
 | nil=>intro q ks b h1 h2;simp[ot] at h1;subst h1;simp[cq] at h2;subst h2;rfl
 | cons f fs ih =>
  intro q ks b h1 h2
  unfold ot at h1
  obtain⟨h3,h1⟩:=ae h1
  simp only[an1,an0] at h1
  obtain⟨kf,hkf,kr,hkr,rfl⟩:=h1
  simp only[aod,fW,aov,bne_iff_ne] at h3
  obtain⟨hof,A6⟩:=h3
  obtain⟨b1,b2,e1,e2,rfl⟩:=sC kf kr _ _ b h2
  rw[aqB,aqB] at e2
  obtain⟨u,v,p1,p2,p3⟩:=hd f.type kf hkf n D q cs ds X Y b1 hX hY hD e1
  have hr:=ih (q+kf.length) kr b2 hkr e2
  unfold Op.eqFields
  rw[if_pos A6,hof]
  simp only[Sem.run_bind,p1,p2,p3,Result.andThen_ok]
  cases b1
  ·simp
  ·simp only[aom,apy,aqv,hr,aou]
theorem p9{d:Nat}{t:TypeId}{k:List CK}{fs:Array Go.Field}(h:mA P (d+1) t=some k)(hu:P.underlying t=some (.struct fs)) :
  P.stoodInHeld t=false/\ot (mA P d) fs.toList 0=some k/\∃ sz,dV P t=some sz/\sz=k.length:=by
 unfold mA at h
 rw[hu] at h
 obtain⟨h1,h⟩:=ae h
 simp only[an1] at h
 obtain⟨ks,fV,h⟩:=h
 obtain⟨h2,h⟩:=ae h
 injection h with h
 subst h
 refine⟨by simpa using h1,fV,?_⟩
 cases hq:dV P t with
 | none=>rw[hq] at h2;cases h2
 | some m=>rw[hq] at h2;exact⟨m,rfl,by simpa [fW] using h2⟩
theorem tK{d:Nat}(hd:BL P gh w d){t:TypeId}{k:List CK}{fs:Array Go.Field}(h:mA P (d+1) t=some k)(hu:P.underlying t=some (.struct fs))
  {n D:Nat} (hD:d<=D) {cs ds:Array Value} {X Y:List AV} {b:Bool} (hX:Row gh n w cs X) (hY:Row gh n w ds Y) (he:cq k X Y=some b) :
  (Op.equalIn (D+1) t (.agg cs) (.agg ds)).run P w=.ok b w:=by
 obtain⟨rR,fV,_⟩:=p9 h hu
 have hf:P.fieldsOf t=fs:=by unfold Program.fieldsOf;rw[hu]
 rw[run_equalIn_struct w D t _ _ (by rw[hf];exact hu) rR,hf]
 exact I1 hd hD hX hY fs.toList 0 k b fV (by simpa using he)
theorem vE:∀ d:Nat,BL P gh w d
 | 0=>fun t k h=>by cases h
 | d+1=>by
  intro t k h n D o cs ds X Y b hX hY hD he
  have h0:=h
  unfold mA at h
  cases hu:P.underlying t with
  | none=>rw[hu] at h;cases h
  | some dd =>
   rw[hu] at h
   cases dd<;>try (cases h;done)
   case bool=>injection h with h;subst h;exact qF (c:=.b) hX hY (by omega) hu he
   case int kk=>injection h with h;subst h;exact qF (c:=.i) hX hY (by omega) ⟨kk,hu⟩ he
   case string=>injection h with h;subst h;exact qF (c:=.s) hX hY (by omega) hu he
   case struct fs =>
    obtain⟨_,_,sz,gO,hlen⟩:=p9 h0 hu
    have hg:l9 P t=some true:=by unfold l9;rw[hu];rfl
    refine⟨.agg (cs.extract o (o+sz)),.agg (ds.extract o (o+sz)),by simp[part,iv hg,dU gO],by simp[part,iv hg,dU gO],?_⟩
    obtain⟨D,rfl⟩:∃ m,D=m+1:=⟨D-1,by omega⟩
    rw[<- oo k _ _ sz (by omega)] at he
    exact tK (vE d) h0 hu (by omega) (hX.extract o sz) (hY.extract o sz) he
theorem JV{op:BinOp}{b:Bool}{z:AV}(h:im op b=some z):(op=.eql/\z=.bool b)\/(op=.neq/\z=.bool !b):=by
 cases op<;>simp[im] at h
 ·exact .inl ⟨rfl,h.symm⟩
 ·exact .inr ⟨rfl,h.symm⟩
theorem mU{op:BinOp}{t:TypeId}{u v:Value}{b:Bool}{z:AV}(h:im op b=some z)(hr:(Op.equal t u v).run P w=.ok b w)
  (h1:∀ q,(binOp .eql t u v)=q->q=(do pure (.bool (<- Op.equal t u v)))) (h2:(binOp .neq t u v)=(do pure (.bool (!(<- Op.equal t u v))))) :
  ∃ r,(binOp op t u v).run P w=.ok r w/\PR gh.S w r z:=by
 rcases JV h with ⟨rfl,rfl⟩|⟨rfl,rfl⟩
 ·exact⟨.bool b,by rw[h1 _ rfl];simp[hr],.bool _⟩
 ·exact⟨.bool !b,by rw[h2];simp[hr],.bool _⟩
theorem ZU(hW:aX G base s.H gh w)(hF:FR L nt gh w a s){o:Oper}{op:BinOp}{t u:TypeId}{x y:Operand}{ix iy:aF}{z:AV}
  (ho:o.op=.binOp op t x y u) (hx:ax nt x=some ix) (hy:ax nt y=some iy)
  (he:xN op (nj P t) (kP ix || kP iy) (ix.eval G s.T) (iy.eval G s.T)=some z) :
  ∃ v,(execOp a.eval o).run P w=.ok (.value v) w/\mO gh s.H.length nt w s.T s.gen (fP a) v z:=by
 generalize hX:ix.eval G s.T=X at he
 generalize hY:iy.eval G s.T=Y at he
 have fin:∀ {U V:Value},a.eval x=U->a.eval y=V->(eqGuard op t x y U V).run P w=.ok () w->(∃ r,(binOp op t U V).run P w=.ok r w/\PR gh.S w r z) ->
   ∃ v,(execOp a.eval o).run P w=.ok (.value v) w/\mO gh s.H.length nt w s.T s.gen (fP a) v z:=by
  rintro U V hU hV hg ⟨r,hr,hp⟩
  exact⟨r,by simp[execOp,ho,hU,hV,hg,hr],.dC (.plain _ _ hp)⟩
 have Zz:(kP ix || kP iy)=true->(∃ v,x=.const v)\/(∃ v,y=.const v):=by
  intro h
  rcases Bool.or_eq_true_iff.1 h with h|h
  ·left
   cases x<;>simp only[ax] at hx
   ·have:=(ae hx).2;injection this with this;subst this;cases h
   ·exact⟨_,rfl⟩
   ·injection hx with hx;subst hx;cases h
   ·injection hx with hx;subst hx;cases h
  ·right
   cases y<;>simp only[ax] at hy
   ·have:=(ae hy).2;injection this with this;subst this;cases h
   ·exact⟨_,rfl⟩
   ·injection hy with hy;subst hy;cases h
   ·injection hy with hy;subst hy;cases h
 unfold xN at he
 split at he
 ·
  obtain⟨h0,DF⟩:=ae he
  have hk:=of_decide_eq_true h0
  have h1:=(cJ hW hF hx hX rfl).jl
  have h2:=(cJ hW hF hy hY rfl).jl
  rw[<- hk] at h2
  exact fin h1 h2 (fC (by intro c;simp) (.inl (by simp))) (Iq DF t)
 ·
  obtain⟨p,h1,hp⟩:=(cJ hW hF hx hX rfl).jn
  obtain⟨q,h2,hq⟩:=(cJ hW hF hy hY rfl).jn
  subst hp hq
  exact fin h1 h2 (fC (by intro c;simp) (.inl (by simp))) (Ir he t)
 ·
  rename_i p q
  have h1:=(cJ hW hF hx hX rfl).jI
  have h2:=(cJ hW hF hy hY rfl).jI
  generalize hQ:nj P t=Q at he
  cases Q<;>simp only[reduceCtorEq] at he
  have ht:P.underlying t=some .bool:=by
   unfold nj at hQ
   split at hQ<;>first|assumption|(cases hQ)|skip
   cases hb:(!P.eqGuardType P.depth t)<;>rw[hb] at hQ<;>simp at hQ
   split at hQ<;>cases hQ
  exact fin h1 h2 (fC (by intro c;simp) (.inl (by simp))) (mU he (run_equal_bool w t p q ht) (by rintro _ rfl;rfl) rfl)
 ·
  rename_i xs ys
  obtain⟨cs,h1,An,_,hr1⟩:=(cJ hW hF hx hX rfl).kj
  obtain⟨ds,h2,Te,_,hr2⟩:=(cJ hW hF hy hY rfl).kj
  generalize hQ:nj P t=Q at he
  cases Q<;>simp only[reduceCtorEq,an1] at he
  rename_i ks
  obtain⟨b,hb,he⟩:=he
  obtain⟨hg,hk⟩:P.eqGuardType P.depth t=false/\mA P 8 t=some ks:=by
   unfold nj at hQ
   split at hQ<;>first|(cases hQ;done)|skip
   cases hb:(P.eqGuardType P.depth t)<;>rw[hb] at hQ<;>simp at hQ
   split at hQ<;>first|(cases hQ;done)|skip
   injection hQ with hQ
   subst hQ
   exact⟨rfl,by assumption⟩
  obtain⟨fs,hu⟩:∃ fs,P.underlying t=some (.struct fs):=by
   unfold nj at hQ
   cases hu:P.underlying t with
   | none=>rw[hu] at hQ;cases hQ
   | some d =>
    rw[hu] at hQ
    cases d<;>simp only[reduceCtorEq] at hQ
    exact⟨_,rfl⟩
  have cZ:(Op.equal t (.agg cs) (.agg ds)).run P w=.ok b w :=
   tK (vE 7) hk hu (D:=9999) (by omega) (n:=s.H.length) ⟨An,hr1⟩ ⟨Te,hr2⟩ hb
  exact fin h1 h2 (run_eqGuard_agg w op t x y cs ds hg) (mU he cZ (by rintro _ rfl;rfl) rfl)
 ·
  obtain⟨h0,he⟩:=ae he
  obtain⟨ah5,hq⟩:=aqW.1 h0
  simp only[an1] at he
  obtain⟨b,hb,he⟩:=he
  have ht:∃ m,P.underlying t=some (.interface m):=by
   generalize hQ:nj P t=Q at hq
   cases Q<;>simp only[reduceCtorEq] at hq
   unfold nj at hQ
   split at hQ<;>first|exact⟨_,by assumption⟩|(cases hQ;done)|skip
   cases hb:(!P.eqGuardType P.depth t)<;>rw[hb] at hQ<;>simp at hQ
   split at hQ<;>cases hQ
  obtain⟨m,ht⟩:=ht
  have h2:=(cJ hW hF hy hY rfl).uH
  split at hb
  ·injection hb with hb
   subst hb
   have h1:=(cJ hW hF hx hX rfl).uH
   have hr:(Op.equal t .nilIface .nilIface).run P w=.ok true w:=(fun d=>(by simp[Op.equalIn,run_underlying ht]:(Op.equalIn (d+1) t .nilIface .nilIface).run P w=.ok true w)) 9999
   refine fin h1 h2 ?_ (mU he hr (by rintro _ rfl;rfl) rfl)
   rcases Zz ah5 with ⟨v,rfl⟩|⟨v,rfl⟩
   ·cases op<;>simp[eqGuard]
   ·cases op<;>simp[eqGuard]
  ·injection hb with hb
   subst hb
   obtain⟨q,h1⟩:=(cJ hW hF hx hX rfl).MB
   have hr:∀ ti,(Op.equal t (.iface ti q) .nilIface).run P w=.ok false w:=fun ti=>(fun d=>(by simp[Op.equalIn,run_underlying ht]:(Op.equalIn (d+1) t (.iface ti q) .nilIface).run P w=.ok false w)) 9999
   exact fin h1 h2 (fC (by intro c;simp) (.inl (by simp))) (mU he (hr _) (by rintro _ rfl;rfl) rfl)
  ·cases hb
 ·
  obtain⟨h0,he⟩:=ae he
  simp only[an1] at he
  obtain⟨b,hb,he⟩:=he
  have ht:∃ p q r,P.underlying t=some (.func p q r):=by
   generalize hQ:nj P t=Q at h0
   cases Q<;>simp only[reduceCtorEq] at h0
   unfold nj at hQ
   split at hQ<;>first|exact⟨_,_,_,by assumption⟩|(cases hQ;done)|skip
   cases hb:(!P.eqGuardType P.depth t)<;>rw[hb] at hQ<;>simp at hQ
   split at hQ<;>cases hQ
  obtain⟨p,q,r,ht⟩:=ht
  have h2:=(cJ hW hF hy hY rfl).wG
  split at hb
  ·injection hb with hb
   subst hb
   have h1:=(cJ hW hF hx hX rfl).wG
   have hr:(Op.equal t .nilFunc .nilFunc).run P w=.ok true w:=(fun d=>(by simp[Op.equalIn,run_underlying ht]:(Op.equalIn (d+1) t .nilFunc .nilFunc).run P w=.ok true w)) 9999
   exact fin h1 h2 (fC (by intro c;simp) (.inl (by simp))) (mU he hr (by rintro _ rfl;rfl) rfl)
  ·injection hb with hb
   subst hb
   obtain⟨fs,cs,h1,_⟩:=(cJ hW hF hx hX rfl).ra
   have hr:∀ f,(Op.equal t (.func f fs cs) .nilFunc).run P w=.ok false w:=fun f=>(fun d=>(by simp[Op.equalIn,run_underlying ht]:(Op.equalIn (d+1) t (.func f fs cs) .nilFunc).run P w=.ok false w)) 9999
   exact fin h1 h2 (fC (by intro c;simp) (.inl (by simp))) (mU he (hr _) (by rintro _ rfl;rfl) rfl)
  ·cases hb
 ·cases he
end
end
section
section
variable {P:Program}{G:Nat->List AV}{base nt:Nat}{L:List Nat}{gh:Gh}{w:World}{a:Act}{s:AS}
def pD(gh:Gh)(n:Nat)(w:World)(C:Array Value)(X:List AV):Prop :=
 C.size=X.length/\∀ (j:Nat) (v:Value) (x:AV),C[j]?=some v->X[j]?=some x->VR gh n w v x/\v.oneCell'=true
theorem VR.fw{n:Nat}{v:Value}{x:AV}(h:VR gh n w v x)(hx:∀ cs,x≠.agg cs)(oK:∀ cs,x≠.tuple cs):v.oneCell'=true:=by
 cases h with
 | plain _ _ h=>exact h.fw
 | full=>rfl
 | ref=>rfl
 | sref=>rfl
 | mref=>rfl
 | func=>rfl
 | iface=>rfl
 | agg _ xs=>exact absurd rfl (hx xs)
 | tuple _ xs=>exact absurd rfl (oK xs)
theorem rG{n:Nat}{v:Value}{x:AV}{cs:List AV}(h:VR gh n w v x)(hc:x.cells=some cs):pD gh n w v.cells cs:=by
 have single:x.cells=some [x]->(∀ cs,x≠.agg cs)->(∀ cs,x≠.tuple cs)->pD gh n w v.cells cs:=by
  intro h1 h2 h3
  rw[h1] at hc
  injection hc with hc
  subst hc
  have fY:=h.fw h2 h3
  have:v.cells=#[v]:=by cases v<;>first|rfl|(simp[Value.oneCell'] at fY)
  rw[this]
  refine⟨rfl,fun j u y hu hy=>?_⟩
  cases j with
  | zero=>simp at hu hy;subst hu hy;exact⟨h,fY⟩
  | succ j=>simp at hu
 cases x
 case agg xs =>
  obtain⟨C,rfl,hs,fY,h⟩:=h.kj
  injection hc with hc
  subst hc
  exact⟨hs,fun j v x hv hx=>⟨h j v x hv hx,fY j v hv⟩⟩
 case any=>cases hc
 case tuple=>cases hc
 case lbox=>cases hc
 case lref=>cases hc
 case lsl=>cases hc
 case lsr=>cases hc
 case eref=>cases hc
 case iter=>cases hc
 all_goals exact single rfl (by intro cs h;cases h) (by intro cs h;cases h)
theorem pD.dropped{n:Nat}{C:Array Value}{X:List AV}(h:pD gh n w C X):pD gh n w C (X.map AV.drop):=by
 refine⟨by simp[h.1],fun j v x hv hx=>?_⟩
 simp only[aor,an0] at hx
 obtain⟨y,hy,rfl⟩:=hx
 exact⟨VR.dropped (h.2 j v y hv hy).1,(h.2 j v y hv hy).2⟩
theorem oG:∀ (l:List Value) (off k:Nat) (C:Array Value) (j:Nat),off+k+l.length<=C.size ->
  ((l.zipIdx k).foldl (fun cs (c,i)=>cs.setIfInBounds (off+i) c) C)[j]?=if off+k<=j/\j<off+k+l.length then l[j-(off+k)]? else C[j]?
 | [],off,k,C,j,h=>by simp;omega
 | v :: l,off,k,C,j,h=>by
  have h' : off+(k+1)+l.length<=(C.setIfInBounds (off+k) v).size:=by simp at h ⊢;omega
  rw[List.zipIdx_cons,aqK,oG l off (k+1) _ j h']
  by_cases h1:j=off+k
  ·subst h1
   have bf:off+k<C.size:=by simp at h;omega
   rw[if_neg (by omega),if_pos (by simp)]
   simp[bf]
  ·by_cases h2:off+(k+1)<=j/\j<off+(k+1)+l.length
   ·rw[if_pos h2,if_pos (by simp;omega)]
    have:j-(off+k)=j-(off+(k+1))+1:=by omega
    rw[this,apq]
   ·rw[if_neg h2,if_neg (by simp;omega),aqc (by omega)]
theorem nz:∀ (l:List (Value × Nat)) (off:Nat) (C:Array Value),(l.foldl (fun cs (c,i)=>cs.setIfInBounds (off+i) c) C).size=C.size
 | [],off,C=>rfl
 | v :: l,off,C=>by rw[aqK,nz l off];simp
theorem rX{l cs:List AV}{off:Nat}(h:off+cs.length<=l.length)(j:Nat):(putAt l off cs)[j]?=if off<=j/\j<off+cs.length then cs[j-off]? else l[j]?:=by
 have aaI:min off l.length=off:=by omega
 unfold putAt
 simp only[apg,List.length_append,List.length_take,aaI,aoC,aoU]
 by_cases h1:j<off
 ·have e1:j<off+cs.length:=by omega
  rw[if_pos e1,if_pos h1,if_pos h1,if_neg (by omega)]
 ·by_cases h2:j<off+cs.length
  ·rw[if_pos h2,if_neg h1,if_pos ⟨by omega,h2⟩]
  ·rw[if_neg h2,if_neg (by omega)]
   congr 1;omega
theorem pv{l cs:List AV}{off:Nat}(h:off+cs.length<=l.length):(putAt l off cs).length=l.length:=by
 unfold putAt;simp;omega
theorem pD.put{n:Nat}{C D:Array Value}{X Y:List AV}(h:pD gh n w C X)(hd:pD gh n w D Y){off:Nat}(hl:off+Y.length<=X.length) :
  pD gh n w (D.zipIdx.foldl (fun cs (c,i)=>cs.setIfInBounds (off+i) c) C) (putAt X off Y):=by
 have e:D.zipIdx.foldl (fun cs (c,i)=>cs.setIfInBounds (off+i) c) C=(D.toList.zipIdx 0).foldl (fun cs (c,i)=>cs.setIfInBounds (off+i) c) C:=by
  rw[<- Array.foldl_toList,Array.toList_zipIdx]
 rw[e]
 refine⟨by rw[nz,pv hl,h.1],fun j v x hv hx=>?_⟩
 have hD:D.toList.length=Y.length:=by simpa using hd.1
 rw[oG _ _ _ _ _ (by rw[hD,h.1];omega)] at hv
 rw[rX hl] at hx
 simp only[aps,hD] at hv
 by_cases hc:off<=j/\j<off+Y.length
 ·rw[if_pos hc] at hv hx
  exact hd.2 _ v x (by simpa using hv) hx
 ·rw[if_neg hc] at hv hx
  exact h.2 j v x hv hx
theorem yq{n:Nat}{place:Nat->Option (Nat × Nat)} : ∀ (parts:List (Nat × Value)) (ip:List (Nat × Nat × AV)) (C:Array Value) (Z Z' : List AV),pD gh n w C Z->cn Z ip=some Z'->parts.length=ip.length ->
  (∀ (j:Nat) (p:Nat × Value) (q:Nat × Nat × AV),parts[j]?=some p->ip[j]?=some q->place p.1=some (q.1,q.2.1)/\(∀ cs,q.2.2.cells=some cs->pD gh n w p.2.cells cs)) ->
  ∃ C',Instr.fill place C parts=some C'/\pD gh n w C' Z'
 | [],[],C,Z,Z',h,hb,_,_=>by simp[cn] at hb;subst hb;exact⟨C,rfl,h⟩
 | p :: parts,q :: ip,C,Z,Z',h,hb,hl,hp=>by
  obtain⟨h1,h2⟩:=hp 0 p q rfl rfl
  obtain⟨i,v⟩:=p
  obtain⟨off,sz,x⟩:=q
  simp only[cn] at hb
  split at hb
  ·cases hb
  ·rename_i cs gC
   obtain⟨h3,gm⟩:=ae hb
   simp only[aod,fW,aov,ao2] at h3
   have hr:=h2 cs gC
   have gO:v.cells.size=sz:=by rw[hr.1];exact h3.1
   have hlen:(cs.map AV.drop).length=cs.length:=by simp
   obtain⟨C',hf,bN⟩:=yq parts ip _ _ Z' (h.put hr.dropped (off:=off) (by rw[hlen];exact h3.2)) gm (by simpa using hl) (fun j p q mH hq'=>hp (j+1) p q (by simpa using mH) (by simpa using hq'))
   refine⟨C',?_,bN⟩
   simp only at h1
   unfold Instr.fill
   rw[h1]
   have lY:¬ (decide (v.cells.size≠sz) || decide (off+v.cells.size>C.size))=true:=by
    have:=hr.1;have:=h.1
    simp;omega
   simp only
   rw[if_neg lY]
   exact hf
 | [],_ :: _,_,_,_,_,_,hl,_=>by simp at hl
 | _ :: _,[],_,_,_,_,_,hl,_=>by simp at hl
theorem HN{n:Nat}{t:TypeId}{z:List AV}(h:gy P t=some z):∃ i zv,P.info? t=some i/\i.zero=some zv/\pD gh n w zv.cells z:=by
 simp only[gy,an1] at h
 obtain⟨zv,⟨i,hi,hz⟩,hc⟩:=h
 obtain⟨h1,h2⟩:=j8 (gh:=gh) (n:=n) (w:=w) hc
 exact⟨i,zv,hi,hz,by simpa using h1,fun j v x hv hx=>h2 j v x (by simpa using hv) hx⟩
theorem AO{n:Nat}{v:Value}{x:AV}(h:jT v=some x):VR gh n w v (nS x):=by
 have hv:VR gh n w v x:=ud h
 unfold nS
 split
 ·unfold jT at h
  split at h<;>first|(cases h;done)|(injection h with h;cases h;done)|exact .plain _ _ .aj
 ·exact hv
theorem Ca{n:Nat}{v:Value}{x:AV}(h:qC v=some x):VR gh n w v (nS x):=by
 have h0:=jB (gh:=gh) (n:=n) (w:=w) h
 unfold qC at h
 split at h
 ·simp only[an0] at h
  obtain⟨l,_,rfl⟩:=h
  exact h0
 ·exact AO h
theorem qD:∀ {vs:List Value} {xs:List AV},dS vs=some xs->∀ (j:Nat) (v:Value) (x:AV),vs[j]?=some v->xs[j]?=some x->jT v=some x
 | [],xs,h,j,v,x,hv,hx=>by simp at hv
 | u :: vs,xs,h,j,v,x,hv,hx=>by
  simp only[dS,an1,an0] at h
  obtain⟨y,hy,ys,Pz,rfl⟩:=h
  cases j with
  | zero=>simp at hv hx;subst hv hx;exact hy
  | succ j=>exact qD Pz j v x (by simpa using hv) (by simpa using hx)
theorem sj{n:Nat}{t:TypeId}{b:Bool}{z:List AV}(h:(gy P t).map (fun z=>cond b (z.map nS) z)=some z):∃ i zv,P.info? t=some i/\i.zero=some zv/\pD gh n w zv.cells z:=by
 simp only[an0] at h
 obtain⟨z0,h0,rfl⟩:=h
 obtain⟨i,zv,h1,h2,h3⟩:=HN (gh:=gh) (n:=n) (w:=w) h0
 refine⟨i,zv,h1,h2,?_⟩
 cases b with
 | false=>exact h3
 | true =>
  refine⟨by simpa using h3.1,fun j v x hv hx=>?_⟩
  simp only[cond_true,aor,an0] at hx
  obtain⟨y,hy,rfl⟩:=hx
  simp only[gy,an1] at h0
  obtain⟨zv',⟨i',lD,YP⟩,hc⟩:=h0
  rw[h1] at lD
  injection lD with lD
  subst lD
  rw[h2] at YP
  injection YP with YP
  subst YP
  exact⟨AO (qD hc j v y (by simpa using hv) hy),(h3.2 j v y hv hy).2⟩
theorem po(hW:aX G base s.H gh w)(hF:FR L nt gh w a s){x:Operand}{y:aF}(hc:ax nt x=some y):∀ cs,(y.eval G s.T).drop.cells=some cs->pD gh s.H.length w (a.eval x).cells cs:=by
 intro cs gC
 have hf:aG (y.eval G s.T)=true:=by
  rw[<- jE]
  generalize (y.eval G s.T).drop=Y at gC
  cases Y<;>first|rfl|cases gC
 exact rG (cJ hW hF hc rfl hf) gC
theorem wW(hW:aX G base s.H gh w)(hF:FR L nt gh w a s){o:Oper}{t:TypeId}{parts:Array (Nat × Operand)}{fs:Array Go.Field}{z Z:List AV}{ps:List (Nat × Nat × aF)}
  (ho:o.op=.build t parts) {kp:Bool} (hz:(gy P t).map (fun z=>cond kp (z.map nS) z)=some z) (hu:P.underlying t=some (.struct fs)) (hp:mS P nt fs.toList parts.toList=some ps)
  (dA:∃ pl,fs.toList.mapM (fun f=>(P.info? f.type).map fun i=>(f.offset,i.size))=some pl)
  (he:cn z (ps.map fun p=>(p.1,p.2.1,(p.2.2.eval G s.T).drop))=some Z) :
  ∃ v,(execOp a.eval o).run P w=.ok (.value v) w/\mO gh s.H.length nt w s.T s.gen (fP a) v (.agg Z):=by
 obtain⟨i,zv,hi,PA,bN⟩:=sj (gh:=gh) (n:=s.H.length) (w:=w) hz
 obtain⟨pl,tj⟩:=dA
 have inv:∀ (l:List (Nat × Operand)) (ps:List (Nat × Nat × aF)),mS P nt fs.toList l=some ps->l.length=ps.length /\
   ∀ (j:Nat) (p:Nat × Operand) (q:Nat × Nat × aF),l[j]?=some p->ps[j]?=some q->(∃ f,fs.toList[p.1]?=some f/\dV P f.type=some q.2.1/\f.offset=q.1)/\ax nt p.2=some q.2.2:=by
  intro l
  induction l with
  | nil=>intro ps h;simp[mS] at h;subst h;exact⟨rfl,fun j p q h=>by simp at h⟩
  | cons p l ih =>
   intro ps h
   obtain⟨k,x⟩:=p
   simp only[mS,an1,an0] at h
   obtain⟨f,hf,sz,gO,y,hy,rest,hr,rfl⟩:=h
   obtain⟨h1,h2⟩:=ih rest hr
   refine⟨by simp[h1],fun j p q hp hq=>?_⟩
   cases j with
   | zero=>simp at hp hq;subst hp hq;exact⟨⟨f,hf,gO,rfl⟩,hy⟩
   | succ j=>exact h2 j p q (by simpa using hp) (by simpa using hq)
 obtain⟨hl,hinv⟩:=inv _ _ hp
 have aaU:∀ (k:Nat) (f:Go.Field) (sz:Nat),fs.toList[k]?=some f->dV P f.type=some sz->pl.toArray[k]?=some (f.offset,sz):=by
  have gen:∀ (l:List Go.Field) (pl:List (Nat × Nat)),l.mapM (fun f=>(P.info? f.type).map fun i=>(f.offset,i.size))=some pl->∀ (k:Nat) (f:Go.Field) (sz:Nat),l[k]?=some f->dV P f.type=some sz->pl[k]?=some (f.offset,sz):=by
   intro l
   induction l with
   | nil=>intro pl _ k f sz h;simp at h
   | cons g l ih =>
    intro pl h k f sz hk hs
    simp only[List.mapM_cons,Option.bind_eq_bind,Option.pure_def,an1,an0] at h
    obtain⟨q,⟨ii,Mq,rfl⟩,rest,hr,h⟩:=h
    injection h with h
    subst h
    cases k with
    | zero =>
     simp at hk;subst hk
     obtain⟨i',lD,rQ⟩:=mI hs
     rw[lD] at Mq;injection Mq with Mq;subst Mq;simp[rQ]
    | succ k=>simpa using ih rest hr k f sz (by simpa using hk) hs
  intro k f sz hk hs
  simpa using gen _ _ tj k f sz hk hs
 obtain⟨C',hf,uB⟩:=yq (gh:=gh) (w:=w) (n:=s.H.length) (place:=fun x=>pl.toArray[x]?) ((parts.map fun p=>(p.1,a.eval p.2)).toList) (ps.map fun p=>(p.1,p.2.1,(p.2.2.eval G s.T).drop)) zv.cells z Z bN he (by simpa using hl) (by
  intro j p q hp hq
  simp only[aqG,aor,an0] at hp hq
  obtain⟨p0,Pq,rfl⟩:=hp
  obtain⟨q0,hq0,rfl⟩:=hq
  obtain⟨⟨f,hf,hs,rP⟩,hc⟩:=hinv j p0 q0 Pq hq0
  exact⟨by rw[aaU _ f _ hf hs,rP],po hW hF hc⟩)
 have hb:P.built t (parts.map fun p=>(p.1,a.eval p.2)).toList=some C':=by
  unfold Program.built
  rw[hi,hu]
  simp only[PA,tj]
  exact hf
 refine⟨.agg C',by simp[execOp,ho,run_build w t _ C' hb],.dC (.agg _ _ uB.1 (fun j v hj=>?_) (fun j v x hv hx=>(uB.2 j v x hv hx).1))⟩
 have bf:j<Z.length:=by rw[<- uB.1];exact (aoi.1 hj).1
 exact (uB.2 j v _ hj (an' bf)).2
end
end
section
section
variable {G:Nat->List AV}{base nt:Nat}{L:List Nat}{gh:Gh}{w w' : World}{a:Act}{s:AS}{H:ah}
def Gh.alloc(gh:Gh)(b:Nat)(p:bC)(q:Nat->Prop):Gh:={ S:=fun b' o=>gh.S b' o\/(b'=b/\q o),κ:=fun b'=>if b'=b then p else gh.κ b',ρ:=gh.ρ }
structure fp (w w' : World) (o:Obj):Prop where
 heap:w'.heap=w.heap.push o
 os:w'.os=w.os
 tape:w'.tape=w.tape
 output:w'.output=w.output
theorem fp.alloc(w:World)(o:Obj):fp w (w.alloc o) o:=⟨rfl,rfl,rfl,rfl⟩
theorem fp.drew(w:World)(o:Obj):fp w (w.drew.alloc o) o:=⟨rfl,rfl,rfl,rfl⟩
theorem fp.old{o:Obj}(h:fp w w' o)(b:Nat)(hb:b<w.heap.size):w'.heap[b]?=w.heap[b]?:=by
 rw[h.heap,apV,if_neg (by omega)]
theorem fp.new{o:Obj}(h:fp w w' o):w'.heap[w.heap.size]?=some o:=by
 rw[h.heap,apV,if_pos rfl]
theorem fp.size{o:Obj}(h:fp w w' o):w'.heap.size=w.heap.size+1:=by rw[h.heap];simp
theorem cell_of_heap{b o:Nat}(h:w'.heap[b]?=w.heap[b]?):w'.cell? ⟨b,o,none⟩=w.cell? ⟨b,o,none⟩:=by simp[World.cell?,h]
theorem aX.bY(hW:aX G base H gh w)(b:Nat)(hb:w.heap.size<=b):gh.κ b≠.outer:=by rw[hW.fresh b hb];simp
theorem ig(hW:aX G base H gh w){o:Obj}(hp:fp w w' o){p:bC}(dn:p≠.outer)(q:Nat->Prop)(n:Nat):Step (fun _=>False) n gh w (gh.alloc w.heap.size p q) w':=by
 refine⟨fun b o h=>.inl h,fun b o h=>cell_of_heap (hp.old b (hW.nW b o h)),by rw[hp.size];omega,hp.os,hp.tape,hp.output,?_,?_,fun _ _=>rfl,fun b ty m hb=>by
  obtain⟨C,fr,h1,h2⟩:=hb
  exact⟨C,fr,by rw[hp.old b (aoi.1 h1).1];exact h1,h2⟩,fun b E ck hs hb=>by rw[hp.old b (hW.nW b 0 hs)];exact hb⟩
 ·intro b hb _
  have w9:b≠w.heap.size:=by omega
  refine⟨.inl (hp.old b hb),by simp[Gh.alloc,w9],fun o ho=>?_⟩
  rcases ho with ho|⟨e,_⟩
  ·exact ho
  ·exact absurd e w9
 ·intro b hb
  show (if b=w.heap.size then p else gh.κ b)≠.outer
  split
  ·exact dn
  ·exact hW.bY b hb
theorem mP(hW:aX G base H gh w){o:Obj}(hp:fp w w' o){p:bC}(dn:p≠.outer)(q:Nat->Prop)(n:Nat):Ext n gh w (gh.alloc w.heap.size p q) w':=by
 refine⟨(ig hW hp dn q n).mono (fun _ h=>h.elim),fun b hb=>?_⟩
 have gm:(if b=w.heap.size then p else gh.κ b)=.outer:=hb
 split at gm
 ·exact absurd gm dn
 ·exact gm
theorem aX.step{touch:bC->Prop}{aV:Gh}(hW:aX G base H gh w)(st:Step touch H.length gh w aV w')(ht:∀ l,¬ touch (.hb l)/\∀ j,¬ touch (.hs l j))
  (hs:∀ b o,aV.S b o->b<w'.heap.size) (hk:∀ b,aV.κ b≠.none->base<=b/\b<w'.heap.size)
  (jZ:∀ b o m,aV.S b o->gh.S b o\/(w'.cell? ⟨b,o,none⟩=some (.int .u8 m)->∃ C fr,w'.heap[b]?=some (.cells C ij fr))):aX G base H aV w':=by
 refine⟨aoS hW.size st.size,hs,hk,fun g j x hx=>?_,fun loc ty cs hl=>?_,hW.refs,fun g hg=>(hW.xf g hg).imp fun ty h=>st.len g ty _ h,hW.ko st jZ,fun loc o hl=>?_,fun loc ty cs hl=>?_⟩
 ·obtain⟨v,h1,h2,h3⟩:=hW.aZ g j x hx
  exact⟨v,(st.cell g j h3).trans h1,h2.mono st.S st.cell st.mp,st.S g j h3⟩
 ·have bf:loc<H.length:=(an9.1 hl).1
  have h:=(hW.boxes loc ty cs hl).mono st (aoa _) (ht loc).1 (ht loc).2
  rw[st.ρ loc bf];exact h
 ·rw[st.ρ loc (an9.1 hl).1]
  exact (hW.more loc o hl).mono st (aoa _) (ht loc).1 (ht loc).2
 ·rw[st.ρ loc (an9.1 hl).1]
  exact fun hf=>st.len _ _ _ (hW.types loc ty cs hl hf)
theorem aX.alloc(hW:aX G base H gh w){o:Obj}(hp:fp w w' o){p:bC}(dn:p≠.outer)(q:Nat->Prop)
  (hq:∀ k m,q k->w'.cell? ⟨w.heap.size,k,none⟩=some (.int .u8 m)->∃ C fr,w'.heap[w.heap.size]?=some (.cells C ij fr)):aX G base H (gh.alloc w.heap.size p q) w':=by
 refine hW.step (ig hW hp dn q H.length) (fun l=>⟨id,fun _=>id⟩) ?_ ?_ (fun b k m h=>h.elim .inl (fun ⟨e,hk⟩=>.inr (by subst e;exact hq k m hk)))
 ·intro b o ho
  rw[hp.size]
  rcases ho with ho|⟨rfl,_⟩
  ·have:=hW.nW b o ho;omega
  ·omega
 ·intro b hb
  rw[hp.size]
  have gm:(if b=w.heap.size then p else gh.κ b)≠.none:=hb
  split at gm
  ·rename_i e
   have:=hW.size
   omega
  ·have:=hW.oL b gm;omega
def Gh.o6(gh:Gh)(b:Nat)(p:bC):Gh:={ gh with κ:=fun b'=>if b'=b then p else gh.κ b' }
theorem kN(hW:aX G base H gh w){b:Nat}(hb:b<w.heap.size)(p:bC)(n:Nat):Step (fun r=>r=gh.κ b) n gh w (gh.o6 b p) w:=by
 refine⟨fun _ _ h=>h,fun _ _ _=>rfl,aoa _,rfl,rfl,rfl,fun b' gm hn=>⟨.inl rfl,?_,fun _ h=>h⟩,fun b' gm=>?_,fun _ _=>rfl,fun _ _ _ h=>h,fun _ _ _ _ h=>h⟩
 ·have dn:b'≠b:=by rintro rfl;exact hn rfl
  simp[Gh.o6,dn]
 ·have dn:b'≠b:=by omega
  simp only[Gh.o6,if_neg dn]
  exact hW.bY b' gm
theorem uo(hW:aX G base H gh w){b:Nat}(hb:b<w.heap.size){p:bC}(hp:p≠.outer)(h0:gh.κ b≠.none)(h1:gh.κ b≠.outer)(n:Nat):Ext n gh w (gh.o6 b p) w:=by
 refine⟨(kN hW hb p n).mono (fun r h=>by rw[h];exact⟨h0,h1⟩),fun b' gm=>?_⟩
 have jF:(if b'=b then p else gh.κ b')=.outer:=gm
 split at jF
 ·exact absurd jF hp
 ·exact jF
theorem Jf(hW:aX G base H gh w){b:Nat}(hb:b<w.heap.size)(p:bC)(h0:gh.κ b≠.none)(ht:∀ l,gh.κ b≠.hb l/\∀ j,gh.κ b≠.hs l j):aX G base H (gh.o6 b p) w:=by
 refine hW.step (kN hW hb p H.length) (fun l=>⟨fun h=>(ht l).1 h.symm,fun j h=>(ht l).2 j h.symm⟩) hW.nW ?_ (fun _ _ _ h=>.inl h)
 intro b' gm
 have jF:(if b'=b then p else gh.κ b')≠.none:=gm
 split at jF
 ·rename_i e;rw[e];exact hW.oL b h0
 ·exact hW.oL b' jF
theorem pz(hW:aX G base H gh w){b:Nat}{C C' : Array Value}{ty:TypeId}{fr:Nat × Nat}(hb:w.heap[b]?=some (.cells C ty fr))(gO:C'.size=C.size)(q:Nat->Prop)
  (cx:∀ o,gh.S b o->C'[o]?=C[o]?) (p:bC) (n:Nat) :
  Step (fun r=>r=gh.κ b) n gh w { gh with S:=fun b' o=>gh.S b' o\/(b'=b/\q o),κ:=fun b'=>if b'=b then p else gh.κ b' } (w.setRow b C'):=by
 have bf:b<w.heap.size:=(aoi.1 hb).1
 refine⟨fun b o h=>.inl h,fun b' o h=>?_,by simp,rfl,rfl,rfl,fun b' gm hn=>?_,fun b' gm=>?_,fun _ _=>rfl,fun b' lZ m hm=>by
  obtain⟨D,fr',h1,h2⟩:=hm
  by_cases e:b'=b
  ·subst e
   rw[hb] at h1
   injection h1 with h1
   injection h1 with h1 h3 h4
   subst h1 h3
   exact⟨C',fr,setRow_heap w b' C C' ty fr hb,by rw[gO,h2]⟩
  ·exact⟨D,fr',by rw[setRow_other w b b' C' e];exact h1,h2⟩,fun b' E ck hs hm=>by
  have e:b'≠b:=by rintro rfl;rw[hb] at hm;cases hm
  rw[setRow_other w b b' C' e];exact hm⟩
 ·by_cases e:b'=b
  ·subst e
   rw[cell_setRow_same w b' o C C' ty fr hb,cx o h]
   simp[World.cell?,hb]
  ·exact cell_of_heap (setRow_other w b b' C' e)
 ·have dn:b'≠b:=by rintro rfl;exact hn rfl
  refine⟨.inl (setRow_other w b b' C' dn),by simp[dn],fun o ho=>?_⟩
  rcases ho with ho|⟨e,_⟩
  ·exact ho
  ·exact absurd e dn
 ·have dn:b'≠b:=by omega
  simp only[if_neg dn]
  exact hW.bY b' gm
theorem xB(hW:aX G base H gh w){b:Nat}{C C' : Array Value}{ty:TypeId}{fr:Nat × Nat}(hb:w.heap[b]?=some (.cells C ty fr))(gO:C'.size=C.size)(q:Nat->Prop)
  (cx:∀ o,gh.S b o->C'[o]?=C[o]?) {p:bC} (hp:p≠.outer) (h0:gh.κ b≠.none) (h1:gh.κ b≠.outer) (n:Nat) :
  Ext n gh w { gh with S:=fun b' o=>gh.S b' o\/(b'=b/\q o),κ:=fun b'=>if b'=b then p else gh.κ b' } (w.setRow b C'):=by
 refine⟨(pz hW hb gO q cx p n).mono (fun r h=>by rw[h];exact⟨h0,h1⟩),fun b' gm=>?_⟩
 have jF:(if b'=b then p else gh.κ b')=.outer:=gm
 split at jF
 ·exact absurd jF hp
 ·exact jF
theorem Lf(hW:aX G base H gh w){b:Nat}{C C' : Array Value}{ty:TypeId}{fr:Nat × Nat}(hb:w.heap[b]?=some (.cells C ty fr))(gO:C'.size=C.size)(q:Nat->Prop)
  (cx:∀ o,gh.S b o->C'[o]?=C[o]?) (hq:∀ k m,q k->C'[k]?=some (.int .u8 m)->ty=ij) (p:bC) (h0:gh.κ b≠.none) (ht:∀ l,gh.κ b≠.hb l/\∀ j,gh.κ b≠.hs l j) :
  aX G base H { gh with S:=fun b' o=>gh.S b' o\/(b'=b/\q o),κ:=fun b'=>if b'=b then p else gh.κ b' } (w.setRow b C'):=by
 have bf:b<w.heap.size:=(aoi.1 hb).1
 refine hW.step (pz hW hb gO q cx p H.length) (fun l=>⟨fun h=>(ht l).1 h.symm,fun j h=>(ht l).2 j h.symm⟩) ?_ ?_ (fun b' k m h=>h.elim .inl (fun ⟨e,hk⟩=>.inr (fun hc=>by
   subst e
   rw[cell_setRow_same w b' k C C' ty fr hb] at hc
   have:=hq k m hk hc
   subst this
   exact⟨C',fr,setRow_heap w b' C C' _ fr hb⟩)))
 ·intro b' o ho
  simp
  rcases ho with ho|⟨rfl,_⟩
  ·exact hW.nW b' o ho
  ·exact bf
 ·intro b' gm
  simp
  have jF:(if b'=b then p else gh.κ b')≠.none:=gm
  split at jF
  ·rename_i e;rw[e];exact hW.oL b h0
  ·exact hW.oL b' jF
theorem FR.cc{aV:Gh}{touch:bC->Prop}(h:FR L nt gh w a s)(st:Step touch s.H.length gh w aV w'){t:Nat}{X:AV}{H' : ah}{lo' : Nat}(hH:s.H.length<=H'.length)
  (ht:∀ i,i≠t->¬ touch (.bx i)/\¬ touch (.sl i)/\∀ j,¬ touch (.sc i j))
  (hX:(t<nt/\bk X=bk (s.T t))\/bk X=none) (hsr:t<nt->SR aV H'.length nt w' s.T s.gen (fP a) t (fP a t) X) :
  FR L nt aV w' a (({ s with H:=H',lo:=lo' } : AS).cc t X):=by
 refine h.update st h.defers h.size hH (aoa _) (fun i=>i=t) ?_ ?_ ?_
 ·intro i hi
  exact⟨by simp[AS.cc,iO,hi],fun _=>⟨rfl,ht i hi⟩⟩
 ·rintro i rfl
  simp only[AS.cc,iO,apB]
  rcases hX with ⟨h1,h2⟩|h1
  ·exact .inl ⟨h1,h2,trivial⟩
  ·exact .inr (.inl h1)
 ·rintro i rfl hi
  simp only[AS.cc,iO,apB]
  refine SR.mono (touch:=fun _=>False) (n:=H'.length) (gh:=aV) (w:=w') (Step.refl _ _ _ _ (fun b hb=>st.fresh b (aoS st.size hb))) (aoa _) (aoa _) id id (fun _=>id) ?_ (hsr hi)
  intro k hk
  by_cases NF:k=i
  ·subst NF
   rcases hX with ⟨h1,h2⟩|h1
   ·exact .inl (by rw[iO,if_pos rfl];exact⟨h2,rfl⟩)
   ·exact .inr (.inl (by simp[iO,h1]))
  ·exact .inl ⟨by simp[iO,NF],rfl⟩
theorem FR.RW(h:FR L nt gh w a s){gen' : Nat}(hg:s.gen<=gen')(fI:∀ b,w.heap.size<=b->gh.κ b≠.outer)(d:Option Nat)(hd:∀ k,d=some k->k<nt){v:Value}{x:AV}
  (hx:bk x=none\/((∃ g,s.gen<=g/\bk x=some g)/\∀ k,d=some k->k∈L))
  (hv:∀ k,d=some k->SR gh s.H.length nt w s.T gen' (fP a) k v x):FR L nt gh w (a.put d v) (({ s with gen:=gen' } : AS).cH d x):=by
 have st:Step (fun _=>False) s.H.length gh w gh w:=Step.refl _ _ _ _ fI
 cases d with
 | none=>exact h.update st h.defers h.size (aoa _) hg (fun _=>False) (fun i _=>⟨rfl,fun _=>⟨rfl,id,id,fun _=>id⟩⟩) (fun _ h=>h.elim) (fun _ h=>h.elim)
 | some d =>
  have bf:=hd d rfl
  have gO:d<a.tmps.size:=by rw[h.size];exact bf
  refine h.update (s':=({ s with gen:=gen' } : AS).cH (some d) x) st ((wN a (some d) v).trans h.defers) ((Hj a (some d) v).trans h.size) (aoa _) hg (fun i=>i=d) ?_ ?_ ?_
  ·intro i hi
   exact⟨by simp[AS.cH,AS.cc,iO,hi],fun _=>⟨by rw[oy a d v i gO,if_neg hi],id,id,fun _=>id⟩⟩
  ·rintro i rfl
   simp only[AS.cH,AS.cc,iO,apB]
   rcases hx with hx|⟨⟨g,hg1,hg2⟩,hl⟩
   ·exact .inr (.inl hx)
   ·exact .inr (.inr ⟨hl i rfl,g,hg1,hg2⟩)
  ·rintro i rfl hi
   simp only[AS.cH,AS.cc,iO,apB]
   rw[oy a i v i gO,if_pos rfl]
   have sE:=hv i rfl
   cases x
   case lref b g off =>
    obtain⟨h1,h2,h3⟩:=sE
    refine⟨h1,h2,fun sk b' gm=>?_⟩
    by_cases zP:b=i
    ·subst zP;simp[iO,bk] at sk
    ·simp only[iO,if_neg zP] at sk
     rw[oy a i v b gO,if_neg zP] at gm
     exact h3 sk b' gm
   case lsr b g =>
    obtain⟨h1,h2,h3⟩:=sE
    refine⟨h1,h2,fun sk=>?_⟩
    by_cases zP:b=i
    ·subst zP;simp[iO,bk] at sk
    ·simp only[iO,if_neg zP] at sk
     rw[oy a i v b gO,if_neg zP]
     exact h3 sk
   case eref b g r z off =>
    obtain⟨h1,h2,h3⟩:=sE
    refine⟨h1,h2,fun sk b' k cap gm=>?_⟩
    by_cases zP:b=i
    ·subst zP;simp[iO,bk] at sk
    ·simp only[iO,if_neg zP] at sk
     rw[oy a i v b gO,if_neg zP] at gm
     exact h3 sk b' k cap gm
   all_goals exact sE
end
end
section
section
variable {P:Program}{G:Nat->List AV}{base nt:Nat}{L:List Nat}{gh:Gh}{w:World}{a:Act}{s:AS}
structure Out (G:Nat->List AV) (base nt:Nat) (L:List Nat) (gh:Gh) (w:World) (a:Act) (s:AS) (d:Option Nat) (x:AV) (s' : AS) (v' : Value) (aV:Gh) (w' : World):Prop where
 W:aX G base s'.H aV w'
 F:FR L nt aV w' (a.put d v') (s'.cH d x)
 E:Ext s.H.length gh w aV w'
def tP(P:Program)(a:Act)(o:Oper)(w:World)(v' : Value)(w' : World):Prop :=
 (execOp a.eval o).run P w=.ok (.value v') w'\/((execOp a.eval o).run P w=.ok .skip w'/\v'=undef)
theorem tP.wp{o:Oper}{v' : Value}{w' : World}{K:Act->World->Prop}{Q:Exit->Act->World->Prop}(h:tP P a o w v' w')(hK:K (a.put o.dst v') w'):o.wp P a w K Q:=by
 unfold Oper.wp
 rcases h with h|⟨h,rfl⟩
 ·rw[h];exact hK
 ·rw[h];exact hK
theorem Out.pure(hW:aX G base s.H gh w)(hF:FR L nt gh w a s){d:Option Nat}(hd:∀ k,d=some k->k<nt){v:Value}{x:AV}(hv:mO gh s.H.length nt w s.T s.gen (fP a) v x) :
  Out G base nt L gh w a s d x s v gh w:=by
 refine⟨hW,?_,Ext.refl _ _ _ (fun b hb=>hW.bY b hb)⟩
 have:=hF.put (touch:=fun _=>False) (H':=s.H) (lo':=s.lo) (Step.refl _ _ _ _ (fun b hb=>hW.bY b hb)) (fun i=>⟨id,id,fun _=>id⟩) (aoa _) d hd hv
 exact this
theorem SG{n:Nat}{T:aQ}{gen:Nat}{tm:Nat->Value}{i:Nat}{v:Value}{e:List (List AV)}{own:Bool}(h:CR gh n w (.sl i) v (.slice e own)):SR gh n nt w T gen tm i v (.slice e own):=h
def iC(S:Nat->Nat->Prop)(w:World)(sz:Nat)(C:Array Value)(E:List (List AV)):Prop :=
 C.size=E.length*sz/\(∀ (i:Nat) (r:List AV),E[i]?=some r->r.length=sz) /\
  ∀ (i j:Nat) (r:List AV) (x:AV),E[i]?=some r->r[j]?=some x->∃ v,C[i*sz+j]?=some v/\PR S w v x
theorem VR.ke{n:Nat}{v:Value}{x:AV}(h:VR gh n w v x)(hp:x.plain=true):PR gh.S w v x:=by
 cases h with
 | plain _ _ h=>exact h
 | full=>simp[AV.plain] at hp
 | ref=>simp[AV.plain] at hp
 | sref=>simp[AV.plain] at hp
 | mref=>simp[AV.plain] at hp
 | func f fs cs xs ys hf hc h1 h2 =>
  cases xs<;>cases ys<;>simp[AV.plain] at hp
  have e1:fs=#[]:=aqd hf
  have e2:cs=#[]:=aqd hc
  subst e1 e2
  exact .func f
 | iface t v x h =>
  cases x<;>simp[AV.plain] at hp
  all_goals
   cases h with
   | plain _ _ h=>exact .iface _ _ _ h
 | agg=>simp[AV.plain] at hp
 | tuple=>simp[AV.plain] at hp
theorem Ow{n:Nat}{v:Value}{x:AV}{sz:Nat}{cs:List AV}(hx:∀ ds,x.cells=some ds->pD gh n w v.cells ds)(he:x.elem sz=some cs) :
  v.cells.size=sz/\cs.length=sz/\∀ (j:Nat) (y:AV),cs[j]?=some y->∃ u,v.cells[j]?=some u/\PR gh.S w u y:=by
 unfold AV.elem at he
 split at he
 ·cases he
 ·rename_i ds NB
  obtain⟨h1,h2⟩:=ae he
  injection h2 with h2
  subst h2
  simp only[aod,fW,aov] at h1
  have hr:=(hx ds NB).dropped
  refine⟨by rw[hr.1];exact h1.1,h1.1,fun j y hy=>?_⟩
  have hj:j<v.cells.size:=by rw[hr.1];exact (an9.1 hy).1
  have hv:v.cells[j]?=some v.cells[j]:=aop hj
  exact⟨_,hv,((hr.2 j _ y hv hy).1).ke (aof.1 h1.2 y (aoo hy))⟩
theorem tE{i n sz j:Nat}(hi:i<n)(hj:j<sz):i*sz+j<n*sz:=by
 have:(i+1)*sz<=n*sz:=aot _ hi
 rw[aoT] at this
 omega
theorem iC.put{S:Nat->Nat->Prop}{sz:Nat}{C D:Array Value}{E:List (List AV)}{cs:List AV}{i:Nat}(h:iC S w sz C E)(hi:i<E.length)(hD:D.size=sz)(gC:cs.length=sz)
  (cL:∀ (j:Nat) (y:AV),cs[j]?=some y->∃ u,D[j]?=some u/\PR S w u y):iC S w sz (D.zipIdx.foldl (fun q (c,k)=>q.setIfInBounds (i*sz+k) c) C) (E.set i cs):=by
 have e:D.zipIdx.foldl (fun q (c,k)=>q.setIfInBounds (i*sz+k) c) C=(D.toList.zipIdx 0).foldl (fun q (c,k)=>q.setIfInBounds (i*sz+k) c) C:=by
  rw[<- Array.foldl_toList,Array.toList_zipIdx]
 have hDl:D.toList.length=sz:=by simpa using hD
 have hle:i*sz+sz<=C.size:=by
  have:(i+1)*sz<=E.length*sz:=aot _ hi
  rw[aoT] at this
  rw[h.1];omega
 rw[e]
 refine⟨by rw[nz,h.1];simp,fun k r hk=>?_,fun k j r x hk hj=>?_⟩
 ·rw[api] at hk
  split at hk
  ·rename_i NF
   subst NF
   injection hk with hk;subst hk;exact gC
  ·exact h.2.1 k r hk
 ·rw[oG _ _ _ _ _ (by rw[hDl];omega)]
  simp only[aps,hDl]
  rw[api] at hk
  split at hk
  ·rename_i NF
   subst NF
   ·injection hk with hk
    subst hk
    have sn:j<sz:=by rw[<- gC];exact (an9.1 hj).1
    rw[if_pos ⟨by omega,by omega⟩]
    obtain⟨u,hu,hp⟩:=cL j x hj
    refine⟨u,?_,hp⟩
    rw[show i*sz+j-i*sz=j by omega]
    simpa using hu
  ·rename_i NF
   have sn:j<sz:=by rw[<- h.2.1 k r hk];exact (an9.1 hj).1
   have lY:¬ (i*sz<=k*sz+j/\k*sz+j<i*sz+sz):=by
    rintro ⟨c1,c2⟩
    have:i=k:=by
     rcases aqD i k with h'|h'|h'
     ·have:(i+1)*sz<=k*sz:=aot _ h'
      rw[aoT] at this;omega
     ·exact h'
     ·have:(k+1)*sz<=i*sz:=aot _ h'
      rw[aoT] at this;omega
    exact NF this
   rw[if_neg lY]
   exact h.2.2 k j r x hk hj
theorem AX{S:Nat->Nat->Prop}{sz:Nat} : ∀ (parts:List (Nat × Value)) (ip:List (Nat × AV)) (C:Array Value) (E E' : List (List AV)),iC S w sz C E->cY sz E ip=some E'->parts.length=ip.length ->
  (∀ (j:Nat) (p:Nat × Value) (q:Nat × AV),parts[j]?=some p->ip[j]?=some q->p.1=q.1/\∀ cs,q.2.elem sz=some cs->p.2.cells.size=sz/\cs.length=sz/\∀ (j:Nat) (y:AV),cs[j]?=some y->∃ u,p.2.cells[j]?=some u/\PR S w u y) ->
  ∃ C',Instr.fill (fun i=>some (i*sz,sz)) C parts=some C'/\iC S w sz C' E'
 | [],[],C,E,E',h,hb,_,_=>by simp[cY] at hb;subst hb;exact⟨C,rfl,h⟩
 | p :: parts,q :: ip,C,E,E',h,hb,hl,hp=>by
  obtain⟨h1,h2⟩:=hp 0 p q rfl rfl
  obtain⟨i,v⟩:=p
  obtain⟨i',x⟩:=q
  simp only at h1
  subst h1
  simp only[cY] at hb
  split at hb
  ·cases hb
  ·rename_i cs gC
   obtain⟨h3,gm⟩:=ae hb
   have hi:i<E.length:=by simpa [aoO] using h3
   obtain⟨c1,c2,c3⟩:=h2 cs gC
   obtain⟨C',hf,bN⟩:=AX parts ip _ _ E' (h.put hi c1 c2 c3) gm (by simpa using hl) (fun j p q mH hq'=>hp (j+1) p q (by simpa using mH) (by simpa using hq'))
   refine⟨C',?_,bN⟩
   unfold Instr.fill
   simp only
   have hle:i*sz+sz<=C.size:=by
    have:(i+1)*sz<=E.length*sz:=aot _ hi
    rw[aoT] at this
    rw[h.1];omega
   have lY:¬ (decide (v.cells.size≠sz) || decide (i*sz+v.cells.size>C.size))=true:=by
    simp at c1;simp;omega
   rw[if_neg lY]
   exact hf
 | [],_ :: _,_,_,_,_,_,hl,_=>by simp at hl
 | _ :: _,[],_,_,_,_,_,hl,_=>by simp at hl
theorem iC.slice{S:Nat->Nat->Prop}{sz:Nat}{C:Array Value}{E:List (List AV)}{w' : World}{ty:TypeId}(h:iC S w sz C E){gh:Gh}(hS:gh.S=S){C' : Array Value}{p:bC}(hp:fp w w' (.cells C' ty))
  (hW:∀ b o,S b o->b<w.heap.size) (hC:∀ j,j<C.size->C'[j]?=C[j]?) {q:Nat->Prop} (hq:∀ j,j<E.length*sz->q j) (cap:Nat) (jG:E.length<=cap) :
  PR (gh.alloc w.heap.size p q).S w' (.slice (some ⟨w.heap.size,0,none⟩) E.length cap) (.slice E false):=by
 subst hS
 have key:∀ (i j:Nat) (r:List AV) (x:AV),E[i]?=some r->r[j]?=some x->∃ v,C[i*sz+j]?=some v/\PR gh.S w v x/\i*sz+j<E.length*sz:=by
  intro i j r x hi hj
  obtain⟨v,hv,lM⟩:=h.2.2 i j r x hi hj
  exact⟨v,hv,lM,by rw[<- h.1];exact (aoi.1 hv).1⟩
 refine .slice w.heap.size 0 E.length cap sz E (fun i j=>C.getD (i*sz+j) undef) rfl jG h.2.1 ?_ ?_
 ·intro i j r x hi hj
  obtain⟨v,hv,lM,bf⟩:=key i j r x hi hj
  have oa:i*sz+j<C.size:=by rw[h.1];exact bf
  have hg:C.getD (i*sz+j) undef=v:=by
   rw[aop oa] at hv
   injection hv with hv
   simp[oa,hv]
  refine⟨.inr ⟨rfl,by simpa using hq _ bf⟩,?_,by rw[hg];exact lM.fw⟩
  rw[hg,Nat.zero_add]
  simp only[World.cell?,hp.new]
  simpa [hC _ oa] using hv
 ·intro i j r x hi hj
  obtain⟨v,hv,lM,bf⟩:=key i j r x hi hj
  have oa:i*sz+j<C.size:=by rw[h.1];exact bf
  have hg:C.getD (i*sz+j) undef=v:=by
   rw[aop oa] at hv
   injection hv with hv
   simp[oa,hv]
  rw[hg]
  exact lM.mono (fun b o ho=>.inl ho) (fun b o ho=>cell_of_heap (hp.old b (hW b o ho))) (fun b E ck hs hb=>by rw[hp.old b (hW b 0 hs)];exact hb)
end
end
section
section
variable {P:Program}{G:Nat->List AV}{base nt:Nat}{L:List Nat}{gh:Gh}{w w' : World}{a:Act}{s:AS}{H:ah}
def NI:Option Nat->bC
 | some d=>.sl d
 | none=>.none
def HQ:Option Nat->bC
 | some d=>.bx d
 | none=>.none
theorem ox(d:Option Nat):NI d≠.outer:=by cases d<;>simp[NI]
theorem tT(d:Option Nat):HQ d≠.outer:=by cases d<;>simp[HQ]
theorem FR.grown{aV:Gh}{touch:bC->Prop}(h:FR L nt gh w a s)(st:Step touch s.H.length gh w aV w')(ht:∀ i,¬ touch (.bx i)/\¬ touch (.sl i)/\∀ j,¬ touch (.sc i j))
  {H' : ah} {lo' : Nat} (hH:s.H.length<=H'.length):FR L nt aV w' a { s with H:=H',lo:=lo' } :=
 h.update st h.defers h.size hH (aoa _) (fun _=>False) (fun i _=>⟨rfl,fun _=>⟨rfl,ht i⟩⟩) (fun _ h=>h.elim) (fun _ h=>h.elim)
def Gh.bJ(gh:Gh)(b n:Nat):Gh:={ gh.alloc b (.hb n) (fun _=>False) with ρ:=fun l=>if l=n then b else gh.ρ l }
theorem gB(hW:aX G base H gh w){o:Obj}(hp:fp w w' o):Step (fun _=>False) H.length gh w (gh.bJ w.heap.size H.length) w':=by
 have h:=ig hW hp (p:=.hb H.length) (by simp) (fun _=>False) H.length
 refine⟨h.S,h.cell,h.size,h.os,h.tape,h.output,h.AF,h.fresh,fun loc hl=>?_,h.len,h.mp⟩
 show (if loc=H.length then _ else _)=_
 rw[if_neg (by omega)]
theorem kS(hW:aX G base H gh w){o:Obj}(hp:fp w w' o):Ext H.length gh w (gh.bJ w.heap.size H.length) w':=by
 refine⟨(gB hW hp).mono (fun _ h=>h.elim),fun b hb=>?_⟩
 have gm:(if b=w.heap.size then bC.hb H.length else gh.κ b)=.outer:=hb
 split at gm
 ·cases gm
 ·exact gm
theorem aX.bJ(hW:aX G base H gh w){C:Array Value}{ty:TypeId}(hp:fp w w' (.cells C ty)){cs:List AV}(bN:pD gh H.length w C cs)(hr:cs.all (bo H.length)=true) :
  aX G base (H++[.box ty cs]) (gh.bJ w.heap.size H.length) w':=by
 have st:=gB hW hp
 refine⟨aoS hW.size st.size,?_,?_,fun g j x hx=>?_,fun loc lZ ds hl=>?_,fun loc lZ ds hl=>?_,fun g hg=>(hW.xf g hg).imp fun ty h=>st.len g ty _ h,hW.ko st (fun b o m h=>h.elim .inl (fun h=>h.2.elim)),fun loc o hl=>?_,fun loc lZ ds hl=>?_⟩
 ·intro b o ho
  rw[hp.size]
  rcases ho with ho|⟨_,ho⟩
  ·have:=hW.nW b o ho;omega
  ·exact ho.elim
 ·intro b hb
  rw[hp.size]
  have gm:(if b=w.heap.size then bC.hb H.length else gh.κ b)≠.none:=hb
  split at gm
  ·rename_i e
   have:=hW.size
   omega
  ·have:=hW.oL b gm;omega
 ·obtain⟨v,h1,h2,h3⟩:=hW.aZ g j x hx
  exact⟨v,(st.cell g j h3).trans h1,h2.mono st.S st.cell st.mp,st.S g j h3⟩
 ·rw[List.length_append,apz]
  by_cases bf:loc<H.length
  ·rw[aox bf] at hl
   have h:=(hW.boxes loc lZ ds hl).mono st (n':=H.length+1) (ao' _) id (fun _=>id)
   rw[st.ρ loc bf];exact h
  ·rw[aoz (by omega)] at hl
   have hz:loc=H.length:=by
    have:=(an9.1 hl).1
    simp at this;omega
   subst hz
   simp only[aqa,aoB,an2,bZ.box.injEq] at hl
   obtain⟨rfl,rfl⟩:=hl
   have hρ:(gh.bJ w.heap.size H.length).ρ H.length=w.heap.size:=by simp[Gh.bJ]
   rw[hρ]
   refine⟨by simp[Gh.bJ,Gh.alloc],?_,C,ty,hp.new,apP bN.1.symm,fun j v x hv hx=>?_⟩
   ·rintro o (ho|⟨_,ho⟩)
    ·have:=hW.nW _ o ho;omega
    ·exact ho
   ·obtain⟨h1,h2⟩:=bN.2 j v x hv hx
    exact⟨h2,.inl (h1.mono st (ao' _))⟩
 ·by_cases bf:loc<H.length
  ·rw[aox bf] at hl
   exact hW.refs loc lZ ds hl
  ·rw[aoz (by omega)] at hl
   have hz:loc=H.length:=by
    have:=(an9.1 hl).1
    simp at this;omega
   subst hz
   simp only[aqa,aoB,an2,bZ.box.injEq] at hl
   obtain⟨rfl,rfl⟩:=hl
   exact hr
 ·rw[List.length_append,apz]
  by_cases bf:loc<H.length
  ·rw[aox bf] at hl
   rw[st.ρ loc bf]
   exact (hW.more loc o hl).mono st (ao' _) id (fun _=>id)
  ·rw[aoz (by omega)] at hl
   have hz:loc=H.length:=by
    have:=(an9.1 hl).1
    simp at this;omega
   subst hz
   simp only[aqa,aoB,an2] at hl
   subst hl
   trivial
 ·by_cases bf:loc<H.length
  ·rw[aox bf] at hl
   rw[st.ρ loc bf]
   exact fun hf=>st.len _ _ _ (hW.types loc lZ ds hl hf)
  ·rw[aoz (by omega)] at hl
   have hz:loc=H.length:=by
    have:=(an9.1 hl).1
    simp at this;omega
   subst hz
   simp only[aqa,aoB,an2,bZ.box.injEq] at hl
   obtain⟨rfl,rfl⟩:=hl
   have hρ:(gh.bJ w.heap.size H.length).ρ H.length=w.heap.size:=by simp[Gh.bJ]
   rw[hρ]
   exact fun _=>⟨C,(0,0),hp.new,bN.1⟩
theorem Out.bJ(hW:aX G base s.H gh w)(hF:FR L nt gh w a s){d:Option Nat}(hd:∀ k,d=some k->k<nt){C:Array Value}{ty:TypeId}(hp:fp w w' (.cells C ty)){cs:List AV}(bN:pD gh s.H.length w C cs)
  (hr:cs.all (bo s.H.length)=true) :
  Out G base nt L gh w a s d (.ref s.H.length 0) (s.gk ⟨s.H++[.box ty cs],s.H.length⟩) (.pointer (some ⟨w.heap.size,0,none⟩)) (gh.bJ w.heap.size s.H.length) w':=by
 have hρ:(gh.bJ w.heap.size s.H.length).ρ s.H.length=w.heap.size:=by simp[Gh.bJ]
 have hv:VR (gh.bJ w.heap.size s.H.length) (s.H++[bZ.box ty cs]).length w' (.pointer (some ⟨w.heap.size,0,none⟩)) (.ref s.H.length 0):=by
  have:=VR.ref (gh:=gh.bJ w.heap.size s.H.length) (w:=w') (n:=(s.H++[bZ.box ty cs]).length) s.H.length 0 (by simp)
  rw[hρ] at this;exact this
 exact⟨hW.bJ hp bN hr,hF.put (gB hW hp) (fun i=>⟨id,id,fun _=>id⟩) (by simp) d hd (.dC hv),kS hW hp⟩
theorem Ab{v:Value}{x:AV}(h:jT v=some x):x.drop.plain=true:=by
 unfold jT at h
 split at h<;>first|(injection h with h;subst h;rfl)|cases h
theorem nh:∀ {vs:List Value} {xs:List AV},dS vs=some xs->∀ x,x∈xs->x.drop.plain=true
 | [],xs,h=>by simp[dS] at h;subst h;simp
 | v :: r,xs,h=>by
  simp only[dS,an1,an0] at h
  obtain⟨x,hx,ys,hy,rfl⟩:=h
  intro z hz
  rcases aoN.1 hz with rfl|hz
  ·exact Ab hx
  ·exact nh hy z hz
theorem v8{t:TypeId}{z:List AV}(h:gy P t=some z):∀ x,x∈z->x.drop.plain=true:=by
 simp only[gy,an1] at h
 obtain⟨zv,_,hc⟩:=h
 exact nh hc
theorem uy{loc:Nat}{x:AV}(h:x.drop.plain=true):bo loc x=true:=by
 cases x<;>first|exact h|(simp[AV.drop,AV.plain] at h;done)|skip
 rename_i f fs cs
 cases fs<;>cases cs<;>first|rfl|(simp[AV.drop,AV.plain] at h)
theorem oH{loc:Nat}{x:AV}(h:bo loc x=true):bo loc x.drop=true:=by
 cases x<;>exact h
theorem BB{t:TypeId}{i:TypeInfo}{zv:Value}(hi:P.info? t=some i)(hz:i.zero=some zv)(w:World) :
  (Instr.alloc t true (.tuple #[])).run P w=.ok (.pointer (some ⟨w.heap.size,0,none⟩)) (w.alloc (.cells zv.cells t)):=by
 simp[Instr.alloc,zeroValue,typeInfo,hi,hz,newVar,newRow]
theorem Nu{t:TypeId}{kp:Bool}{z:List AV}(h:(gy P t).map (fun z=>cond kp (z.map nS) z)=some z):∀ x,x∈z->x.drop.plain=true:=by
 simp only[an0] at h
 obtain⟨z0,h0,rfl⟩:=h
 cases kp with
 | false=>exact v8 h0
 | true =>
  intro x hx
  obtain⟨y,hy,rfl⟩:=aoy.1 hx
  have:=v8 h0 y hy
  unfold nS
  split
  ·rfl
  ·exact this
theorem LZ(hW:aX G base s.H gh w)(hF:FR L nt gh w a s){o:Oper}{t:TypeId}{z:List AV}(ho:o.op=.alloc t){kp:Bool}(hz:(gy P t).map (fun z=>cond kp (z.map nS) z)=some z)(hd:∀ k,o.dst=some k->k<nt) :
  ∃ v' aV w',tP P a o w v' w'/\Out G base nt L gh w a s o.dst (.ref s.H.length 0) (s.gk ⟨s.H++[.box t z],s.H.length⟩) v' aV w':=by
 obtain⟨i,zv,hi,PA,bN⟩:=sj (gh:=gh) (n:=s.H.length) (w:=w) hz
 refine⟨_,_,_,.inl ?_,Out.bJ hW hF hd (.alloc w (.cells zv.cells t)) bN ?_⟩
 ·simp[execOp,ho,BB hi PA]
 ·exact aof.2 fun x hx=>uy (Nu hz x hx)
theorem ZV(hW:aX G base s.H gh w)(hF:FR L nt gh w a s){o:Oper}{t:TypeId}{x:Operand}{y:aF}{cs:List AV}(ho:o.op=.box t x)(hc:ax nt x=some y)(gC:(y.eval G s.T).drop.cells=some cs)
  (dA:cs.all (bo s.H.length)=true) (hd:∀ k,o.dst=some k->k<nt) :
  ∃ v' aV w',tP P a o w v' w'/\Out G base nt L gh w a s o.dst (.ref s.H.length 0) (s.gk ⟨s.H++[.box t (cs.map AV.drop)],s.H.length⟩) v' aV w':=by
 have bN:=(po hW hF hc cs gC).dropped
 refine⟨_,_,_,.inl ?_,Out.bJ hW hF hd (.alloc w (.cells (a.eval x).cells t)) bN ?_⟩
 ·simp[execOp,ho,Instr.box,newVar,newRow]
 ·refine aof.2 fun x hx=>?_
  obtain⟨y,hy,rfl⟩:=aoy.1 hx
  exact oH (aof.1 dA y hy)
theorem L0(hW:aX G base s.H gh w)(hF:FR L nt gh w a s){o:Oper}{t:TypeId}{z:List AV}(ho:o.op=.alloc t){kp:Bool}(hz:(gy P t).map (fun z=>cond kp (z.map nS) z)=some z)(hd:∀ k,o.dst=some k->k<nt/\k∈L) :
  ∃ v' aV w',tP P a o w v' w'/\Out G base nt L gh w a s o.dst (.lbox s.gen z) { s with gen:=s.gen+1 } v' aV w':=by
 obtain⟨i,zv,hi,PA,bN⟩:=sj (gh:=gh) (n:=s.H.length) (w:=w) hz
 have hp:=fp.alloc w (.cells zv.cells t)
 have dn:=tT o.dst
 have st:=ig hW hp dn (fun _=>False) s.H.length
 have F0:FR L nt (gh.alloc w.heap.size (HQ o.dst) fun _=>False) (w.alloc (.cells zv.cells t)) a s:=hF.grown (H':=s.H) (lo':=s.lo) st (fun i=>⟨id,id,fun _=>id⟩) (aoa _)
 have lW:=hW.alloc hp dn (fun _=>False) (fun _ _ h=>h.elim)
 refine⟨.pointer (some ⟨w.heap.size,0,none⟩),_,_,.inl ?_,lW,F0.RW (gen':=s.gen+1) (ao' _) (fun b hb=>lW.bY b hb) o.dst (fun k hk=>(hd k hk).1) (.inr ⟨⟨s.gen,aoa _,rfl⟩,fun k hk=>(hd k hk).2⟩) ?_,mP hW hp dn _ _⟩
 ·simp[execOp,ho,BB hi PA]
 ·intro k hk
  refine⟨aqt _,w.heap.size,rfl,?_⟩
  rw[hk] at st ⊢
  refine⟨by simp[Gh.alloc,HQ],?_,zv.cells,t,hp.new,apP bN.1.symm,fun j v x hv hx=>?_⟩
  ·rintro o (ho|⟨_,ho⟩)
   ·have:=hW.nW _ o ho;omega
   ·exact ho
  ·obtain⟨h1,h2⟩:=bN.2 j v x hv hx
   exact⟨h2,.inl (h1.mono st (aoa _))⟩
theorem TH(hW:aX G base s.H gh w)(hF:FR L nt gh w a s){o:Oper}{t:TypeId}{x:Operand}{y:aF}{cs:List AV}(ho:o.op=.box t x)(hc:ax nt x=some y)(gC:(y.eval G s.T).drop.cells=some cs)(hd:∀ k,o.dst=some k->k<nt/\k∈L) :
  ∃ v' aV w',tP P a o w v' w'/\Out G base nt L gh w a s o.dst (.lbox s.gen (cs.map AV.drop)) { s with gen:=s.gen+1 } v' aV w':=by
 have bN:=(po hW hF hc cs gC).dropped
 have hp:=fp.alloc w (.cells (a.eval x).cells t)
 have dn:=tT o.dst
 have st:=ig hW hp dn (fun _=>False) s.H.length
 have F0:FR L nt (gh.alloc w.heap.size (HQ o.dst) fun _=>False) (w.alloc (.cells (a.eval x).cells t)) a s:=hF.grown (H':=s.H) (lo':=s.lo) st (fun i=>⟨id,id,fun _=>id⟩) (aoa _)
 have lW:=hW.alloc hp dn (fun _=>False) (fun _ _ h=>h.elim)
 refine⟨.pointer (some ⟨w.heap.size,0,none⟩),_,_,.inl ?_,lW,F0.RW (gen':=s.gen+1) (ao' _) (fun b hb=>lW.bY b hb) o.dst (fun k hk=>(hd k hk).1) (.inr ⟨⟨s.gen,aoa _,rfl⟩,fun k hk=>(hd k hk).2⟩) ?_,mP hW hp dn _ _⟩
 ·simp[execOp,ho,Instr.box,newVar,newRow]
 ·intro k hk
  refine⟨aqt _,w.heap.size,rfl,?_⟩
  rw[hk] at st ⊢
  refine⟨by simp[Gh.alloc,HQ],?_,(a.eval x).cells,t,hp.new,apP bN.1.symm,fun j v x hv hx=>?_⟩
  ·rintro o (ho|⟨_,ho⟩)
   ·have:=hW.nW _ o ho;omega
   ·exact ho
  ·obtain⟨h1,h2⟩:=bN.2 j v x hv hx
   exact⟨h2,.inl (h1.mono st (aoa _))⟩
theorem yo(hW:aX G base s.H gh w)(hF:FR L nt gh w a s){o:Oper}{t e:TypeId}{n sz:Nat}{parts:Array (Nat × Operand)}{z Z:List AV}{ps:List (Nat × Nat × aF)}
  (ho:o.op=.build t parts) {kp:Bool} (hz:(gy P t).map (fun z=>cond kp (z.map nS) z)=some z) (hu:P.underlying t=some (.array n e)) (hs:dV P e=some sz) (hp:jR nt sz parts.toList=some ps)
  (he:cn z (ps.map fun p=>(p.1,p.2.1,(p.2.2.eval G s.T).drop))=some Z) :
  ∃ v,(execOp a.eval o).run P w=.ok (.value v) w/\mO gh s.H.length nt w s.T s.gen (fP a) v (.agg Z):=by
 obtain⟨i,zv,hi,PA,bN⟩:=sj (gh:=gh) (n:=s.H.length) (w:=w) hz
 obtain⟨ie,hie,Pg⟩:=mI hs
 have inv:∀ (l:List (Nat × Operand)) (ps:List (Nat × Nat × aF)),jR nt sz l=some ps->l.length=ps.length /\
   ∀ (j:Nat) (p:Nat × Operand) (q:Nat × Nat × aF),l[j]?=some p->ps[j]?=some q->q.1=p.1*sz/\q.2.1=sz/\ax nt p.2=some q.2.2:=by
  intro l
  induction l with
  | nil=>intro ps h;simp[jR] at h;subst h;exact⟨rfl,fun j p q h=>by simp at h⟩
  | cons p l ih =>
   intro ps h
   obtain⟨k,x⟩:=p
   simp only[jR,an1,an0] at h
   obtain⟨y,hy,rest,hr,rfl⟩:=h
   obtain⟨h1,h2⟩:=ih rest hr
   refine⟨by simp[h1],fun j p q hp hq=>?_⟩
   cases j with
   | zero=>simp at hp hq;subst hp hq;exact⟨rfl,rfl,hy⟩
   | succ j=>exact h2 j p q (by simpa using hp) (by simpa using hq)
 obtain⟨hl,hinv⟩:=inv _ _ hp
 obtain⟨C',hf,uB⟩:=yq (gh:=gh) (w:=w) (n:=s.H.length) (place:=fun i=>some (i*ie.size,ie.size)) ((parts.map fun p=>(p.1,a.eval p.2)).toList) (ps.map fun p=>(p.1,p.2.1,(p.2.2.eval G s.T).drop)) zv.cells z Z bN he (by simpa using hl) (by
  intro j p q hp hq
  simp only[aqG,aor,an0] at hp hq
  obtain⟨p0,Pq,rfl⟩:=hp
  obtain⟨q0,hq0,rfl⟩:=hq
  obtain⟨h1,h2,hc⟩:=hinv j p0 q0 Pq hq0
  exact⟨by simp[h1,h2,Pg],po hW hF hc⟩)
 have hb:P.built t (parts.map fun p=>(p.1,a.eval p.2)).toList=some C':=by
  unfold Program.built
  rw[hi,hu]
  simp only[PA,hie]
  exact hf
 refine⟨.agg C',by simp[execOp,ho,run_build w t _ C' hb],.dC (.agg _ _ uB.1 (fun j v hj=>?_) (fun j v x hv hx=>(uB.2 j v x hv hx).1))⟩
 have bf:j<Z.length:=by rw[<- uB.1];exact (aoi.1 hj).1
 exact (uB.2 j v _ hj (an' bf)).2
theorem Nv{t:TypeId}{z:List AV}{zv:Value}{sz len:Nat}(bN:pD gh H.length w zv.cells z)(dA:∀ x,x∈z->x.drop.plain=true)(hz:z.length=sz)(F9:0<sz) :
  iC gh.S w sz ((Array.range (len*sz)).map (zv.cells[· % zv.cells.size]!)) (List.replicate len (z.map AV.drop)):=by
 have gO:zv.cells.size=sz:=by rw[bN.1,hz]
 refine⟨by simp,fun i r hi=>?_,fun i j r x hi hj=>?_⟩
 ·rw[aqC] at hi
  split at hi
  ·injection hi with hi;subst hi;simpa using hz
  ·cases hi
 ·rw[aqC] at hi
  split at hi
  ·rename_i bf
   injection hi with hi;subst hi
   simp only[aor,an0] at hj
   obtain⟨y,hy,rfl⟩:=hj
   have hj:j<sz:=by rw[<- hz];exact (an9.1 hy).1
   have w7:j<zv.cells.size:=by omega
   have aaJ:(i*sz+j) % zv.cells.size=j:=by rw[gO,Nat.mul_add_mod',Nat.mod_eq_of_lt hj]
   refine⟨zv.cells[j],?_,?_⟩
   ·have Pk:i*sz+j<len*sz:=tE bf hj
    rw[Array.getElem?_map,aop (by simpa using Pk)]
    simp only[Array.getElem_range,aok,aaJ]
    congr 1
    exact getElem!_pos zv.cells j w7
   ·have hv:zv.cells[j]?=some zv.cells[j]:=aop w7
    exact (VR.dropped (bN.2 j _ y hv hy).1).ke (dA y (aoo hy))
  ·cases hi
theorem rA{k n sz:Nat}(h:k<n*sz):k / sz<n/\k % sz<sz/\k / sz*sz+k % sz=k:=by
 have gO:0<sz:=by
  rcases Nat.eq_zero_or_pos sz with h0|h0
  ·subst h0;simp at h
  ·exact h0
 refine⟨Nat.div_lt_of_lt_mul (by rw[aqz];exact h),Nat.mod_lt _ gO,?_⟩
 have:=Nat.div_add_mod k sz
 rw[aqz] at this
 exact this
theorem nV{S:Nat->Nat->Prop}{sz:Nat}{A:Array Value}{E:List (List AV)}{isB:Bool}{ty:TypeId}(h:iC S w sz A E)(lL:kD isB E=true)(hB:isB=true->ty=ij){k:Nat}{m:Int}(hk:k<E.length*sz)
  (hc:A[k]?=some (.int .u8 m)):ty=ij:=by
 cases isB with
 | true=>exact hB rfl
 | false =>
  exfalso
  obtain⟨h1,h2,h3⟩:=rA hk
  have hr:=an' h1
  obtain⟨x,hx⟩:∃ x,E[k / sz][k % sz]?=some x:=⟨_,an' (show k % sz<E[k / sz].length by rw[h.2.1 _ _ hr];exact h2)⟩
  obtain⟨v,hv,hp⟩:=h.2.2 _ _ _ _ hr hx
  rw[h3,hc] at hv
  injection hv with hv
  subst hv
  have hn:jj E=true:=lL
  have h4:=aof.1 (aof.1 hn _ (aoo hr)) _ (aoo hx)
  cases hp<;>simp at h4
theorem wK(hW:aX G base s.H gh w)(hF:FR L nt gh w a s){t e:TypeId}{len sz:Nat}{parts:Array (Nat × Operand)}{z:List AV}{E:List (List AV)}{ps:List (Nat × aF)}
  (hu:P.underlying t=some (.slice e)) (hs:dV P e=some sz) (hz:gy P e=some z) (hp:kJ nt parts.toList=some ps) (CF:len*sz<=16777216) (Ti:z.length=sz) (F9:0<sz)
  (he:cY sz (List.replicate len (z.map AV.drop)) (ps.map fun p=>(p.1,(p.2.eval G s.T).drop))=some E) :
  ∃ C',(Instr.buildSlice t len (parts.map fun p=>(p.1,a.eval p.2))).run P w=.ok (.slice (some ⟨w.heap.size,0,none⟩) len len) (w.alloc (.cells C' e))/\iC gh.S w sz C' E/\E.length=len:=by
 obtain⟨i,zv,hi,PA,bN⟩:=HN (gh:=gh) (n:=s.H.length) (w:=w) hz
 obtain⟨ie,hie,Pg⟩:=mI hs
 rw[hi] at hie;injection hie with hie;subst hie
 have inv:∀ (l:List (Nat × Operand)) (ps:List (Nat × aF)),kJ nt l=some ps->l.length=ps.length /\
   ∀ (j:Nat) (p:Nat × Operand) (q:Nat × aF),l[j]?=some p->ps[j]?=some q->q.1=p.1/\ax nt p.2=some q.2:=by
  intro l
  induction l with
  | nil=>intro ps h;simp[kJ] at h;subst h;exact⟨rfl,fun j p q h=>by simp at h⟩
  | cons p l ih =>
   intro ps h
   obtain⟨k,x⟩:=p
   simp only[kJ,an1,an0] at h
   obtain⟨y,hy,rest,hr,rfl⟩:=h
   obtain⟨h1,h2⟩:=ih rest hr
   refine⟨by simp[h1],fun j p q hp hq=>?_⟩
   cases j with
   | zero=>simp at hp hq;subst hp hq;exact⟨rfl,hy⟩
   | succ j=>exact h2 j p q (by simpa using hp) (by simpa using hq)
 obtain⟨hl,hinv⟩:=inv _ _ hp
 obtain⟨C',hf,dk⟩:=AX (w:=w) (S:=gh.S) (sz:=sz) ((parts.map fun p=>(p.1,a.eval p.2)).toList) (ps.map fun p=>(p.1,(p.2.eval G s.T).drop)) _ _ E (Nv (t:=e) (len:=len) bN (v8 hz) Ti F9) he (by simpa using hl) (by
  intro j p q hp hq
  simp only[aqG,aor,an0] at hp hq
  obtain⟨p0,Pq,rfl⟩:=hp
  obtain⟨q0,hq0,rfl⟩:=hq
  obtain⟨h1,hc⟩:=hinv j p0 q0 Pq hq0
  exact⟨h1.symm,fun cs gC=>Ow (po hW hF hc) gC⟩)
 have wE:E.length=len:=by
  have:∀ (ip:List (Nat × AV)) (es E:List (List AV)),cY sz es ip=some E->E.length=es.length:=by
   intro ip
   induction ip with
   | nil=>intro es E h;simp[cY] at h;rw[h]
   | cons q ip ih =>
    intro es E h
    obtain⟨i,v⟩:=q
    simp only[cY] at h
    split at h
    ·cases h
    ·obtain⟨_,h⟩:=ae h
     rw[ih _ _ h];simp
  rw[this _ _ _ he];simp
 have cZ:(Instr.buildSlice t len (parts.map fun p=>(p.1,a.eval p.2))).run P w=.ok (.slice (some ⟨w.heap.size,0,none⟩) len len) (w.alloc (.cells C' e)):=by
  by_cases h0:len*sz=0
  ·have aeQ:len=0:=by rcases Nat.mul_eq_zero.1 h0 with h|h<;>omega
   subst aeQ
   have hE:ps=[]:=by
    cases hps:ps with
    | nil=>rfl
    | cons q r =>
     rw[hps] at he
     simp only[aoh,cY,List.replicate_zero,an6] at he
     split at he
     ·cases he
     ·obtain⟨h,_⟩:=ae he
      simp[aoO] at h
   have tj:parts.toList=[]:=by
    have:parts.toList.length=0:=by rw[hl,hE];rfl
    exact aoG.1 this
   have hpa:parts=#[]:=by simpa using tj
   subst hpa
   have KV:Array.range 0=#[]:=rfl
   have Mk:C'=#[]:=by simpa [Instr.fill,KV] using hf.symm
   subst Mk
   simp[Instr.buildSlice,run_underlying hu,sizeOf,typeInfo,hi,Instr.fill,newRow,KV]
  ·exact run_buildSlice w t e len _ C' i zv hu hi PA (by rw[Pg];omega) (by rw[Pg];exact h0) (by rw[Pg];exact hf)
 exact⟨C',cZ,dk,wE⟩
theorem IX(hW:aX G base s.H gh w)(hF:FR L nt gh w a s){o:Oper}{t e:TypeId}{len sz:Nat}{parts:Array (Nat × Operand)}{z:List AV}{E:List (List AV)}{ps:List (Nat × aF)}{isB:Bool}
  (ho:o.op=.buildSlice t len parts) (hu:P.underlying t=some (.slice e)) (hs:dV P e=some sz) (hz:gy P e=some z) (hp:kJ nt parts.toList=some ps)
  (lL:kD isB E=true) (Ph:isB=true->e=ij) (CF:len*sz<=16777216) (Ti:z.length=sz) (F9:0<sz)
  (he:cY sz (List.replicate len (z.map AV.drop)) (ps.map fun p=>(p.1,(p.2.eval G s.T).drop))=some E) (hd:∀ k,o.dst=some k->k<nt) :
  ∃ v' aV w',tP P a o w v' w'/\Out G base nt L gh w a s o.dst (.slice E true) s v' aV w':=by
 obtain⟨C',cZ,dk,wE⟩:=wK (P:=P) hW hF hu hs hz hp CF Ti F9 he
 have mH:=fp.alloc w (.cells C' e)
 have dn:=ox o.dst
 have HV:=dk.slice (gh:=gh) rfl mH (p:=NI o.dst) hW.nW (fun j _=>rfl) (q:=fun _=>True) (fun _ _=>trivial) E.length (aoa _)
 have hv:VR (gh.alloc w.heap.size (NI o.dst) fun _=>True) s.H.length (w.alloc (.cells C' e)) (.slice (some ⟨w.heap.size,0,none⟩) E.length E.length) (.slice E true):=.full _ _ _ HV (fun ad ha _=>by injection ha with ha;subst ha;simp)
 rw[wE] at hv
 have st:=ig hW mH dn (fun _=>True) s.H.length
 have F0:FR L nt (gh.alloc w.heap.size (NI o.dst) fun _=>True) (w.alloc (.cells C' e)) a s:=hF.grown (H':=s.H) (lo':=s.lo) st (fun i=>⟨id,id,fun _=>id⟩) (aoa _)
 have lW:=hW.alloc mH dn (fun _=>True) (fun k m _ hc=>by
  rw[cell_of_row _ _ k _ _ _ mH.new] at hc
  have hk:k<E.length*sz:=by rw[<- dk.1];exact (aoi.1 hc).1
  have:=nV dk lL Ph hk hc
  subst this
  exact⟨C',(0,0),mH.new⟩)
 refine⟨.slice (some ⟨w.heap.size,0,none⟩) len len,_,_,.inl ?_,lW,F0.RW (gen':=s.gen) (aoa _) (fun b hb=>lW.bY b hb) o.dst hd (.inl rfl) (fun k hk=>?_),mP hW mH dn _ _⟩
 ·have:(parts.map fun x=>(x.1,a.eval x.2))=parts.map fun p=>(p.1,a.eval p.2):=rfl
  simp[execOp,ho,cZ]
 ·exact SG (.inl hv)
end
end
end Go.Abs
