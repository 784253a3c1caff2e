/-
  A part of the proof of PrintScans: AbsOps2, AbsOps3, AbsOps4, AbsOps5, AbsOps6, AbsStep, AbsOps7, AbsOps8.
-/
import Derived.Great.BuildSlice
import Derived.Test.YtocbgffdpfiidaaGreatDoorP01
set_option linter.unusedSimpArgs false
set_option linter.unusedVariables false
set_option linter.defProp false
namespace Go.Abs
section
section
variable {P:Program}{G:Nat->List AV}{base nt:Nat}{L:List Nat}{gh:Gh}{w:World}{a:Act}{s:AS}
theorem vM(hF:FR L nt gh w a s){v:Value}{z:AV}(hv:k8 gh s.H.length nt w s.T s.gen (dQ a) v z)(hl:bM s z=true) :
  ∃ b o,v=.pointer (some ⟨b,o,none⟩):=by
 cases z<;>simp only[bM,aiS] at hl
 case eptr cs =>
  have hp:=VR.ry (hv:VR gh s.H.length w v (.eptr cs))
  cases hp;exact⟨_,_,rfl⟩
 case ref loc off=>exact⟨_,_,(VR.gR (hv:VR gh s.H.length w v (.ref loc off))).2⟩
 case lref b g off =>
  obtain⟨hb,hg,hr⟩:=(hv:_/\_/\_)
  split at hl
  ·rename_i g' cs hT
   have AL:g=g':=by simpa [dV] using hl
   obtain⟨k,hk,_⟩:=rP hF hb hT
   exact⟨_,_,hr (by rw[hT,AL];rfl) k hk⟩
  ·cases hl
 case eref b g i zz off =>
  obtain⟨hb,hg,hr⟩:=(hv:_/\_/\_)
  split at hl
  ·rename_i g' e hT
   obtain⟨h1,h2⟩:=by simpa [dV,aih] using hl
   obtain⟨ad,cap,nW,bp⟩:=lY hF hb hT
   rcases bp with ⟨rfl,_⟩|⟨k,_,_,_,_,rfl,_⟩
   ·simp at h2
   ·exact⟨_,_,hr (by rw[hT,h1];rfl) k _ _ nW⟩
  ·cases hl
theorem BH(hW:aF G base s.H gh w)(hF:FR L nt gh w a s){o:Oper}{x:Operand}{y:ak}(ho:o.op=.nilCheck x)(hc:ah nt x=some y)(hl:bM s (y.addr G s.T)=true) :
  ∃ v,(execOp a.eval o).run P w=.ok (.value v) w/\k8 gh s.H.length nt w s.T s.gen (dQ a) v (y.addr G s.T):=by
 have hv:=arg_val hW hF hc
 have hd:(y.addr G s.T).drop=y.addr G s.T:=by cases hz:y.addr G s.T<;>rw[hz] at hl<;>first|rfl|(simp[bM] at hl)
 rw[hd] at hv
 obtain⟨b,of,hp⟩:=vM hF hv hl
 refine⟨a.eval x,?_,hv⟩
 simp[execOp,ho,hp]
theorem HA(hF:FR L nt gh w a s){v:Value}{z z' : AV}(hv:k8 gh s.H.length nt w s.T s.gen (dQ a) v z)(hl:bM s z=true){off:Nat}(ho:fK off z=some z') :
  ∃ b o,v=.pointer (some ⟨b,o,none⟩)/\k8 gh s.H.length nt w s.T s.gen (dQ a) (.pointer (some ⟨b,o+off,none⟩)) z':=by
 cases z<;>simp only[fK,ahM,reduceCtorEq] at ho<;>subst ho
 case eptr cs =>
  have hp:=VR.ry (hv:VR gh s.H.length w v (.eptr cs))
  cases hp with
  | eptr b o _ f bI bX =>
   refine⟨b,o,rfl,.cB (.plain _ _ (.eptr b (o+off) _ (fun j=>f (off+j)) ?_ ?_))⟩
   ·intro j x hx
    rw[ail] at hx
    have:=bI (off+j) x hx
    rw[ajp]
    exact this
   ·intro j x hx
    rw[ail] at hx
    exact bX (off+j) x hx
 case ref loc of =>
  obtain⟨aZ,rfl⟩:=VR.gR (hv:VR gh s.H.length w v (.ref loc of))
  exact⟨_,_,rfl,.cB (.ref loc (of+off) aZ)⟩
 case lref b g of =>
  obtain⟨k,o,rfl⟩:=vM hF hv hl
  obtain⟨hb,hg,hr⟩:=(hv:_/\_/\_)
  refine⟨k,o,rfl,hb,hg,fun h1 b' h2=>?_⟩
  have:=hr h1 b' h2
  injection this with this;injection this with this;injection this with e1 e2
  rw[e1,e2]
 case eref b g i zz of =>
  obtain⟨k,o,rfl⟩:=vM hF hv hl
  obtain⟨hb,hg,hr⟩:=(hv:_/\_/\_)
  refine⟨k,o,rfl,hb,hg,fun h1 b' c1 c2 h2=>?_⟩
  have:=hr h1 b' c1 c2 h2
  injection this with this;injection this with this;injection this with e1 e2
  rw[e1,e2,ajp]
theorem yj{z:AV}(hl:bM s z=true):z.drop=z:=by cases z<;>first|rfl|(simp[bM] at hl)
theorem zy(hW:aF G base s.H gh w)(hF:FR L nt gh w a s){o:Oper}{t:TypeId}{x:Operand}{f:Nat}{y:ak}{fs:Array Go.Field}{q:Go.Field}{sz:Nat}{z:AV}
  (ho:o.op=.fieldAddr t x f) (hc:ah nt x=some y) (hu:P.underlying t=some (.struct fs)) (hq:fs[f]?=some q) (hs:cY P q.type=some sz) (h0:0<sz)
  (hl:bM s (y.addr G s.T)=true) (he:fK q.offset (y.addr G s.T)=some z) :
  ∃ v,(execOp a.eval o).run P w=.ok (.value v) w/\k8 gh s.H.length nt w s.T s.gen (dQ a) v z:=by
 have hv:=arg_val hW hF hc
 rw[yj hl] at hv
 obtain⟨b,of,hp,nW⟩:=HA hF hv hl he
 refine⟨_,?_,nW⟩
 have cS:¬ sz=0:=by omega
 simp[execOp,ho,hp,Instr.fieldAt,run_underlying hu,hq,Instr.sureAddr,fieldPlace,cX hs,cS,addr_add]
theorem KV(hW:aF G base s.H gh w)(hF:FR L nt gh w a s){o:Oper}{t e:TypeId}{x i:Operand}{n sz k:Nat}{y yi:ak}{z:AV}
  (ho:o.op=.indexAddr t x i) (hc:ah nt x=some y) (hi:ah nt i=some yi) (hu:P.underlying t=some (.array n e)) (hs:cY P e=some sz)
  (hk:asNat (yi.eval G s.T)=some k) (hkn:k<n) (hl:bM s (y.addr G s.T)=true) (he:fK (k*sz) (y.addr G s.T)=some z) :
  ∃ v,(execOp a.eval o).run P w=.ok (.value v) w/\k8 gh s.H.length nt w s.T s.gen (dQ a) v z:=by
 have hv:=arg_val hW hF hc
 rw[yj hl] at hv
 obtain⟨b,of,hp,nW⟩:=HA hF hv hl he
 obtain⟨kd,I0⟩:=jg hW hF hi hk
 refine⟨_,?_,nW⟩
 have h1:k<n:=hkn
 simp[execOp,ho,hp,I0,Instr.indexAt,asIntOf,run_underlying hu,Instr.sureAddr,cX hs,h1,addr_add]
theorem PU(hW:aF G base s.H gh w)(hF:FR L nt gh w a s){o:Oper}{t e:TypeId}{x i:Operand}{sz k:Nat}{y yi:ak}{el:List (List AV)}{own:Bool}{r:List AV}
  (ho:o.op=.indexAddr t x i) (hc:ah nt x=some y) (hi:ah nt i=some yi) (hu:P.underlying t=some (.slice e)) (hs:cY P e=some sz)
  (hk:asNat (yi.eval G s.T)=some k) (hy:y.addr G s.T=.slice el own) (hr:el[k]?=some r) (Pr:r.length=sz) :
  ∃ v,(execOp a.eval o).run P w=.ok (.value v) w/\k8 gh s.H.length nt w s.T s.gen (dQ a) v (.eptr r):=by
 have hv:=VR.fZ (me hW hF hc hy rfl)
 obtain⟨kd,I0⟩:=jg hW hF hi hk
 generalize hA:a.eval x=V at hv
 cases hv with
 | cy=>simp at hr
 | slice b of n cap gY _ f hn ig bp bI bX =>
  have uc:k<el.length:=(ahO.1 hr).1
  have fA:gY=sz:=by rw[<- Pr,bp k r hr]
  subst fA
  refine⟨.pointer (some ⟨b,of+k*gY,none⟩),?_,.cB (.plain _ _ (.eptr b (of+k*gY) r (f k) (fun j x hx=>bI k j r x hr hx) (fun j x hx=>bX k j r x hr hx)))⟩
  have h1:k<n:=by omega
  simp[execOp,ho,hA,I0,Instr.indexAt,asIntOf,run_underlying hu,cX hs,h1,addr_add]
theorem IC(hW:aF G base s.H gh w)(hF:FR L nt gh w a s){o:Oper}{t e:TypeId}{x i:Operand}{sz k l of m zz:Nat}{y yi:ak}
  (ho:o.op=.indexAddr t x i) (hc:ah nt x=some y) (hi:ah nt i=some yi) (hu:P.underlying t=some (.slice e)) (hs:cY P e=some sz)
  (hk:asNat (yi.eval G s.T)=some k) (hy:y.addr G s.T=.sref l of m zz) (hkm:k<m) :
  ∃ v,(execOp a.eval o).run P w=.ok (.value v) w/\k8 gh s.H.length nt w s.T s.gen (dQ a) v (.ref l (of+k*sz)):=by
 obtain⟨aZ,cap,_,_,hA⟩:=VR.il (me hW hF hc hy rfl)
 obtain⟨kd,I0⟩:=jg hW hF hi hk
 refine⟨.pointer (some ⟨gh.ρ l,of+k*sz,none⟩),?_,.cB (.ref l (of+k*sz) aZ)⟩
 simp[execOp,ho,hA,I0,Instr.indexAt,asIntOf,run_underlying hu,cX hs,hkm,addr_add]
theorem KW(hW:aF G base s.H gh w)(hF:FR L nt gh w a s){o:Oper}{t e:TypeId}{x i:Operand}{sz k b g:Nat}{y yi:ak}{el:List (List AV)}{r:List AV}
  (ho:o.op=.indexAddr t x i) (hc:ah nt x=some y) (hi:ah nt i=some yi) (hu:P.underlying t=some (.slice e)) (hs:cY P e=some sz)
  (hk:asNat (yi.eval G s.T)=some k) (hy:y.addr G s.T=.lsr b g) (hT:s.T b=.lsl g el) (hr:el[k]?=some r) (Pr:r.length=sz) :
  ∃ v,(execOp a.eval o).run P w=.ok (.value v) w/\k8 gh s.H.length nt w s.T s.gen (dQ a) v (.eref b g k sz 0):=by
 have hv:=arg_val hW hF hc
 rw[hy] at hv
 obtain⟨hb,hg,hrr⟩:=(hv:_/\_/\_)
 obtain⟨kd,I0⟩:=jg hW hF hi hk
 have nT:=hrr (by rw[hT];rfl)
 have uc:k<el.length:=(ahO.1 hr).1
 obtain⟨ad,cap,nW,bp⟩:=lY hF hb hT
 rcases bp with ⟨rfl,_⟩|⟨c,C,ty,gY,_,rfl,hκ,hS,uy,hC,hl,hrw,fq⟩
 ·simp at hr
 ·have h1:k<el.length:=uc
  refine⟨.pointer (some ⟨c,k*sz,none⟩),?_,hb,hg,fun _ b' c1 c2 h2=>?_⟩
  ·simp[execOp,ho,nT,nW,I0,Instr.indexAt,asIntOf,run_underlying hu,cX hs,h1,addr_add]
  ·rw[nW] at h2
   injection h2 with h2 _ _
   injection h2 with h2
   injection h2 with h2
   subst h2;simp
theorem P0(hW:aF G base s.H gh w)(hF:FR L nt gh w a s){o:Oper}{c x y:Operand}{ic ix iy:ak}{t:Bool}
  (ho:o.op=.pick c x y) (hc:ah nt c=some ic) (hx:ah nt x=some ix) (hy:ah nt y=some iy) (ht:ic.eval G s.T=.bool t) :
  ∃ v,(execOp a.eval o).run P w=.ok (.value v) w/\k8 gh s.H.length nt w s.T s.gen (dQ a) v (cond t (ix.addr G s.T).drop (iy.addr G s.T).drop):=by
 have hb:=(bS hW hF hc ht rfl).ik
 have h1:=arg_val hW hF hx
 have h2:=arg_val hW hF hy
 cases t
 ·exact⟨_,by simp[execOp,ho,hb,asBool],h2⟩
 ·exact⟨_,by simp[execOp,ho,hb,asBool],h1⟩
theorem ZB(hW:aF G base s.H gh w)(hF:FR L nt gh w a s){o:Oper}{op:UnOp}{t:TypeId}{x:Operand}{ix:ak}{z:AV}
  (ho:o.op=.unOp op t x) (hc:ah nt x=some ix) (he:AD op (ix.eval G s.T)=some z) :
  ∃ v,(execOp a.eval o).run P w=.ok (.value v) w/\k8 gh s.H.length nt w s.T s.gen (dQ a) v z:=by
 generalize hz:ix.eval G s.T=X at he
 unfold AD at he
 split at he<;>first|(injection he with he;subst he)|cases he
 ·have hv:=(bS hW hF hc hz rfl).gQ
  exact⟨_,by simp[execOp,ho,hv,Op.unary,Op.intArith],.cB (.plain _ _ (.int _ _))⟩
 ·have hv:=(bS hW hF hc hz rfl).ik
  exact⟨_,by simp[execOp,ho,hv,Op.unary],.cB (.plain _ _ (.bool _))⟩
theorem K0(hW:aF G base s.H gh w)(hF:FR L nt gh w a s){o:Oper}{st dt:TypeId}{x:Operand}{ix:ak}{k k' : IntKind}{z:AV}
  (ho:o.op=.convert st dt x) (hc:ah nt x=some ix) (hs:P.underlying st=some (.int k')) (hd:P.underlying dt=some (.int k)) (he:jE (.toInt k) (ix.eval G s.T)=some z) :
  ∃ v,(execOp a.eval o).run P w=.ok (.value v) w/\k8 gh s.H.length nt w s.T s.gen (dQ a) v z:=by
 generalize hz:ix.eval G s.T=X at he
 cases X<;>simp[jE] at he
 subst he
 have hv:=(bS hW hF hc hz rfl).gQ
 exact⟨_,by simp[execOp,ho,hv,convert,run_underlying hs,run_underlying hd,Conv.intToInt],.cB (.plain _ _ (.int _ _))⟩
theorem Fp(hW:aF G base s.H gh w)(hF:FR L nt gh w a s){o:Oper}{st dt:TypeId}{x:Operand}{ix:ak}{z:AV}
  (ho:o.op=.convert st dt x) (hc:ah nt x=some ix) (hs:P.underlying st=some .string) (hd:P.underlying dt=some .string) (he:jE .Ay (ix.eval G s.T)=some z) :
  ∃ v,(execOp a.eval o).run P w=.ok (.value v) w/\k8 gh s.H.length nt w s.T s.gen (dQ a) v z:=by
 generalize hz:ix.eval G s.T=X at he
 cases X<;>simp[jE] at he
 subst he
 obtain⟨b,hv,hl⟩:=(bS hW hF hc hz rfl).gS
 exact⟨_,by simp[execOp,ho,hv,convert,run_underlying hs,run_underlying hd],.cB (.plain _ _ (.str _ _ hl))⟩
theorem foldl_push(ns:List Int):∀ s:ByteArray,(ns.foldl (fun r n=>r.push (UInt8.ofNat n.toNat)) s).data.toList=s.data.toList++ns.map fun n=>UInt8.ofNat n.toNat:=by
 induction ns with
 | nil=>intro s;simp
 | cons n ns ih=>intro s;rw[akf,ih];simp[ByteArray.push]
theorem td:∀ {e:List (List AV)} {l:List UInt8},bytesOf e=some l->∃ ns:List Int,e=ns.map (fun n=>[AV.int .u8 n])/\l=ns.map fun n=>UInt8.ofNat n.toNat
 | [],l,h=>by simp[bytesOf] at h;exact⟨[],rfl,by simp[h]⟩
 | r :: e,l,h=>by
  unfold bytesOf at h
  split at h
  ·rename_i hh;cases hh
  ·rename_i n r' heq
   injection heq with h1 h2
   subst h1 h2
   simp only[ahK] at h
   obtain⟨l',zM,rfl⟩:=h
   obtain⟨ns,rfl,rfl⟩:=td zM
   exact⟨n :: ns,rfl,rfl⟩
  ·cases h
theorem JG{n0:Nat}{V:Value}{ns:List Int}(hv:PR gh.S w V (.slice (ns.map fun n=>[AV.int .u8 n]) false)) :
  ∃ q:ByteArray,(Conv.bytesToString V).run P w=.ok (.string q) w/\q.data.toList=ns.map (fun n=>UInt8.ofNat n.toNat)/\∃ b c d,V=.slice b c d:=by
 generalize hE:(ns.map fun n=>[AV.int .u8 n])=E at hv
 cases hv with
 | cy =>
  have:ns=[]:=by simpa using hE
  subst this
  exact⟨ByteArray.empty,by simp[Conv.bytesToString],rfl,_,_,_,rfl⟩
 | slice b of n cap gY _ f hn ig bp bI bX =>
  subst hE
  have hlen:n=ns.length:=by rw[<- hn];simp
  have aac:(loadCells ⟨b,of,none⟩ n).run P w=.ok (ns.map (Value.int .u8)).toArray w:=by
   have:=run_loadCells_list (P:=P) w ⟨b,of,none⟩ (ns.map (Value.int .u8)) (fun j v hj=>by
    simp only[ah2,ahK] at hj
    obtain⟨m,hm,rfl⟩:=hj
    have hr:(ns.map fun n=>[AV.int .u8 n])[j]?=some [AV.int .u8 m]:=by simp[hm]
    have zO:gY=1:=by rw[<- bp j _ hr];rfl
    subst zO
    obtain⟨_,h1,_⟩:=bI j 0 _ _ hr rfl
    have h2:=bX j 0 _ _ hr rfl
    have h3:f j 0=.int .u8 m:=by generalize f j 0=F at h2;cases h2;rfl
    rw[addr_add,<- h3,<- h1];simp)
   rw[aie,<- hlen] at this
   exact this
  refine⟨_,run_bytesToString w _ n cap ns aac,?_,_,_,_,rfl⟩
  rw[foldl_push];simp[ByteArray.empty,ByteArray.emptyWithCapacity];rfl
theorem BE(hW:aF G base s.H gh w)(hF:FR L nt gh w a s){o:Oper}{st dt e:TypeId}{x:Operand}{ix:ak}{z:AV}
  (ho:o.op=.convert st dt x) (hc:ah nt x=some ix) (hs:P.underlying st=some (.slice e)) (hE:P.underlying e=some (.int .u8)) (hd:P.underlying dt=some .string) (he:jE .ot (ix.eval G s.T)=some z) :
  ∃ v,(execOp a.eval o).run P w=.ok (.value v) w/\k8 gh s.H.length nt w s.T s.gen (dQ a) v z:=by
 generalize hz:ix.eval G s.T=X at he
 cases X<;>simp only[jE,reduceCtorEq,ahK] at he
 obtain⟨l,hl,rfl⟩:=he
 obtain⟨ns,rfl,rfl⟩:=td hl
 have hv:=VR.fZ (bS hW hF hc hz rfl)
 obtain⟨q,h1,h2,b,c,d,hV⟩:=JG (P:=P) (n0:=0) hv
 refine⟨.string q,?_,.cB (.plain _ _ (.str _ _ h2))⟩
 have h3:(convert st dt (a.eval x)).run P w=.ok (.string q) w:=by rw[hV] at h1 ⊢;rw[run_convert_bytes_string w st dt e b c d hs hE hd,h1]
 simp[execOp,ho,h3]
end
end
section
section
variable {P:Program}{G:Nat->List AV}{base nt:Nat}{L:List Nat}{gh:Gh}{w:World}{a:Act}{s:AS}
theorem Oh{n:Nat}{agg:Bool}{sz off:Nat}{xs:List AV}{z:AV}(hl:ar false agg sz off xs=some z){t:TypeId}(hg:ke P t=some agg)(hs:cY P t=some sz)
  {cs:Array Value} (fA:cs.size=xs.length) (dY:∀ (j:Nat) (v:Value),cs[j]?=some v->v.oneCell'=true)
  (h:∀ (j:Nat) (v:Value) (x:AV),cs[j]?=some v->xs[j]?=some x->VR gh n w v x) :
  ∃ v,(part t cs off).run P w=.ok v w/\VR gh n w v z:=by
 unfold ar at hl
 cases agg
 ·simp only[ahW,ahK] at hl
  obtain⟨x,hx,rfl⟩:=hl
  have hj:off<cs.size:=by rw[fA];exact (ahO.1 hx).1
  have hv:cs[off]?=some cs[off]:=ahY hj
  exact⟨cs[off],by simp[part,fT hg,hv],VR.dropped (h off _ x hv hx)⟩
 ·simp only[cond_true] at hl
  obtain⟨h0,h1⟩:=ab hl
  have JU:off+sz<=xs.length:=by simpa [aiq] using h0
  injection h1 with h1
  subst h1
  refine⟨.agg (cs.extract off (off+sz)),by simp[part,fT hg,cX hs],.agg _ _ (by simp;omega) ?_ ?_⟩
  ·intro j v hj
   rw[aj'] at hj
   split at hj
   ·exact dY _ v hj
   ·cases hj
  ·intro j v x hj hx
   rw[aj'] at hj
   split at hj
   ·rename_i aZ
    simp only[ah2,ahK] at hx
    obtain⟨y,hy,rfl⟩:=hx
    rw[ah5,ail] at hy
    split at hy
    ·exact VR.dropped (h _ v y hj hy)
    ·cases hy
   ·cases hj
theorem KU(hW:aF G base s.H gh w)(hF:FR L nt gh w a s){o:Oper}{t e:TypeId}{x i:Operand}{n sz k:Nat}{ix ii:ak}{agg:Bool}{xs:List AV}{z:AV}
  (ho:o.op=.index t x i) (hc:ah nt x=some ix) (hi:ah nt i=some ii) (hu:P.underlying t=some (.array n e)) (hs:cY P e=some sz) (hg:ke P e=some agg)
  (hk:asNat (ii.eval G s.T)=some k) (hkn:k<n) (hz:ix.eval G s.T=.agg xs) (he:ar false agg sz (k*sz) xs=some z) :
  ∃ v,(execOp a.eval o).run P w=.ok (.value v) w/\k8 gh s.H.length nt w s.T s.gen (dQ a) v z:=by
 obtain⟨cs,hA,fA,dY,h⟩:=(bS hW hF hc hz rfl).iW
 obtain⟨kd,I0⟩:=jg hW hF hi hk
 obtain⟨v,h1,h2⟩:=Oh he hg hs fA dY h
 exact⟨v,by simp[execOp,ho,hA,I0,Instr.index,asIntOf,run_underlying hu,cX hs,hkn,h1],.cB h2⟩
theorem BF(hW:aF G base s.H gh w)(hF:FR L nt gh w a s){o:Oper}{t:TypeId}{x i:Operand}{k:Nat}{ix ii:ak}{l:List UInt8}{b:UInt8}
  (ho:o.op=.index t x i) (hc:ah nt x=some ix) (hi:ah nt i=some ii) (hu:P.underlying t=some .string)
  (hk:asNat (ii.eval G s.T)=some k) (hz:ix.eval G s.T=.str l) (hb:l[k]?=some b) :
  ∃ v,(execOp a.eval o).run P w=.ok (.value v) w/\k8 gh s.H.length nt w s.T s.gen (dQ a) v (.int .u8 b.toNat):=by
 obtain⟨q,hA,hl⟩:=(bS hW hF hc hz rfl).gS
 obtain⟨kd,I0⟩:=jg hW hF hi hk
 have hq:q[k]?=some b:=by
  obtain⟨⟨d⟩⟩:=q
  simp at hl;subst hl
  have uc:=(ahO.1 hb).1
  have kA:k<(ByteArray.mk ⟨d⟩).size:=uc
  rw[ByteArray.getElem?_lt' _ _ kA]
  rw[ahP uc] at hb
  exact hb
 exact⟨_,by simp[execOp,ho,hA,I0,Instr.index,asIntOf,run_underlying hu,hq],.cB (.plain _ _ (.int _ _))⟩
theorem VR.u0{n:Nat}{v:Value}{x:AV}(h:VR gh n w v x):VR gh n w v x.bc:=by
 cases x<;>try exact VR.dropped h
 obtain⟨cs,rfl,hs,dY,h⟩:=h.iW
 refine .agg _ _ (by simp[hs]) dY fun j v x hj hx=>?_
 simp only[ah2,ahK] at hx
 obtain⟨y,hy,rfl⟩:=hx
 exact VR.dropped (h j v y hj hy)
theorem Fk(hW:aF G base s.H gh w)(hF:FR L nt gh w a s){o:Oper}{x:Operand}{i:Nat}{ix:ak}{vs:List AV}{z:AV}
  (ho:o.op=.extract x i) (hc:ah nt x=some ix) (hz:ix.eval G s.T=.tuple vs) (hi:vs[i]?=some z) :
  ∃ v,(execOp a.eval o).run P w=.ok (.value v) w/\k8 gh s.H.length nt w s.T s.gen (dQ a) v z.bc:=by
 obtain⟨us,hA,fA,h⟩:=(bS hW hF hc hz rfl).pf
 have hj:i<us.size:=by rw[fA];exact (ahO.1 hi).1
 have hv:us[i]?=some us[i]:=ahY hj
 exact⟨us[i],by simp[execOp,ho,hA,Instr.extract,hv],.cB (VR.u0 (h i _ z hv hi))⟩
theorem PV{t:TypeId}{k:jZ}{V:Value}{X z:AV}{n:Nat}(hv:VR gh n w V X.drop)(ht:match k with|.str=>P.underlying t=some .string|.sl=>∃ e,P.underlying t=some (.slice e)|.arr m=>∃ e,P.underlying t=some (.array m e))
  (he:jH k X=some z) (ty:TypeId):∃ v,(Builtin.len_ #[t] ty #[V]).run P w=.ok v w/\VR gh n w v z:=by
 cases k<;>cases X<;>simp only[jH,ahM,reduceCtorEq] at he<;>subst he
 case str.str l =>
  obtain⟨q,rfl,rfl⟩:=hv.gS
  refine⟨.int .i64 q.size,by simp[Builtin.len_,run_underlying ht,goInt],?_⟩
  exact .plain _ _ (by rw[show (q.data.toList.length:Int)=(q.size:Int) by simp];exact .int _ _)
 case sl.slice el own =>
  obtain⟨e,ht⟩:=ht
  have hp:=hv.fZ
  cases hp with
  | cy=>exact⟨.int .i64 0,by simp[Builtin.len_,run_underlying ht,goInt],.plain _ _ (.int _ _)⟩
  | slice b of m cap sz _ f hn ig bp bI bX=>exact⟨.int .i64 el.length,by simp[Builtin.len_,run_underlying ht,goInt,hn],.plain _ _ (.int _ _)⟩
 case sl.sref loc off m zz =>
  obtain⟨e,ht⟩:=ht
  obtain⟨_,cap,_,_,rfl⟩:=hv.il
  exact⟨.int .i64 m,by simp[Builtin.len_,run_underlying ht,goInt],.plain _ _ (.int _ _)⟩
 case sl.ay =>
  obtain⟨e,ht⟩:=ht
  have hp:=hv.jU
  subst hp
  exact⟨.int .i64 0,by simp[Builtin.len_,run_underlying ht,goInt],.plain _ _ (.int _ _)⟩
 all_goals
  obtain⟨e,ht⟩:=ht
  exact⟨.int .i64 _,by simp[Builtin.len_,run_underlying ht,goInt],.plain _ _ (.int _ _)⟩
theorem jD:∀ {xs:List Operand} {ys:List ak},hJ nt xs=some ys->xs.length=ys.length/\∀ (j:Nat) (x:Operand) (y:ak),xs[j]?=some x->ys[j]?=some y->ah nt x=some y
 | [],ys,h=>by simp[hJ] at h;subst h;exact⟨rfl,fun j x y h=>by simp at h⟩
 | x :: r,ys,h=>by
  simp only[hJ,ahL,ahK] at h
  obtain⟨y,hy,zs,hz,rfl⟩:=h
  obtain⟨h1,h2⟩:=jD hz
  refine⟨by simp[h1],fun j u v hu hv=>?_⟩
  cases j with
  | zero=>simp at hu hv;subst hu hv;exact hy
  | succ j=>exact h2 j u v (by simpa using hu) (by simpa using hv)
theorem y3(hW:aF G base s.H gh w)(hF:FR L nt gh w a s){xs:List Operand}{ys:List ak}(hc:hJ nt xs=some ys)(hf:(ys.map fun y=>y.addr G s.T).all aq=true) :
  ∀ (j:Nat) (v:Value) (x:AV),(xs.map a.eval)[j]?=some v->(ys.map fun y=>(y.addr G s.T).drop)[j]?=some x->VR gh s.H.length w v x:=by
 obtain⟨hl,h⟩:=jD hc
 intro j v x hj hx
 simp only[ah2,ahK] at hj hx
 obtain⟨o,ho,rfl⟩:=hj
 obtain⟨y,hy,rfl⟩:=hx
 have hfy:aq (y.addr G s.T)=true:=ahU.1 hf _ (aia.2 ⟨y,ahZ hy,rfl⟩)
 exact me hW hF (h j o y ho hy) rfl hfy
theorem ID(hW:aF G base s.H gh w)(hF:FR L nt gh w a s){o:Oper}{f:Fn}{fs cs:Array Operand}{ifs ics:List ak}
  (ho:o.op=.makeFunc f fs cs) (h1:hJ nt fs.toList=some ifs) (h2:hJ nt cs.toList=some ics)
  (hf1:(ifs.map fun y=>y.addr G s.T).all aq=true) (hf2:(ics.map fun y=>y.addr G s.T).all aq=true) :
  ∃ v,(execOp a.eval o).run P w=.ok (.value v) w/\k8 gh s.H.length nt w s.T s.gen (dQ a) v (.func f (ifs.map fun y=>(y.addr G s.T).drop) (ics.map fun y=>(y.addr G s.T).drop)):=by
 refine⟨.func f (fs.map a.eval) (cs.map a.eval),by simp[execOp,ho,Instr.makeFunc],.cB (.func _ _ _ _ _ ?_ ?_ ?_ ?_)⟩
 ·simpa using (jD h1).1
 ·simpa using (jD h2).1
 ·intro j v x hj hx
  exact y3 hW hF h1 hf1 j v x (by simpa using hj) hx
 ·intro j v x hj hx
  exact y3 hW hF h2 hf2 j v x (by simpa using hj) hx
end
end
section
section
variable {P:Program}{G:Nat->List AV}{base nt:Nat}{L:List Nat}{gh:Gh}{w:World}{a:Act}{s:AS}
theorem iD(hW:aF G base s.H gh w)(hF:FR L nt gh w a s){x:Option Operand}{ix:Option ak}(hc:fu nt x=some ix){d iP n:Nat}(hb:bound d (ix.map (·.eval G s.T)) iP=some n) :
  (x.map a.eval=none/\ix=none/\n=d)\/(ix.isSome=true/\n<=iP/\∃ k,x.map a.eval=some (.int k (n:Int))):=by
 cases x with
 | none=>simp[fu] at hc;subst hc;simp[bound] at hb;exact .inl ⟨rfl,rfl,hb.symm⟩
 | some x =>
  simp only[fu,ahK] at hc
  obtain⟨y,hy,rfl⟩:=hc
  simp only[bound,ah0,ahL] at hb
  obtain⟨m,hm,hb⟩:=hb
  obtain⟨h1,h2⟩:=ab hb
  injection h2 with h2
  subst h2
  obtain⟨k,hk⟩:=jg hW hF hy hm
  exact .inr ⟨rfl,by simpa [aiq] using h1,k,by simp[hk]⟩
theorem nK{isSlice:Bool}{len cap l h m:Nat}{lo hi mx:Option Value}
  (hm:(mx=none/\m=cap)\/(m<=cap/\∃ k,mx=some (.int k (m:Int)))) (hh:(hi=none/\h=len/\mx=none)\/(h<=m/\∃ k,hi=some (.int k (h:Int))))
  (hl:(lo=none/\l=0)\/(l<=h/\∃ k,lo=some (.int k (l:Int)))) :
  (Instr.sliceBounds isSlice len cap lo hi mx).run P w=.ok (l,h,m) w:=by
 have sb:∀ (k:IntKind) (n y:Nat) (code:BoundsCode),n<=y->(Instr.sliceBound (.int k (n:Int)) y code).run P w=.ok n w:=by
  intro k n y code hn
  rw[run_sliceBound w k n y code (by omega) (by omega)];simp
 rcases hm with ⟨rfl,rfl⟩|⟨hm,km,rfl⟩<;>rcases hh with ⟨rfl,rfl,hx⟩|⟨hh,kh,rfl⟩<;>rcases hl with ⟨rfl,rfl⟩|⟨hl,kl,rfl⟩ <;>
  first|(cases hx;done)|simp[Instr.sliceBounds,sb, *]
theorem zD(hW:aF G base s.H gh w)(hF:FR L nt gh w a s){o:Oper}{t:TypeId}{x:Operand}{lo hi mx:Option Operand}{ix:ak}{I8 Dy x9:Option ak}{z:AV}
  (ho:o.op=.slice t x lo hi mx) (hc:ah nt x=some ix) (h1:fu nt lo=some I8) (h2:fu nt hi=some Dy) (h3:fu nt mx=some x9) (hu:P.underlying t=some .string)
  (he:gz .str (ix.eval G s.T) (I8.map (·.eval G s.T)) (Dy.map (·.eval G s.T)) (x9.map (·.eval G s.T))=some z) :
  ∃ v,(execOp a.eval o).run P w=.ok (.value v) w/\k8 gh s.H.length nt w s.T s.gen (dQ a) v z:=by
 generalize hz:ix.eval G s.T=X at he
 cases X<;>simp only[gz,reduceCtorEq,ahL] at he
 rename_i l
 obtain⟨h,hh,l0,hl,he⟩:=he
 obtain⟨hn,he⟩:=ab he
 injection he with he
 subst he
 obtain⟨q,hA,hq⟩:=(bS hW hF hc hz rfl).gS
 have fA:q.size=l.length:=by rw[<- hq];simp
 have hmn:mx.map a.eval=none/\x9=none:=by
  cases mx with
  | none=>simp[fu] at h3;subst h3;exact⟨rfl,rfl⟩
  | some m=>simp only[fu,ahK] at h3;obtain⟨_,_,rfl⟩:=h3;simp at hn
 have bh:=iD hW hF h2 hh
 have bl:=iD hW hF h1 hl
 have hb:(Instr.sliceBounds false q.size q.size (lo.map a.eval) (hi.map a.eval) none).run P w=.ok (l0,h,q.size) w:=by
  refine nK (.inl ⟨rfl,rfl⟩) ?_ ?_
  ·rcases bh with ⟨e1,_,e2⟩|⟨_,e1,k,e2⟩
   ·exact .inl ⟨e1,by omega,rfl⟩
   ·exact .inr ⟨by omega,k,e2⟩
  ·rcases bl with ⟨e1,_,e2⟩|⟨_,e1,k,e2⟩
   ·exact .inl ⟨e1,e2⟩
   ·exact .inr ⟨e1,k,e2⟩
 refine⟨.string (q.extract l0 h),?_,.cB (.plain _ _ (.str _ _ ?_))⟩
 ·have hA':=hA
  have tC:(Instr.slice t (.string q) (lo.map a.eval) (hi.map a.eval) none).run P w=.ok (.string (q.extract l0 h)) w:=by
   simp[Instr.slice,run_underlying hu,hb]
  simp only[execOp,ho,hA',hmn.1,Sem.run_bind,run_sliceAt_string w t (.string q) _ _ _ hu,tC,Result.andThen_ok,Sem.run_pure]
 ·rw[<- hq]
  rw[ByteArray.data_extract,Array.toList_extract,List.extract_eq_take_drop,List.drop_take]
theorem vu{sz gY:Nat}{e:List (List AV)}(h:fC sz e=true)(hr:∀ (i:Nat) (r:List AV),e[i]?=some r->r.length=gY)(cS:e≠[]):gY=sz:=by
 cases e with
 | nil=>exact absurd rfl cS
 | cons r e =>
  simp[fC,dV] at h
  rw[<- hr 0 r rfl,h]
theorem PR.part{S:Nat->Nat->Prop}{b o n cap:Nat}{e:List (List AV)}(hv:PR S w (.slice (some ⟨b,o,none⟩) n cap) (.slice e false)){sz:Nat}(fA:e≠[]->∀ (i:Nat) (r:List AV),e[i]?=some r->r.length=sz)
  {l h c:Nat} (hl:l<=h) (hh:h<=n) (hc:h-l<=c):PR S w (.slice (some ⟨b,o+l*sz,none⟩) (h-l) c) (.slice ((e.take h).drop l) false):=by
 cases hv with
 | slice _ _ _ _ gY _ f hn ig bp bI bX =>
  have idx:∀ (i:Nat) (r:List AV),((e.take h).drop l)[i]?=some r->e[l+i]?=some r:=by
   intro i r hi
   rw[ail,ah5] at hi
   split at hi
   ·exact hi
   ·cases hi
  have hz:∀ (i:Nat) (r:List AV),e[i]?=some r->gY=sz:=by
   intro i r hi
   have cS:e≠[]:=by rintro rfl;simp at hi
   rw[<- bp i r hi,fA cS i r hi]
  refine .slice b (o+l*sz) (h-l) c sz _ (fun i j=>f (l+i) j) (by simp;omega) hc ?_ ?_ ?_
  ·intro i r hi
   rw[bp _ r (idx i r hi),hz _ r (idx i r hi)]
  ·intro i j r x hi hj
   have h1:=bI (l+i) j r x (idx i r hi) hj
   rw[hz _ r (idx i r hi)] at h1
   rw[show o+l*sz+i*sz+j=o+(l+i)*sz+j by rw[aip];omega]
   exact h1
  ·intro i j r x hi hj
   exact bX (l+i) j r x (idx i r hi) hj
theorem PR.yr{S:Nat->Nat->Prop}{b o c:Nat}{e:List (List AV)}{l h:Nat}(hl:h<=l):PR S w (.slice (some ⟨b,o,none⟩) 0 c) (.slice ((e.take h).drop l) false):=by
 have:(e.take h).drop l=[]:=by simp;omega
 rw[this]
 exact .slice b o 0 c 0 [] (fun _ _=>undef) rfl (aiB _) (fun i r h=>by simp at h) (fun i j r x h=>by simp at h) (fun i j r x h=>by simp at h)
theorem xd(hW:aF G base s.H gh w)(hF:FR L nt gh w a s){o:Oper}{t e0:TypeId}{x:Operand}{lo hi mx:Option Operand}{ix:ak}{I8 Dy x9:Option ak}{sz:Nat}{z:AV}
  (ho:o.op=.slice t x lo hi mx) (hc:ah nt x=some ix) (h1:fu nt lo=some I8) (h2:fu nt hi=some Dy) (h3:fu nt mx=some x9) (hu:P.underlying t=some (.slice e0)) (hs:cY P e0=some sz)
  {ll o0 n zz:Nat} (hz:ix.eval G s.T=.sref ll o0 n zz) (he:∃ h,bound n (Dy.map (·.eval G s.T)) n=some h/\∃ l0,bound 0 (I8.map (·.eval G s.T)) h=some l0 /\
   cond ((x9.map (·.eval G s.T)).isNone&&Nat.beq zz sz) (some (cond (Nat.blt l0 n) (.sref ll (o0+l0*zz) (h-l0) zz) (.slice [] false))) none=some z) :
  ∃ v,(execOp a.eval o).run P w=.ok (.value v) w/\k8 gh s.H.length nt w s.T s.gen (dQ a) v z:=by
 obtain⟨h,hh,l0,hl,he⟩:=he
 obtain⟨hn,nU⟩:=ab he
 clear he
 simp only[ahR,aj4,Option.map_eq_none_iff,dV,ah8] at hn
 obtain⟨rfl,rfl⟩:=hn
 have hmx:mx.map a.eval=none:=by
  cases mx with
  | none=>rfl
  | some m=>simp only[fu,ahK,reduceCtorEq,akd,akh] at h3
 obtain⟨aZ,cap,hk,acH,hA⟩:=(bS hW hF hc hz rfl).il
 have bh:=iD hW hF h2 hh
 have bl:=iD hW hF h1 hl
 have hhn:h<=n:=by rcases bh with ⟨_,_,e⟩|⟨_,e,_⟩<;>omega
 have Up:l0<=h:=by rcases bl with ⟨_,_,e⟩|⟨_,e,_⟩<;>omega
 have hb:(Instr.sliceBounds true n cap (lo.map a.eval) (hi.map a.eval) (mx.map a.eval)).run P w=.ok (l0,h,cap) w:=by
  refine nK (.inl ⟨hmx,rfl⟩) ?_ ?_
  ·rcases bh with ⟨e1,e2,e3⟩|⟨_,e1,k,e2⟩
   ·exact .inl ⟨e1,by omega,hmx⟩
   ·exact .inr ⟨by omega,k,e2⟩
  ·rcases bl with ⟨e1,_,e2⟩|⟨_,e1,k,e2⟩
   ·exact .inl ⟨e1,e2⟩
   ·exact .inr ⟨e1,k,e2⟩
 have hr:(Instr.sliceAt t (a.eval x) (lo.map a.eval) (hi.map a.eval) (mx.map a.eval)).run P w=.ok (.slice (if cap=l0 then some ⟨gh.ρ ll,o0,none⟩ else (some (⟨gh.ρ ll,o0,none⟩:Addr)).map (·.add (l0*zz))) (h-l0) (cap-l0)) w:=by
  rw[hA]
  simp[Instr.sliceAt,run_underlying hu,Instr.slice,hb,cX hs]
 refine⟨_,by simp only[execOp,ho,Sem.run_bind,hr,Result.andThen_ok,Sem.run_pure];rfl,?_⟩
 injection nU with nU
 subst nU
 cases hq:Nat.blt l0 n with
 | true =>
  have Wh:l0<n:=by simpa [aih] using hq
  rw[if_neg (by omega),ah0,addr_add]
  refine .cB (.sref ll (o0+l0*zz) (h-l0) (cap-l0) zz aZ (by omega) (fun h0=>?_))
  obtain⟨ty,Lj⟩:=acH h0
  refine⟨ty,?_⟩
  have:o0+l0*zz+(cap-l0)*zz=o0+cap*zz:=by
   have h3:(l0+(cap-l0))*zz=l0*zz+(cap-l0)*zz:=aip _ _ _
   rw[show l0+(cap-l0)=cap by omega] at h3
   omega
  rw[this];exact Lj
 | false =>
  have Wh:¬ l0<n:=fun h=>by rw[<- aih] at h;rw[h] at hq;cases hq
  have e0:h-l0=0:=by omega
  rw[e0]
  have hp:∀ (b of c:Nat),PR gh.S w (.slice (some ⟨b,of,none⟩) 0 c) (.slice [] false):=fun b of c=>.slice b of 0 c 0 [] (fun _ _=>undef) rfl (aiB _) (fun i r h=>by simp at h) (fun i j r x h=>by simp at h) (fun i j r x h=>by simp at h)
  split
  ·exact .cB (.plain _ _ (hp _ _ _))
  ·rw[ah0,addr_add];exact .cB (.plain _ _ (hp _ _ _))
theorem BI(hW:aF G base s.H gh w)(hF:FR L nt gh w a s){o:Oper}{t e0:TypeId}{x:Operand}{lo hi mx:Option Operand}{ix:ak}{I8 Dy x9:Option ak}{sz:Nat}{z:AV}
  (ho:o.op=.slice t x lo hi mx) (hc:ah nt x=some ix) (h1:fu nt lo=some I8) (h2:fu nt hi=some Dy) (h3:fu nt mx=some x9) (hu:P.underlying t=some (.slice e0)) (hs:cY P e0=some sz)
  (he:gz (.sl sz) (ix.eval G s.T) (I8.map (·.eval G s.T)) (Dy.map (·.eval G s.T)) (x9.map (·.eval G s.T))=some z) :
  ∃ v,(execOp a.eval o).run P w=.ok (.value v) w/\k8 gh s.H.length nt w s.T s.gen (dQ a) v z:=by
 generalize hz:ix.eval G s.T=X at he
 cases X<;>simp only[gz,reduceCtorEq,ahL] at he
 case sref=>exact xd hW hF ho hc h1 h2 h3 hu hs hz he
 rename_i e own
 obtain⟨m,hm,h,hh,l0,hl,he⟩:=he
 obtain⟨hn,he⟩:=ab he
 injection he with he
 subst he
 have hp:=VR.fZ (bS hW hF hc hz rfl)
 have bm:=iD hW hF h3 hm
 have bh:=iD hW hF h2 hh
 have bl:=iD hW hF h1 hl
 have hmx:x9=none->mx.map a.eval=none:=by
  rintro rfl
  cases mx with
  | none=>rfl
  | some m=>simp only[fu,ahK,reduceCtorEq,akd,akh] at h3
 have wQ:lo.map a.eval=none->l0=0:=by
  intro wQ
  rcases bl with ⟨_,_,e2⟩|⟨_,_,k,e2⟩
  ·exact e2
  ·rw[wQ] at e2;cases e2
 simp only[ahR,ajk,aj4,Option.map_eq_none_iff] at hn
 obtain⟨Y1,hn2⟩:=hn
 have Up:l0<=h:=by rcases bl with ⟨_,_,e⟩|⟨_,e,_⟩<;>omega
 have hhm:h<=m:=by
  rcases bh with ⟨_,e1,e2⟩|⟨_,e,_⟩
  ·subst e1
   rcases Y1 with rfl|hx
   ·simp[bound] at hm;omega
   ·simp at hx
  ·exact e
 have Y0:m<=e.length:=by rcases bm with ⟨_,_,e⟩|⟨_,e,_⟩<;>omega
 have key:∀ len cap:Nat,len=e.length->len<=cap->∀ ad,∃ m',(m'=if x9=none then cap else m) /\
   (Instr.slice t (.slice ad len cap) (lo.map a.eval) (hi.map a.eval) (mx.map a.eval)).run P w=.ok (.slice (if m'=l0 then ad else ad.map (·.add (l0*sz))) (h-l0) (m' - l0)) w:=by
  intro len cap hlen ig ad
  refine⟨_,rfl,?_⟩
  have hb:(Instr.sliceBounds true len cap (lo.map a.eval) (hi.map a.eval) (mx.map a.eval)).run P w=.ok (l0,h,if x9=none then cap else m) w:=by
   refine nK ?_ ?_ ?_
   ·rcases bm with ⟨e1,e2,_⟩|⟨e1,e2,k,e3⟩
    ·exact .inl ⟨e1,by rw[if_pos e2]⟩
    ·have cS:x9≠none:=by rintro rfl;cases e1
     rw[if_neg cS]
     exact .inr ⟨by omega,k,e3⟩
   ·rcases bh with ⟨e1,e2,e3⟩|⟨_,e1,k,e2⟩
    ·refine .inl ⟨e1,by omega,?_⟩
     subst e2
     rcases Y1 with hx|hx
     ·exact hmx hx
     ·simp at hx
    ·refine .inr ⟨?_,k,e2⟩
     split<;>omega
   ·rcases bl with ⟨e1,_,e2⟩|⟨_,e1,k,e2⟩
    ·exact .inl ⟨e1,e2⟩
    ·exact .inr ⟨e1,k,e2⟩
  simp[Instr.slice,run_underlying hu,hb,cX hs]
 have fin:∀ {V:Value} {R:Value},a.eval x=V->(Instr.slice t V (lo.map a.eval) (hi.map a.eval) (mx.map a.eval)).run P w=.ok R w->(∃ ad n c,V=.slice ad n c) ->
   (execOp a.eval o).run P w=.ok (.value R) w:=by
  rintro V R hA hR ⟨ad,n,c,rfl⟩
  have:(Instr.sliceAt t (.slice ad n c) (lo.map a.eval) (hi.map a.eval) (mx.map a.eval)).run P w=.ok R w:=by simp[Instr.sliceAt,run_underlying hu,hR]
  simp only[execOp,ho,hA,Sem.run_bind,this,Result.andThen_ok,Sem.run_pure]
 generalize hA:a.eval x=V at hp
 have LB:=hp
 cases hp with
 | cy =>
  have hlen:([]:List (List AV)).length=0:=rfl
  simp only[ahX] at Y0
  have e1:m=0:=by omega
  have e2:h=0:=by omega
  have e3:l0=0:=by omega
  subst e1 e2 e3
  obtain⟨m',Dx,hr⟩:=key 0 0 rfl (ahQ _) none
  have:m'=0:=by rw[Dx];split<;>rfl
  subst this
  refine⟨_,fin hA hr ⟨_,_,_,rfl⟩,.cB ?_⟩
  simp
  generalize x9.isSome=q
  cases q<;>exact .plain _ _ .cy
 | slice b of n cap gY _ f I1 ig bp bI bX =>
  obtain⟨m',Dx,hr⟩:=key n cap I1.symm ig (some ⟨b,of,none⟩)
  refine⟨_,fin hA hr ⟨_,_,_,rfl⟩,.cB ?_⟩
  have af7:h<=m':=by rw[Dx];split<;>omega
  have AM:PR gh.S w (.slice (if m'=l0 then some ⟨b,of,none⟩ else (some (⟨b,of,none⟩:Addr)).map (·.add (l0*sz))) (h-l0) (m' - l0)) (.slice ((e.take h).drop l0) false):=by
   by_cases aae:m'=l0
   ·rw[if_pos aae]
    have:h-l0=0:=by omega
    rw[this]
    exact PR.yr (by omega)
   ·rw[if_neg aae,ah0,addr_add]
    by_cases Z5:l0=0
    ·have:=PR.part LB (sz:=gY) (fun _=>bp) Up (c:=m' - l0) (by omega) (by omega)
     rw[Z5,akp] at this ⊢
     exact this
    ·refine PR.part LB (fun cS i r hi=>?_) Up (by omega) (by omega)
     have ac9:¬ (I8=none):=by
      rintro rfl
      rcases bl with ⟨_,_,e2⟩|⟨e1,_⟩
      ·exact Z5 e2
      ·cases e1
     have:=vu (hn2.resolve_left ac9) bp cS
     rw[bp i r hi,this]
  generalize hq:((Option.map (fun x=>ak.eval G s.T x) x9).isSome&&m.beq h&&O5 e)=q
  cases q
  ·exact .plain _ _ AM
  ·simp only[ahR,Option.isSome_map,dV,ah8] at hq
   have cS:x9≠none:=by rintro rfl;simp at hq
   have:m'=h:=by rw[Dx,if_neg cS];exact hq.1.2
   subst this
   refine .full _ _ _ AM (fun ad ha _=>?_)
   have hbk:ad.block=b:=by
    split at ha
    ·injection ha with ha;rw[<- ha]
    ·rw[ah0,addr_add] at ha;injection ha with ha;rw[<- ha]
   rw[hbk]
   obtain⟨x,r,e2,rfl⟩:∃ x r e2,e=(x :: r) :: e2:=by
    have hs:=hq.2
    unfold O5 at hs
    split at hs
    ·exact⟨_,_,_,rfl⟩
    ·cases hs
   exact hW.lX b _ (bI 0 0 _ x rfl rfl).1
theorem nx(sz:Nat):∀ (n:Nat) (l:List AV) (i:Nat),(chunks sz n l)[i]?=if i<n then some ((l.drop (i*sz)).take sz) else none
 | 0,l,i=>by simp[chunks]
 | n+1,l,0=>by simp[chunks]
 | n+1,l,i+1=>by
  simp only[chunks,aiL,nx sz n,ajc,Nat.add_lt_add_iff_right]
  congr 3
  rw[aip,akt,akn]
theorem uP(sz:Nat):∀ (n:Nat) (l:List AV),(chunks sz n l).length=n
 | 0,l=>rfl
 | n+1,l=>by simp[chunks,uP sz n]
theorem PR.chunks{S:Nat->Nat->Prop}{b o n sz:Nat}{cs:List AV}(hv:PR S w (.pointer (some ⟨b,o,none⟩)) (.eptr cs))(hl:cs.length=n*sz) :
  PR S w (.slice (some ⟨b,o,none⟩) n n) (.slice (chunks sz n cs) false):=by
 cases hv with
 | eptr _ _ _ f bI bX =>
  have idx:∀ (i j:Nat) (r:List AV) (x:AV),(Abs.chunks sz n cs)[i]?=some r->r[j]?=some x->cs[i*sz+j]?=some x:=by
   intro i j r x hi hj
   rw[nx] at hi
   split at hi
   ·injection hi with hi
    subst hi
    rw[ah5,ail] at hj
    split at hj
    ·exact hj
    ·cases hj
   ·cases hi
  refine .slice b o n n sz _ (fun i j=>f (i*sz+j)) (uP sz n cs) (ahQ _) ?_ ?_ ?_
  ·intro i r hi
   rw[nx] at hi
   split at hi
   ·rename_i aZ
    injection hi with hi
    subst hi
    have:(i+1)*sz<=n*sz:=ah7 _ aZ
    rw[aip] at this
    simp;omega
   ·cases hi
  ·intro i j r x hi hj
   rw[ajp]
   exact bI _ x (idx i j r x hi hj)
  ·intro i j r x hi hj
   exact bX _ x (idx i j r x hi hj)
theorem zC(hW:aF G base s.H gh w)(hF:FR L nt gh w a s){o:Oper}{t e0:TypeId}{x:Operand}{lo hi mx:Option Operand}{ix:ak}{I8 Dy x9:Option ak}{n sz:Nat}{z:AV}
  (ho:o.op=.slice t x lo hi mx) (hc:ah nt x=some ix) (h1:fu nt lo=some I8) (h2:fu nt hi=some Dy) (h3:fu nt mx=some x9) (hu:P.underlying t=some (.array n e0)) (hs:cY P e0=some sz) (h0:0<sz)
  (he:gz (.arr n sz) (ix.eval G s.T) (I8.map (·.eval G s.T)) (Dy.map (·.eval G s.T)) (x9.map (·.eval G s.T))=some z) :
  ∃ v,(execOp a.eval o).run P w=.ok (.value v) w/\k8 gh s.H.length nt w s.T s.gen (dQ a) v z:=by
 generalize hz:ix.eval G s.T=X at he
 cases X<;>simp only[gz,reduceCtorEq] at he
 rename_i cs
 obtain⟨hlen,he⟩:=ab he
 simp only[ahL] at he
 obtain⟨h,hh,l0,hl,he⟩:=he
 obtain⟨hn,he⟩:=ab he
 injection he with he
 subst he
 have xZ:cs.length=n*sz:=by simpa [dV] using hlen
 have hp:=VR.ry (bS hW hF hc hz rfl)
 have hmn:mx.map a.eval=none:=by
  cases mx with
  | none=>rfl
  | some m=>simp only[fu,ahK] at h3;obtain⟨_,_,rfl⟩:=h3;simp at hn
 have bh:=iD hW hF h2 hh
 have bl:=iD hW hF h1 hl
 have Up:l0<=h:=by rcases bl with ⟨_,_,e⟩|⟨_,e,_⟩<;>omega
 have hhn:h<=n:=by rcases bh with ⟨_,_,e⟩|⟨_,e,_⟩<;>omega
 have hb:(Instr.sliceBounds false n n (lo.map a.eval) (hi.map a.eval) none).run P w=.ok (l0,h,n) w:=by
  refine nK (.inl ⟨rfl,rfl⟩) ?_ ?_
  ·rcases bh with ⟨e1,_,e2⟩|⟨_,e1,k,e2⟩
   ·exact .inl ⟨e1,by omega,rfl⟩
   ·exact .inr ⟨by omega,k,e2⟩
  ·rcases bl with ⟨e1,_,e2⟩|⟨_,e1,k,e2⟩
   ·exact .inl ⟨e1,e2⟩
   ·exact .inr ⟨e1,k,e2⟩
 generalize hA:a.eval x=V at hp
 have LB:=hp
 cases hp with
 | eptr b of _ f bI bX =>
  refine⟨.slice (some (if n=l0 then ⟨b,of,none⟩ else (⟨b,of,none⟩:Addr).add (l0*sz))) (h-l0) (n-l0),?_,.cB (.plain _ _ ?_)⟩
  ·simp[execOp,ho,hA,hmn,Instr.sliceAt,run_underlying hu,Instr.sureAddr,hb,cX hs]
  ·have hc:=PR.chunks (sz:=sz) LB xZ
   by_cases n7:n=l0
   ·have:h-l0=0:=by omega
    rw[this]
    simp only[n7,ai3]
    rw[<- n7]
    exact PR.yr (by omega)
   ·rw[if_neg n7,addr_add]
    refine PR.part hc (fun _ i r hi=>?_) Up hhn (by omega)
    cases hc with
    | slice _ _ _ _ gY _ f' I1 ig bp acJ aeT =>
     rw[nx] at hi
     split at hi
     ·rename_i aZ
      injection hi with hi
      subst hi
      have:(i+1)*sz<=n*sz:=ah7 _ aZ
      rw[aip] at this
      simp;omega
     ·cases hi
end
end
section
section
variable {P:Program}{G:Nat->List AV}{base nt:Nat}{L:List Nat}{gh:Gh}{w:World}{a:Act}{s:AS}
theorem dF{op:BinOp}{t:TypeId}{x y:Operand}{u v:Value}(h1:∀ c,u≠.agg c)(h2:u≠.nilIface\/v≠.nilIface):(eqGuard op t x y u v).run P w=.ok () w:=by
 have key:∀ (op:BinOp),op=.eql\/op=.neq\/(eqGuard op t x y u v)=pure ():=by
  intro op
  cases op<;>first|exact .inl rfl|exact .inr (.inl rfl)|exact .inr (.inr rfl)
 have k2:∀ op,op=BinOp.eql\/op=.neq->(eqGuard op t x y u v).run P w=.ok () w:=by
  rintro op (rfl|rfl)<;>simp only[eqGuard,aiW,aiS,aj0] <;>
   (cases u<;>first|rfl|exact absurd rfl (h1 _)|skip)<;>(cases v<;>first|rfl|(simp at h2))
 rcases key op with h|h|h
 ·exact k2 op (.inl h)
 ·exact k2 op (.inr h)
 ·rw[h];rfl
theorem DQ{op:BinOp}{k:IntKind}{m n:Int}{z:AV}(h:aa op k m n=some z)(t:TypeId):∃ v,(binOp op t (.int k m) (.int k n)).run P w=.ok v w/\PR gh.S w v z:=by
 unfold aa at h
 cases op<;>simp only[reduceCtorEq,ahM] at h
 case quo =>
  rcases aiE (decide (n=0)) with hb|hb<;>rw[hb] at h<;>simp at h
  subst h
  have hn:¬ n=0:=by simpa using hb
  exact⟨_,by simp[binOp,Op.intDiv,hn],.int _ _⟩
 case rem =>
  rcases aiE (decide (n=0)) with hb|hb<;>rw[hb] at h<;>simp at h
  subst h
  have hn:¬ n=0:=by simpa using hb
  exact⟨_,by simp[binOp,Op.intDiv,hn],.int _ _⟩
 all_goals
  subst h
  first
   | exact⟨_,by simp[binOp,Op.intArith],.int _ _⟩
   | exact⟨_,by simp[binOp,Op.intCmp],.bool _⟩
theorem DR{op:BinOp}{x y:ByteArray}{z:AV}(h:jB op x.data.toList y.data.toList=some z)(t:TypeId):∃ v,(binOp op t (.string x) (.string y)).run P w=.ok v w/\PR gh.S w v z:=by
 have hx:=ByteArray.toList_eq x
 have hy:=ByteArray.toList_eq y
 unfold jB at h
 cases op<;>simp only[reduceCtorEq,ahM] at h
 case add =>
  obtain⟨h1,h2⟩:=ab h
  injection h2 with h2
  subst h2
  have Qd:x.size+y.size<=4611686018427387904:=by simpa using h1
  have h3:¬ (((x.size+y.size:Nat):Int)>IntKind.i64.max):=by
   have:IntKind.i64.max=9223372036854775807:=by decide
   rw[this];omega
  exact⟨.string (x++y),by simp only[binOp,Op.stringOp];rw[if_neg h3];rfl,.str _ _ (by simp)⟩
 all_goals
  subst h
  exact⟨_,by simp[binOp,Op.stringOp,hx,hy],.bool _⟩
theorem pJ:∀ (k ks:List CK) (X Y:List AV) (b:Bool),bH (k++ks) X Y=some b ->
  ∃ b1 b2,bH k X Y=some b1/\bH ks (X.drop k.length) (Y.drop k.length)=some b2/\b=(b1&&b2)
 | [],ks,X,Y,b,h=>⟨true,b,rfl,by simpa using h,by simp⟩
 | c :: k,ks,X,Y,b,h=>by
  have step:∀ (e:Bool) (X' Y' : List AV),(bH (k++ks) X' Y').map (e&&·)=some b->∃ b1 b2,(bH k X' Y').map (e&&·)=some b1/\bH ks (X'.drop k.length) (Y'.drop k.length)=some b2/\b=(b1&&b2):=by
   intro e X' Y' h
   simp only[ahK] at h
   obtain⟨b',fE,rfl⟩:=h
   obtain⟨b1,b2,h1,h2,rfl⟩:=pJ k ks X' Y' b' fE
   exact⟨e&&b1,b2,by simp[h1],h2,by rw[Bool.and_assoc]⟩
  cases c<;>cases X<;>try (cases h;done)
  all_goals (rename_i x X';cases x<;>try (cases h;done))
  all_goals (cases Y<;>try (cases h;done))
  all_goals (rename_i y Y';cases y<;>try (cases h;done))
  ·exact step _ _ _ h
  ·simp only[ai',bH] at h
   obtain⟨h0,h⟩:=ab h
   obtain⟨b1,b2,h1,h2,h3⟩:=step _ _ _ h
   exact⟨b1,b2,by simp only[bH];rw[h0];exact h1,h2,h3⟩
  ·exact step _ _ _ h
theorem mf:∀ (k:List CK) (X Y:List AV) (n:Nat),k.length<=n->bH k (X.take n) (Y.take n)=bH k X Y
 | [],X,Y,n,_=>rfl
 | c :: k,[],Y,n,h=>by rw[List.take_nil];cases c<;>rfl
 | c :: k,x :: X,[],n,h=>by
  obtain⟨m,rfl⟩:∃ m,n=m+1:=⟨n-1,by simp at h;omega⟩
  rw[List.take_nil,aiU];cases c<;>cases x<;>rfl
 | c :: k,x :: X,y :: Y,n,h=>by
  obtain⟨m,rfl⟩:∃ m,n=m+1:=⟨n-1,by simp at h;omega⟩
  have ih:=mf k X Y m (by simp at h;omega)
  rw[aiU,aiU]
  cases c<;>cases x<;>first|rfl|(cases y<;>first|rfl|simp only[bH,ih])
def Row(gh:Gh)(n:Nat)(w:World)(cs:Array Value)(X:List AV):Prop :=
 cs.size=X.length/\∀ (j:Nat) (v:Value) (x:AV),cs[j]?=some v->X[j]?=some x->VR gh n w v x
theorem Row.extract{n:Nat}{cs:Array Value}{X:List AV}(h:Row gh n w cs X)(o k:Nat):Row gh n w (cs.extract o (o+k)) ((X.drop o).take k):=by
 refine⟨by have:=h.1;simp;omega,fun j v x hj hx=>?_⟩
 rw[aj'] at hj
 rw[ah5,ail] at hx
 split at hj
 ·split at hx
  ·exact h.2 _ v x hj hx
  ·cases hx
 ·cases hj
theorem kg{t:TypeId}{d:TypeDesc}(h:P.underlying t=some d)(hd:(match d with|.struct _=>true|.array _ _=>true|_=>false)=false):ke P t=some false:=by
 unfold ke;rw[h];simp[hd];cases d<;>simp_all
theorem oA{n:Nat}{c:CK}{t:TypeId}{D o:Nat}{cs ds:Array Value}{X Y:List AV}{b:Bool}(hX:Row gh n w cs X)(hY:Row gh n w ds Y)(hD:1<=D)
  (ht:match c with|.b=>P.underlying t=some .bool|.i=>∃ k,P.underlying t=some (.int k)|.s=>P.underlying t=some .string)
  (h:bH [c] (X.drop o) (Y.drop o)=some b):∃ u v,(part t cs o).run P w=.ok u w/\(part t ds o).run P w=.ok v w/\(Op.equalIn D t u v).run P w=.ok b w:=by
 obtain⟨D,rfl⟩:∃ m,D=m+1:=⟨D-1,by omega⟩
 have hg:ke P t=some false:=by cases c<;>first|exact kg ht rfl|(obtain⟨k,ht⟩:=ht;exact kg ht rfl)
 have get:∀ {cs:Array Value} {X:List AV} {x:AV} {X' : List AV},Row gh n w cs X->X.drop o=x :: X'->∃ u,(part t cs o).run P w=.ok u w/\VR gh n w u x:=by
  intro cs X x X' hR hd
  have hx:X[o]?=some x:=by
   have:(X.drop o)[0]?=some x:=by rw[hd];rfl
   rw[ail] at this;simpa using this
  have aZ:o<cs.size:=by rw[hR.1];exact (ahO.1 hx).1
  have hv:cs[o]?=some cs[o]:=ahY aZ
  exact⟨cs[o],by simp[part,fT hg,hv],hR.2 o _ x hv hx⟩
 generalize hXd:X.drop o=Xd at h
 generalize hYd:Y.drop o=Yd at h
 cases c<;>cases Xd<;>try (cases h;done)
 all_goals (rename_i x X';cases x<;>try (cases h;done))
 all_goals (cases Yd<;>try (cases h;done))
 all_goals (rename_i y Y';cases y<;>try (cases h;done))
 all_goals
  obtain⟨u,Pt,Y4⟩:=get hX hXd
  obtain⟨v,Qu,Qv⟩:=get hY hYd
 ·obtain rfl:=Y4.ik
  obtain rfl:=Qv.ik
  simp[bH] at h
  exact⟨_,_,Pt,Qu,by rw[run_equalIn_bool' w D t _ _ ht,h]⟩
 ·obtain rfl:=Y4.gQ
  obtain rfl:=Qv.gQ
  obtain⟨k,ht⟩:=ht
  simp only[bH] at h
  obtain⟨h0,h'⟩:=ab h
  simp at h' h0
  exact⟨_,_,Pt,Qu,by rw[h0,run_equalIn_int w D t _ _ _ _ ht,h']⟩
 ·obtain⟨p,rfl,rfl⟩:=Y4.gS
  obtain⟨q,rfl,rfl⟩:=Qv.gS
  simp[bH] at h
  refine⟨_,_,Pt,Qu,?_⟩
  rw[run_equalIn_string w D t _ _ ht,ByteArray.toList_eq,ByteArray.toList_eq,<- h]
  simp
def yS(P:Program)(gh:Gh)(w:World)(d:Nat):Prop :=
 ∀ (t:TypeId) (k:List CK),kO P d t=some k->∀ (n D o:Nat) (cs ds:Array Value) (X Y:List AV) (b:Bool),Row gh n w cs X->Row gh n w ds Y->d<=D ->
  bH k (X.drop o) (Y.drop o)=some b->∃ u v,(part t cs o).run P w=.ok u w/\(part t ds o).run P w=.ok v w/\(Op.equalIn D t u v).run P w=.ok b w
theorem Ft{d:Nat}(hd:yS P gh w d){n D:Nat}(hD:d<=D){cs ds:Array Value}{X Y:List AV}(hX:Row gh n w cs X)(hY:Row gh n w ds Y) :
  ∀ (fs:List Go.Field) (q:Nat) (ks:List CK) (b:Bool),mh (kO P d) fs q=some ks->bH ks (X.drop q) (Y.drop q)=some b->(Op.eqFields D cs ds fs).run P w=.ok b w:=by
 intro fs
 induction fs with
 | nil=>intro q ks b h1 h2;simp[mh] at h1;subst h1;simp[bH] at h2;subst h2;rfl
 | cons f fs ih =>
  intro q ks b h1 h2
  unfold mh at h1
  obtain⟨h3,h1⟩:=ab h1
  simp only[ahL,ahK] at h1
  obtain⟨kf,hkf,kr,hkr,rfl⟩:=h1
  simp only[ahR,dV,ah8,bne_iff_ne] at h3
  obtain⟨hof,hnm⟩:=h3
  obtain⟨b1,b2,e1,e2,rfl⟩:=pJ kf kr _ _ b h2
  rw[ajc,ajc] at e2
  obtain⟨u,v,p1,p2,p3⟩:=hd f.type kf hkf n D q cs ds X Y b1 hX hY hD e1
  have hr:=ih (q+kf.length) kr b2 hkr e2
  unfold Op.eqFields
  rw[if_pos hnm,hof]
  simp only[Sem.run_bind,p1,p2,p3,Result.andThen_ok]
  cases b1
  ·simp
  ·simp only[aiW,aiS,aj0,hr,ais]
theorem nL{d:Nat}{t:TypeId}{k:List CK}{fs:Array Go.Field}(h:kO P (d+1) t=some k)(hu:P.underlying t=some (.struct fs)) :
  P.stoodInHeld t=false/\mh (kO P d) fs.toList 0=some k/\∃ sz,cY P t=some sz/\sz=k.length:=by
 unfold kO at h
 rw[hu] at h
 obtain⟨h1,h⟩:=ab h
 simp only[ahL] at h
 obtain⟨ks,kA,h⟩:=h
 obtain⟨h2,h⟩:=ab h
 injection h with h
 subst h
 refine⟨by simpa using h1,kA,?_⟩
 cases hq:cY P t with
 | none=>rw[hq] at h2;cases h2
 | some m=>rw[hq] at h2;exact⟨m,rfl,by simpa [dV] using h2⟩
theorem qy{d:Nat}(hd:yS P gh w d){t:TypeId}{k:List CK}{fs:Array Go.Field}(h:kO P (d+1) t=some k)(hu:P.underlying t=some (.struct fs))
  {n D:Nat} (hD:d<=D) {cs ds:Array Value} {X Y:List AV} {b:Bool} (hX:Row gh n w cs X) (hY:Row gh n w ds Y) (he:bH k X Y=some b) :
  (Op.equalIn (D+1) t (.agg cs) (.agg ds)).run P w=.ok b w:=by
 obtain⟨pd,kA,_⟩:=nL h hu
 have hf:P.fieldsOf t=fs:=by unfold Program.fieldsOf;rw[hu]
 rw[run_equalIn_struct w D t _ _ (by rw[hf];exact hu) pd,hf]
 exact Ft hd hD hX hY fs.toList 0 k b kA (by simpa using he)
theorem sD:∀ d:Nat,yS P gh w d
 | 0=>fun t k h=>by cases h
 | d+1=>by
  intro t k h n D o cs ds X Y b hX hY hD he
  have h0:=h
  unfold kO at h
  cases hu:P.underlying t with
  | none=>rw[hu] at h;cases h
  | some dd =>
   rw[hu] at h
   cases dd<;>try (cases h;done)
   case bool=>injection h with h;subst h;exact oA (c:=.b) hX hY (by omega) hu he
   case int kk=>injection h with h;subst h;exact oA (c:=.i) hX hY (by omega) ⟨kk,hu⟩ he
   case string=>injection h with h;subst h;exact oA (c:=.s) hX hY (by omega) hu he
   case struct fs =>
    obtain⟨_,_,sz,fA,hlen⟩:=nL h0 hu
    have hg:ke P t=some true:=by unfold ke;rw[hu];rfl
    refine⟨.agg (cs.extract o (o+sz)),.agg (ds.extract o (o+sz)),by simp[part,fT hg,cX fA],by simp[part,fT hg,cX fA],?_⟩
    obtain⟨D,rfl⟩:∃ m,D=m+1:=⟨D-1,by omega⟩
    rw[<- mf k _ _ sz (by omega)] at he
    exact qy (sD d) h0 hu (by omega) (hX.extract o sz) (hY.extract o sz) he
theorem Gm{op:BinOp}{b:Bool}{z:AV}(h:jV op b=some z):(op=.eql/\z=.bool b)\/(op=.neq/\z=.bool !b):=by
 cases op<;>simp[jV] at h
 ·exact .inl ⟨rfl,h.symm⟩
 ·exact .inr ⟨rfl,h.symm⟩
theorem lg{op:BinOp}{t:TypeId}{u v:Value}{b:Bool}{z:AV}(h:jV op b=some z)(hr:(Op.equal t u v).run P w=.ok b w)
  (h1:∀ q,(binOp .eql t u v)=q->q=(do pure (.bool (<- Op.equal t u v)))) (h2:(binOp .neq t u v)=(do pure (.bool (!(<- Op.equal t u v))))) :
  ∃ r,(binOp op t u v).run P w=.ok r w/\PR gh.S w r z:=by
 rcases Gm h with ⟨rfl,rfl⟩|⟨rfl,rfl⟩
 ·exact⟨.bool b,by rw[h1 _ rfl];simp[hr],.bool _⟩
 ·exact⟨.bool !b,by rw[h2];simp[hr],.bool _⟩
theorem Vp(hW:aF G base s.H gh w)(hF:FR L nt gh w a s){o:Oper}{op:BinOp}{t u:TypeId}{x y:Operand}{ix iy:ak}{z:AV}
  (ho:o.op=.binOp op t x y u) (hx:ah nt x=some ix) (hy:ah nt y=some iy)
  (he:uJ op (lB P t) (nX ix || nX iy) (ix.eval G s.T) (iy.eval G s.T)=some z) :
  ∃ v,(execOp a.eval o).run P w=.ok (.value v) w/\k8 gh s.H.length nt w s.T s.gen (dQ a) v z:=by
 generalize hX:ix.eval G s.T=X at he
 generalize hY:iy.eval G s.T=Y at he
 have fin:∀ {U V:Value},a.eval x=U->a.eval y=V->(eqGuard op t x y U V).run P w=.ok () w->(∃ r,(binOp op t U V).run P w=.ok r w/\PR gh.S w r z) ->
   ∃ v,(execOp a.eval o).run P w=.ok (.value v) w/\k8 gh s.H.length nt w s.T s.gen (dQ a) v z:=by
  rintro U V hU hV hg ⟨r,hr,hp⟩
  exact⟨r,by simp[execOp,ho,hU,hV,hg,hr],.cB (.plain _ _ hp)⟩
 have U8:(nX ix || nX iy)=true->(∃ v,x=.const v)\/(∃ v,y=.const v):=by
  intro h
  rcases Bool.or_eq_true_iff.1 h with h|h
  ·left
   cases x<;>simp only[ah] at hx
   ·have:=(ab hx).2;injection this with this;subst this;cases h
   ·exact⟨_,rfl⟩
   ·injection hx with hx;subst hx;cases h
   ·injection hx with hx;subst hx;cases h
  ·right
   cases y<;>simp only[ah] at hy
   ·have:=(ab hy).2;injection this with this;subst this;cases h
   ·exact⟨_,rfl⟩
   ·injection hy with hy;subst hy;cases h
   ·injection hy with hy;subst hy;cases h
 unfold uJ at he
 split at he
 ·
  obtain⟨h0,AJ⟩:=ab he
  have hk:=of_decide_eq_true h0
  have h1:=(bS hW hF hx hX rfl).gQ
  have h2:=(bS hW hF hy hY rfl).gQ
  rw[<- hk] at h2
  exact fin h1 h2 (dF (by intro c;simp) (.inl (by simp))) (DQ AJ t)
 ·
  obtain⟨p,h1,hp⟩:=(bS hW hF hx hX rfl).gS
  obtain⟨q,h2,hq⟩:=(bS hW hF hy hY rfl).gS
  subst hp hq
  exact fin h1 h2 (dF (by intro c;simp) (.inl (by simp))) (DR he t)
 ·
  rename_i p q
  have h1:=(bS hW hF hx hX rfl).ik
  have h2:=(bS hW hF hy hY rfl).ik
  generalize hQ:lB P t=Q at he
  cases Q<;>simp only[reduceCtorEq] at he
  have ht:P.underlying t=some .bool:=by
   unfold lB at hQ
   split at hQ<;>first|assumption|(cases hQ)|skip
   cases hb:(!P.eqGuardType P.depth t)<;>rw[hb] at hQ<;>simp at hQ
   split at hQ<;>cases hQ
  exact fin h1 h2 (dF (by intro c;simp) (.inl (by simp))) (lg he (run_equal_bool w t p q ht) (by rintro _ rfl;rfl) rfl)
 ·
  rename_i xs ys
  obtain⟨cs,h1,zO,_,hr1⟩:=(bS hW hF hx hX rfl).iW
  obtain⟨ds,h2,Qs,_,hr2⟩:=(bS hW hF hy hY rfl).iW
  generalize hQ:lB P t=Q at he
  cases Q<;>simp only[reduceCtorEq,ahL] at he
  rename_i ks
  obtain⟨b,hb,he⟩:=he
  obtain⟨hg,hk⟩:P.eqGuardType P.depth t=false/\kO P 8 t=some ks:=by
   unfold lB at hQ
   split at hQ<;>first|(cases hQ;done)|skip
   cases hb:(P.eqGuardType P.depth t)<;>rw[hb] at hQ<;>simp at hQ
   split at hQ<;>first|(cases hQ;done)|skip
   injection hQ with hQ
   subst hQ
   exact⟨rfl,by assumption⟩
  obtain⟨fs,hu⟩:∃ fs,P.underlying t=some (.struct fs):=by
   unfold lB at hQ
   cases hu:P.underlying t with
   | none=>rw[hu] at hQ;cases hQ
   | some d =>
    rw[hu] at hQ
    cases d<;>simp only[reduceCtorEq] at hQ
    exact⟨_,rfl⟩
  have cg:(Op.equal t (.agg cs) (.agg ds)).run P w=.ok b w :=
   qy (sD 7) hk hu (D:=9999) (by omega) (n:=s.H.length) ⟨zO,hr1⟩ ⟨Qs,hr2⟩ hb
  exact fin h1 h2 (run_eqGuard_agg w op t x y cs ds hg) (lg he cg (by rintro _ rfl;rfl) rfl)
 ·
  obtain⟨h0,he⟩:=ab he
  obtain⟨acN,hq⟩:=aku.1 h0
  simp only[ahL] at he
  obtain⟨b,hb,he⟩:=he
  have ht:∃ m,P.underlying t=some (.interface m):=by
   generalize hQ:lB P t=Q at hq
   cases Q<;>simp only[reduceCtorEq] at hq
   unfold lB at hQ
   split at hQ<;>first|exact⟨_,by assumption⟩|(cases hQ;done)|skip
   cases hb:(!P.eqGuardType P.depth t)<;>rw[hb] at hQ<;>simp at hQ
   split at hQ<;>cases hQ
  obtain⟨m,ht⟩:=ht
  have h2:=(bS hW hF hy hY rfl).rz
  split at hb
  ·injection hb with hb
   subst hb
   have h1:=(bS hW hF hx hX rfl).rz
   have hr:(Op.equal t .nilIface .nilIface).run P w=.ok true w:=(fun d=>(by simp[Op.equalIn,run_underlying ht]:(Op.equalIn (d+1) t .nilIface .nilIface).run P w=.ok true w)) 9999
   refine fin h1 h2 ?_ (lg he hr (by rintro _ rfl;rfl) rfl)
   rcases U8 acN with ⟨v,rfl⟩|⟨v,rfl⟩
   ·cases op<;>simp[eqGuard]
   ·cases op<;>simp[eqGuard]
  ·injection hb with hb
   subst hb
   obtain⟨q,h1⟩:=(bS hW hF hx hX rfl).I'
   have hr:∀ ti,(Op.equal t (.iface ti q) .nilIface).run P w=.ok false w:=fun ti=>(fun d=>(by simp[Op.equalIn,run_underlying ht]:(Op.equalIn (d+1) t (.iface ti q) .nilIface).run P w=.ok false w)) 9999
   exact fin h1 h2 (dF (by intro c;simp) (.inl (by simp))) (lg he (hr _) (by rintro _ rfl;rfl) rfl)
  ·cases hb
 ·
  obtain⟨h0,he⟩:=ab he
  simp only[ahL] at he
  obtain⟨b,hb,he⟩:=he
  have ht:∃ p q r,P.underlying t=some (.func p q r):=by
   generalize hQ:lB P t=Q at h0
   cases Q<;>simp only[reduceCtorEq] at h0
   unfold lB at hQ
   split at hQ<;>first|exact⟨_,_,_,by assumption⟩|(cases hQ;done)|skip
   cases hb:(!P.eqGuardType P.depth t)<;>rw[hb] at hQ<;>simp at hQ
   split at hQ<;>cases hQ
  obtain⟨p,q,r,ht⟩:=ht
  have h2:=(bS hW hF hy hY rfl).tF
  split at hb
  ·injection hb with hb
   subst hb
   have h1:=(bS hW hF hx hX rfl).tF
   have hr:(Op.equal t .nilFunc .nilFunc).run P w=.ok true w:=(fun d=>(by simp[Op.equalIn,run_underlying ht]:(Op.equalIn (d+1) t .nilFunc .nilFunc).run P w=.ok true w)) 9999
   exact fin h1 h2 (dF (by intro c;simp) (.inl (by simp))) (lg he hr (by rintro _ rfl;rfl) rfl)
  ·injection hb with hb
   subst hb
   obtain⟨fs,cs,h1,_⟩:=(bS hW hF hx hX rfl).oH
   have hr:∀ f,(Op.equal t (.func f fs cs) .nilFunc).run P w=.ok false w:=fun f=>(fun d=>(by simp[Op.equalIn,run_underlying ht]:(Op.equalIn (d+1) t (.func f fs cs) .nilFunc).run P w=.ok false w)) 9999
   exact fin h1 h2 (dF (by intro c;simp) (.inl (by simp))) (lg he (hr _) (by rintro _ rfl;rfl) rfl)
  ·cases hb
 ·cases he
end
end
section
section
variable {P:Program}{G:Nat->List AV}{base nt:Nat}{L:List Nat}{gh:Gh}{w:World}{a:Act}{s:AS}
def nn(gh:Gh)(n:Nat)(w:World)(C:Array Value)(X:List AV):Prop :=
 C.size=X.length/\∀ (j:Nat) (v:Value) (x:AV),C[j]?=some v->X[j]?=some x->VR gh n w v x/\v.oneCell'=true
theorem VR.dv{n:Nat}{v:Value}{x:AV}(h:VR gh n w v x)(hx:∀ cs,x≠.agg cs)(mG:∀ cs,x≠.tuple cs):v.oneCell'=true:=by
 cases h with
 | plain _ _ h=>exact h.dv
 | full=>rfl
 | ref=>rfl
 | sref=>rfl
 | mref=>rfl
 | func=>rfl
 | iface=>rfl
 | agg _ xs=>exact absurd rfl (hx xs)
 | tuple _ xs=>exact absurd rfl (mG xs)
theorem o5{n:Nat}{v:Value}{x:AV}{cs:List AV}(h:VR gh n w v x)(hc:x.cells=some cs):nn gh n w v.cells cs:=by
 have single:x.cells=some [x]->(∀ cs,x≠.agg cs)->(∀ cs,x≠.tuple cs)->nn gh n w v.cells cs:=by
  intro h1 h2 h3
  rw[h1] at hc
  injection hc with hc
  subst hc
  have dY:=h.dv h2 h3
  have:v.cells=#[v]:=by cases v<;>first|rfl|(simp[Value.oneCell'] at dY)
  rw[this]
  refine⟨rfl,fun j u y hu hy=>?_⟩
  cases j with
  | zero=>simp at hu hy;subst hu hy;exact⟨h,dY⟩
  | succ j=>simp at hu
 cases x
 case agg xs =>
  obtain⟨C,rfl,hs,dY,h⟩:=h.iW
  injection hc with hc
  subst hc
  exact⟨hs,fun j v x hv hx=>⟨h j v x hv hx,dY j v hv⟩⟩
 case any=>cases hc
 case tuple=>cases hc
 case lbox=>cases hc
 case lref=>cases hc
 case lsl=>cases hc
 case lsr=>cases hc
 case eref=>cases hc
 case iter=>cases hc
 all_goals exact single rfl (by intro cs h;cases h) (by intro cs h;cases h)
theorem nn.dropped{n:Nat}{C:Array Value}{X:List AV}(h:nn gh n w C X):nn gh n w C (X.map AV.drop):=by
 refine⟨by simp[h.1],fun j v x hv hx=>?_⟩
 simp only[ah2,ahK] at hx
 obtain⟨y,hy,rfl⟩:=hx
 exact⟨VR.dropped (h.2 j v y hv hy).1,(h.2 j v y hv hy).2⟩
theorem mu:∀ (l:List Value) (off k:Nat) (C:Array Value) (j:Nat),off+k+l.length<=C.size ->
  ((l.zipIdx k).foldl (fun cs (c,i)=>cs.setIfInBounds (off+i) c) C)[j]?=if off+k<=j/\j<off+k+l.length then l[j-(off+k)]? else C[j]?
 | [],off,k,C,j,h=>by simp;omega
 | v :: l,off,k,C,j,h=>by
  have h' : off+(k+1)+l.length<=(C.setIfInBounds (off+k) v).size:=by simp at h ⊢;omega
  rw[List.zipIdx_cons,akf,mu l off (k+1) _ j h']
  by_cases h1:j=off+k
  ·subst h1
   have aZ:off+k<C.size:=by simp at h;omega
   rw[if_neg (by omega),if_pos (by simp)]
   simp[aZ]
  ·by_cases h2:off+(k+1)<=j/\j<off+(k+1)+l.length
   ·rw[if_pos h2,if_pos (by simp;omega)]
    have:j-(off+k)=j-(off+(k+1))+1:=by omega
    rw[this,aiL]
   ·rw[if_neg h2,if_neg (by simp;omega),ajB (by omega)]
theorem lH:∀ (l:List (Value × Nat)) (off:Nat) (C:Array Value),(l.foldl (fun cs (c,i)=>cs.setIfInBounds (off+i) c) C).size=C.size
 | [],off,C=>rfl
 | v :: l,off,C=>by rw[akf,lH l off];simp
theorem pn{l cs:List AV}{off:Nat}(h:off+cs.length<=l.length)(j:Nat):(putAt l off cs)[j]?=if off<=j/\j<off+cs.length then cs[j-off]? else l[j]?:=by
 have Ly:min off l.length=off:=by omega
 unfold putAt
 simp only[aiw,List.length_append,List.length_take,Ly,ah5,ail]
 by_cases h1:j<off
 ·have e1:j<off+cs.length:=by omega
  rw[if_pos e1,if_pos h1,if_pos h1,if_neg (by omega)]
 ·by_cases h2:j<off+cs.length
  ·rw[if_pos h2,if_neg h1,if_pos ⟨by omega,h2⟩]
  ·rw[if_neg h2,if_neg (by omega)]
   congr 1;omega
theorem nf{l cs:List AV}{off:Nat}(h:off+cs.length<=l.length):(putAt l off cs).length=l.length:=by
 unfold putAt;simp;omega
theorem nn.put{n:Nat}{C D:Array Value}{X Y:List AV}(h:nn gh n w C X)(hd:nn gh n w D Y){off:Nat}(hl:off+Y.length<=X.length) :
  nn gh n w (D.zipIdx.foldl (fun cs (c,i)=>cs.setIfInBounds (off+i) c) C) (putAt X off Y):=by
 have e:D.zipIdx.foldl (fun cs (c,i)=>cs.setIfInBounds (off+i) c) C=(D.toList.zipIdx 0).foldl (fun cs (c,i)=>cs.setIfInBounds (off+i) c) C:=by
  rw[<- Array.foldl_toList,Array.toList_zipIdx]
 rw[e]
 refine⟨by rw[lH,nf hl,h.1],fun j v x hv hx=>?_⟩
 have hD:D.toList.length=Y.length:=by simpa using hd.1
 rw[mu _ _ _ _ _ (by rw[hD,h.1];omega)] at hv
 rw[pn hl] at hx
 simp only[ajl,hD] at hv
 by_cases hc:off<=j/\j<off+Y.length
 ·rw[if_pos hc] at hv hx
  exact hd.2 _ v x (by simpa using hv) hx
 ·rw[if_neg hc] at hv hx
  exact h.2 j v x hv hx
theorem vd{n:Nat}{place:Nat->Option (Nat × Nat)} : ∀ (parts:List (Nat × Value)) (ip:List (Nat × Nat × AV)) (C:Array Value) (Z Z' : List AV),nn gh n w C Z->cD Z ip=some Z'->parts.length=ip.length ->
  (∀ (j:Nat) (p:Nat × Value) (q:Nat × Nat × AV),parts[j]?=some p->ip[j]?=some q->place p.1=some (q.1,q.2.1)/\(∀ cs,q.2.2.cells=some cs->nn gh n w p.2.cells cs)) ->
  ∃ C',Instr.fill place C parts=some C'/\nn gh n w C' Z'
 | [],[],C,Z,Z',h,hb,_,_=>by simp[cD] at hb;subst hb;exact⟨C,rfl,h⟩
 | p :: parts,q :: ip,C,Z,Z',h,hb,hl,hp=>by
  obtain⟨h1,h2⟩:=hp 0 p q rfl rfl
  obtain⟨i,v⟩:=p
  obtain⟨off,sz,x⟩:=q
  simp only[cD] at hb
  split at hb
  ·cases hb
  ·rename_i cs fq
   obtain⟨h3,fE⟩:=ab hb
   simp only[ahR,dV,ah8,aiq] at h3
   have hr:=h2 cs fq
   have fA:v.cells.size=sz:=by rw[hr.1];exact h3.1
   have hlen:(cs.map AV.drop).length=cs.length:=by simp
   obtain⟨C',hf,bp⟩:=vd parts ip _ _ Z' (h.put hr.dropped (off:=off) (by rw[hlen];exact h3.2)) fE (by simpa using hl) (fun j p q kU Wh=>hp (j+1) p q (by simpa using kU) (by simpa using Wh))
   refine⟨C',?_,bp⟩
   simp only at h1
   unfold Instr.fill
   rw[h1]
   have j6:¬ (decide (v.cells.size≠sz) || decide (off+v.cells.size>C.size))=true:=by
    have:=hr.1;have:=h.1
    simp;omega
   simp only
   rw[if_neg j6]
   exact hf
 | [],_ :: _,_,_,_,_,_,hl,_=>by simp at hl
 | _ :: _,[],_,_,_,_,_,hl,_=>by simp at hl
theorem Dn{n:Nat}{t:TypeId}{z:List AV}(h:fB P t=some z):∃ i zv,P.info? t=some i/\i.zero=some zv/\nn gh n w zv.cells z:=by
 simp only[fB,ahL] at h
 obtain⟨zv,⟨i,hi,hz⟩,hc⟩:=h
 obtain⟨h1,h2⟩:=iO (gh:=gh) (n:=n) (w:=w) hc
 exact⟨i,zv,hi,hz,by simpa using h1,fun j v x hv hx=>h2 j v x (by simpa using hv) hx⟩
theorem xJ{n:Nat}{v:Value}{x:AV}(h:iI v=some x):VR gh n w v (lQ x):=by
 have hv:VR gh n w v x:=qQ h
 unfold lQ
 split
 ·unfold iI at h
  split at h<;>first|(cases h;done)|(injection h with h;cases h;done)|exact .plain _ _ .ay
 ·exact hv
theorem zi{n:Nat}{v:Value}{x:AV}(h:oy v=some x):VR gh n w v (lQ x):=by
 have h0:=hN (gh:=gh) (n:=n) (w:=w) h
 unfold oy at h
 split at h
 ·simp only[ahK] at h
  obtain⟨l,_,rfl⟩:=h
  exact h0
 ·exact xJ h
theorem oz:∀ {vs:List Value} {xs:List AV},cV vs=some xs->∀ (j:Nat) (v:Value) (x:AV),vs[j]?=some v->xs[j]?=some x->iI v=some x
 | [],xs,h,j,v,x,hv,hx=>by simp at hv
 | u :: vs,xs,h,j,v,x,hv,hx=>by
  simp only[cV,ahL,ahK] at h
  obtain⟨y,hy,ys,LL,rfl⟩:=h
  cases j with
  | zero=>simp at hv hx;subst hv hx;exact hy
  | succ j=>exact oz LL j v x (by simpa using hv) (by simpa using hx)
theorem px{n:Nat}{t:TypeId}{b:Bool}{z:List AV}(h:(fB P t).map (fun z=>cond b (z.map lQ) z)=some z):∃ i zv,P.info? t=some i/\i.zero=some zv/\nn gh n w zv.cells z:=by
 simp only[ahK] at h
 obtain⟨z0,h0,rfl⟩:=h
 obtain⟨i,zv,h1,h2,h3⟩:=Dn (gh:=gh) (n:=n) (w:=w) h0
 refine⟨i,zv,h1,h2,?_⟩
 cases b with
 | false=>exact h3
 | true =>
  refine⟨by simpa using h3.1,fun j v x hv hx=>?_⟩
  simp only[cond_true,ah2,ahK] at hx
  obtain⟨y,hy,rfl⟩:=hx
  simp only[fB,ahL] at h0
  obtain⟨zv',⟨i',ku,Uz⟩,hc⟩:=h0
  rw[h1] at ku
  injection ku with ku
  subst ku
  rw[h2] at Uz
  injection Uz with Uz
  subst Uz
  exact⟨xJ (oz hc j v y (by simpa using hv) hy),(h3.2 j v y hv hy).2⟩
theorem mY(hW:aF G base s.H gh w)(hF:FR L nt gh w a s){x:Operand}{y:ak}(hc:ah nt x=some y):∀ cs,(y.eval G s.T).drop.cells=some cs->nn gh s.H.length w (a.eval x).cells cs:=by
 intro cs fq
 have hf:aq (y.eval G s.T)=true:=by
  rw[<- ib]
  generalize (y.eval G s.T).drop=Y at fq
  cases Y<;>first|rfl|cases fq
 exact o5 (bS hW hF hc rfl hf) fq
theorem tW(hW:aF G base s.H gh w)(hF:FR L nt gh w a s){o:Oper}{t:TypeId}{parts:Array (Nat × Operand)}{fs:Array Go.Field}{z Z:List AV}{ps:List (Nat × Nat × ak)}
  (ho:o.op=.build t parts) {kp:Bool} (hz:(fB P t).map (fun z=>cond kp (z.map lQ) z)=some z) (hu:P.underlying t=some (.struct fs)) (hp:ld P nt fs.toList parts.toList=some ps)
  (fh:∃ pl,fs.toList.mapM (fun f=>(P.info? f.type).map fun i=>(f.offset,i.size))=some pl)
  (he:cD z (ps.map fun p=>(p.1,p.2.1,(p.2.2.eval G s.T).drop))=some Z) :
  ∃ v,(execOp a.eval o).run P w=.ok (.value v) w/\k8 gh s.H.length nt w s.T s.gen (dQ a) v (.agg Z):=by
 obtain⟨i,zv,hi,LM,bp⟩:=px (gh:=gh) (n:=s.H.length) (w:=w) hz
 obtain⟨pl,ue⟩:=fh
 have inv:∀ (l:List (Nat × Operand)) (ps:List (Nat × Nat × ak)),ld P nt fs.toList l=some ps->l.length=ps.length /\
   ∀ (j:Nat) (p:Nat × Operand) (q:Nat × Nat × ak),l[j]?=some p->ps[j]?=some q->(∃ f,fs.toList[p.1]?=some f/\cY P f.type=some q.2.1/\f.offset=q.1)/\ah nt p.2=some q.2.2:=by
  intro l
  induction l with
  | nil=>intro ps h;simp[ld] at h;subst h;exact⟨rfl,fun j p q h=>by simp at h⟩
  | cons p l ih =>
   intro ps h
   obtain⟨k,x⟩:=p
   simp only[ld,ahL,ahK] at h
   obtain⟨f,hf,sz,fA,y,hy,rest,hr,rfl⟩:=h
   obtain⟨h1,h2⟩:=ih rest hr
   refine⟨by simp[h1],fun j p q hp hq=>?_⟩
   cases j with
   | zero=>simp at hp hq;subst hp hq;exact⟨⟨f,hf,fA,rfl⟩,hy⟩
   | succ j=>exact h2 j p q (by simpa using hp) (by simpa using hq)
 obtain⟨hl,hinv⟩:=inv _ _ hp
 have Wg:∀ (k:Nat) (f:Go.Field) (sz:Nat),fs.toList[k]?=some f->cY P f.type=some sz->pl.toArray[k]?=some (f.offset,sz):=by
  have gen:∀ (l:List Go.Field) (pl:List (Nat × Nat)),l.mapM (fun f=>(P.info? f.type).map fun i=>(f.offset,i.size))=some pl->∀ (k:Nat) (f:Go.Field) (sz:Nat),l[k]?=some f->cY P f.type=some sz->pl[k]?=some (f.offset,sz):=by
   intro l
   induction l with
   | nil=>intro pl _ k f sz h;simp at h
   | cons g l ih =>
    intro pl h k f sz hk hs
    simp only[List.mapM_cons,Option.bind_eq_bind,Option.pure_def,ahL,ahK] at h
    obtain⟨q,⟨ii,IZ,rfl⟩,rest,hr,h⟩:=h
    injection h with h
    subst h
    cases k with
    | zero =>
     simp at hk;subst hk
     obtain⟨i',ku,rq⟩:=kV hs
     rw[ku] at IZ;injection IZ with IZ;subst IZ;simp[rq]
    | succ k=>simpa using ih rest hr k f sz (by simpa using hk) hs
  intro k f sz hk hs
  simpa using gen _ _ ue k f sz hk hs
 obtain⟨C',hf,rp⟩:=vd (gh:=gh) (w:=w) (n:=s.H.length) (place:=fun x=>pl.toArray[x]?) ((parts.map fun p=>(p.1,a.eval p.2)).toList) (ps.map fun p=>(p.1,p.2.1,(p.2.2.eval G s.T).drop)) zv.cells z Z bp he (by simpa using hl) (by
  intro j p q hp hq
  simp only[akc,ah2,ahK] at hp hq
  obtain⟨p0,LB,rfl⟩:=hp
  obtain⟨q0,hq0,rfl⟩:=hq
  obtain⟨⟨f,hf,hs,mi⟩,hc⟩:=hinv j p0 q0 LB hq0
  exact⟨by rw[Wg _ f _ hf hs,mi],mY hW hF hc⟩)
 have hb:P.built t (parts.map fun p=>(p.1,a.eval p.2)).toList=some C':=by
  unfold Program.built
  rw[hi,hu]
  simp only[LM,ue]
  exact hf
 refine⟨.agg C',by simp[execOp,ho,run_build w t _ C' hb],.cB (.agg _ _ rp.1 (fun j v hj=>?_) (fun j v x hv hx=>(rp.2 j v x hv hx).1))⟩
 have aZ:j<Z.length:=by rw[<- rp.1];exact (ahT.1 hj).1
 exact (rp.2 j v _ hj (ahP aZ)).2
end
end
section
section
variable {G:Nat->List AV}{base nt:Nat}{L:List Nat}{gh:Gh}{w w' : World}{a:Act}{s:AS}{H:ag}
def Gh.alloc(gh:Gh)(b:Nat)(p:aW)(q:Nat->Prop):Gh:={ S:=fun b' o=>gh.S b' o\/(b'=b/\q o),κ:=fun b'=>if b'=b then p else gh.κ b',ρ:=gh.ρ }
structure dp (w w' : World) (o:Obj):Prop where
 heap:w'.heap=w.heap.push o
 os:w'.os=w.os
 tape:w'.tape=w.tape
 output:w'.output=w.output
theorem dp.alloc(w:World)(o:Obj):dp w (w.alloc o) o:=⟨rfl,rfl,rfl,rfl⟩
theorem dp.drew(w:World)(o:Obj):dp w (w.drew.alloc o) o:=⟨rfl,rfl,rfl,rfl⟩
theorem dp.old{o:Obj}(h:dp w w' o)(b:Nat)(hb:b<w.heap.size):w'.heap[b]?=w.heap[b]?:=by
 rw[h.heap,ajq,if_neg (by omega)]
theorem dp.new{o:Obj}(h:dp w w' o):w'.heap[w.heap.size]?=some o:=by
 rw[h.heap,ajq,if_pos rfl]
theorem dp.size{o:Obj}(h:dp w w' o):w'.heap.size=w.heap.size+1:=by rw[h.heap];simp
theorem cell_of_heap{b o:Nat}(h:w'.heap[b]?=w.heap[b]?):w'.cell? ⟨b,o,none⟩=w.cell? ⟨b,o,none⟩:=by simp[World.cell?,h]
theorem aF.bq(hW:aF G base H gh w)(b:Nat)(hb:w.heap.size<=b):gh.κ b≠.outer:=by rw[hW.fresh b hb];simp
theorem fP(hW:aF G base H gh w){o:Obj}(hp:dp w w' o){p:aW}(cS:p≠.outer)(q:Nat->Prop)(n:Nat):Step (fun _=>False) n gh w (gh.alloc w.heap.size p q) w':=by
 refine⟨fun b o h=>.inl h,fun b o h=>cell_of_heap (hp.old b (hW.lX b o h)),by rw[hp.size];omega,hp.os,hp.tape,hp.output,?_,?_,fun _ _=>rfl,fun b ty m hb=>by
  obtain⟨C,fr,h1,h2⟩:=hb
  exact⟨C,fr,by rw[hp.old b (ahT.1 h1).1];exact h1,h2⟩,fun b E ck hs hb=>by rw[hp.old b (hW.lX b 0 hs)];exact hb⟩
 ·intro b hb _
  have ud:b≠w.heap.size:=by omega
  refine⟨.inl (hp.old b hb),by simp[Gh.alloc,ud],fun o ho=>?_⟩
  rcases ho with ho|⟨e,_⟩
  ·exact ho
  ·exact absurd e ud
 ·intro b hb
  show (if b=w.heap.size then p else gh.κ b)≠.outer
  split
  ·exact cS
  ·exact hW.bq b hb
theorem k9(hW:aF G base H gh w){o:Obj}(hp:dp w w' o){p:aW}(cS:p≠.outer)(q:Nat->Prop)(n:Nat):Ext n gh w (gh.alloc w.heap.size p q) w':=by
 refine⟨(fP hW hp cS q n).mono (fun _ h=>h.elim),fun b hb=>?_⟩
 have fE:(if b=w.heap.size then p else gh.κ b)=.outer:=hb
 split at fE
 ·exact absurd fE cS
 ·exact fE
theorem aF.step{touch:aW->Prop}{aD:Gh}(hW:aF G base H gh w)(st:Step touch H.length gh w aD w')(ht:∀ l,¬ touch (.hb l)/\∀ j,¬ touch (.hs l j))
  (hs:∀ b o,aD.S b o->b<w'.heap.size) (hk:∀ b,aD.κ b≠.none->base<=b/\b<w'.heap.size)
  (mb:∀ b o m,aD.S b o->gh.S b o\/(w'.cell? ⟨b,o,none⟩=some (.int .u8 m)->∃ C fr,w'.heap[b]?=some (.cells C fQ fr))):aF G base H aD w':=by
 refine⟨ait hW.size st.size,hs,hk,fun g j x hx=>?_,fun loc ty cs hl=>?_,hW.refs,fun g hg=>(hW.uj g hg).imp fun ty h=>st.len g ty _ h,hW.iY st mb,fun loc o hl=>?_,fun loc ty cs hl=>?_⟩
 ·obtain⟨v,h1,h2,h3⟩:=hW.aP g j x hx
  exact⟨v,(st.cell g j h3).trans h1,h2.mono st.S st.cell st.mp,st.S g j h3⟩
 ·have aZ:loc<H.length:=(ahO.1 hl).1
  have h:=(hW.boxes loc ty cs hl).mono st (ahQ _) (ht loc).1 (ht loc).2
  rw[st.ρ loc aZ];exact h
 ·rw[st.ρ loc (ahO.1 hl).1]
  exact (hW.more loc o hl).mono st (ahQ _) (ht loc).1 (ht loc).2
 ·rw[st.ρ loc (ahO.1 hl).1]
  exact fun hf=>st.len _ _ _ (hW.types loc ty cs hl hf)
theorem aF.alloc(hW:aF G base H gh w){o:Obj}(hp:dp w w' o){p:aW}(cS:p≠.outer)(q:Nat->Prop)
  (hq:∀ k m,q k->w'.cell? ⟨w.heap.size,k,none⟩=some (.int .u8 m)->∃ C fr,w'.heap[w.heap.size]?=some (.cells C fQ fr)):aF G base H (gh.alloc w.heap.size p q) w':=by
 refine hW.step (fP hW hp cS q H.length) (fun l=>⟨id,fun _=>id⟩) ?_ ?_ (fun b k m h=>h.elim .inl (fun ⟨e,hk⟩=>.inr (by subst e;exact hq k m hk)))
 ·intro b o ho
  rw[hp.size]
  rcases ho with ho|⟨rfl,_⟩
  ·have:=hW.lX b o ho;omega
  ·omega
 ·intro b hb
  rw[hp.size]
  have fE:(if b=w.heap.size then p else gh.κ b)≠.none:=hb
  split at fE
  ·rename_i e
   have:=hW.size
   omega
  ·have:=hW.mH b fE;omega
def Gh.mS(gh:Gh)(b:Nat)(p:aW):Gh:={ gh with κ:=fun b'=>if b'=b then p else gh.κ b' }
theorem jm(hW:aF G base H gh w){b:Nat}(hb:b<w.heap.size)(p:aW)(n:Nat):Step (fun r=>r=gh.κ b) n gh w (gh.mS b p) w:=by
 refine⟨fun _ _ h=>h,fun _ _ _=>rfl,ahQ _,rfl,rfl,rfl,fun b' fE hn=>⟨.inl rfl,?_,fun _ h=>h⟩,fun b' fE=>?_,fun _ _=>rfl,fun _ _ _ h=>h,fun _ _ _ _ h=>h⟩
 ·have cS:b'≠b:=by rintro rfl;exact hn rfl
  simp[Gh.mS,cS]
 ·have cS:b'≠b:=by omega
  simp only[Gh.mS,if_neg cS]
  exact hW.bq b' fE
theorem qZ(hW:aF G base H gh w){b:Nat}(hb:b<w.heap.size){p:aW}(hp:p≠.outer)(h0:gh.κ b≠.none)(h1:gh.κ b≠.outer)(n:Nat):Ext n gh w (gh.mS b p) w:=by
 refine⟨(jm hW hb p n).mono (fun r h=>by rw[h];exact⟨h0,h1⟩),fun b' fE=>?_⟩
 have iV:(if b'=b then p else gh.κ b')=.outer:=fE
 split at iV
 ·exact absurd iV hp
 ·exact iV
theorem FG(hW:aF G base H gh w){b:Nat}(hb:b<w.heap.size)(p:aW)(h0:gh.κ b≠.none)(ht:∀ l,gh.κ b≠.hb l/\∀ j,gh.κ b≠.hs l j):aF G base H (gh.mS b p) w:=by
 refine hW.step (jm hW hb p H.length) (fun l=>⟨fun h=>(ht l).1 h.symm,fun j h=>(ht l).2 j h.symm⟩) hW.lX ?_ (fun _ _ _ h=>.inl h)
 intro b' fE
 have iV:(if b'=b then p else gh.κ b')≠.none:=fE
 split at iV
 ·rename_i e;rw[e];exact hW.mH b h0
 ·exact hW.mH b' iV
theorem ng(hW:aF G base H gh w){b:Nat}{C C' : Array Value}{ty:TypeId}{fr:Nat × Nat}(hb:w.heap[b]?=some (.cells C ty fr))(fA:C'.size=C.size)(q:Nat->Prop)
  (bI:∀ o,gh.S b o->C'[o]?=C[o]?) (p:aW) (n:Nat) :
  Step (fun r=>r=gh.κ b) n gh w { gh with S:=fun b' o=>gh.S b' o\/(b'=b/\q o),κ:=fun b'=>if b'=b then p else gh.κ b' } (w.setRow b C'):=by
 have aZ:b<w.heap.size:=(ahT.1 hb).1
 refine⟨fun b o h=>.inl h,fun b' o h=>?_,by simp,rfl,rfl,rfl,fun b' fE hn=>?_,fun b' fE=>?_,fun _ _=>rfl,fun b' j7 m hm=>by
  obtain⟨D,ZD,h1,h2⟩:=hm
  by_cases e:b'=b
  ·subst e
   rw[hb] at h1
   injection h1 with h1
   injection h1 with h1 h3 h4
   subst h1 h3
   exact⟨C',fr,setRow_heap w b' C C' ty fr hb,by rw[fA,h2]⟩
  ·exact⟨D,ZD,by rw[setRow_other w b b' C' e];exact h1,h2⟩,fun b' E ck hs hm=>by
  have e:b'≠b:=by rintro rfl;rw[hb] at hm;cases hm
  rw[setRow_other w b b' C' e];exact hm⟩
 ·by_cases e:b'=b
  ·subst e
   rw[cell_setRow_same w b' o C C' ty fr hb,bI o h]
   simp[World.cell?,hb]
  ·exact cell_of_heap (setRow_other w b b' C' e)
 ·have cS:b'≠b:=by rintro rfl;exact hn rfl
  refine⟨.inl (setRow_other w b b' C' cS),by simp[cS],fun o ho=>?_⟩
  rcases ho with ho|⟨e,_⟩
  ·exact ho
  ·exact absurd e cS
 ·have cS:b'≠b:=by omega
  simp only[if_neg cS]
  exact hW.bq b' fE
theorem uC(hW:aF G base H gh w){b:Nat}{C C' : Array Value}{ty:TypeId}{fr:Nat × Nat}(hb:w.heap[b]?=some (.cells C ty fr))(fA:C'.size=C.size)(q:Nat->Prop)
  (bI:∀ o,gh.S b o->C'[o]?=C[o]?) {p:aW} (hp:p≠.outer) (h0:gh.κ b≠.none) (h1:gh.κ b≠.outer) (n:Nat) :
  Ext n gh w { gh with S:=fun b' o=>gh.S b' o\/(b'=b/\q o),κ:=fun b'=>if b'=b then p else gh.κ b' } (w.setRow b C'):=by
 refine⟨(ng hW hb fA q bI p n).mono (fun r h=>by rw[h];exact⟨h0,h1⟩),fun b' fE=>?_⟩
 have iV:(if b'=b then p else gh.κ b')=.outer:=fE
 split at iV
 ·exact absurd iV hp
 ·exact iV
theorem HH(hW:aF G base H gh w){b:Nat}{C C' : Array Value}{ty:TypeId}{fr:Nat × Nat}(hb:w.heap[b]?=some (.cells C ty fr))(fA:C'.size=C.size)(q:Nat->Prop)
  (bI:∀ o,gh.S b o->C'[o]?=C[o]?) (hq:∀ k m,q k->C'[k]?=some (.int .u8 m)->ty=fQ) (p:aW) (h0:gh.κ b≠.none) (ht:∀ l,gh.κ b≠.hb l/\∀ j,gh.κ b≠.hs l j) :
  aF G base H { gh with S:=fun b' o=>gh.S b' o\/(b'=b/\q o),κ:=fun b'=>if b'=b then p else gh.κ b' } (w.setRow b C'):=by
 have aZ:b<w.heap.size:=(ahT.1 hb).1
 refine hW.step (ng hW hb fA q bI p H.length) (fun l=>⟨fun h=>(ht l).1 h.symm,fun j h=>(ht l).2 j h.symm⟩) ?_ ?_ (fun b' k m h=>h.elim .inl (fun ⟨e,hk⟩=>.inr (fun hc=>by
   subst e
   rw[cell_setRow_same w b' k C C' ty fr hb] at hc
   have:=hq k m hk hc
   subst this
   exact⟨C',fr,setRow_heap w b' C C' _ fr hb⟩)))
 ·intro b' o ho
  simp
  rcases ho with ho|⟨rfl,_⟩
  ·exact hW.lX b' o ho
  ·exact aZ
 ·intro b' fE
  simp
  have iV:(if b'=b then p else gh.κ b')≠.none:=fE
  split at iV
  ·rename_i e;rw[e];exact hW.mH b h0
  ·exact hW.mH b' iV
theorem FR.br{aD:Gh}{touch:aW->Prop}(h:FR L nt gh w a s)(st:Step touch s.H.length gh w aD w'){t:Nat}{X:AV}{H' : ag}{lo' : Nat}(hH:s.H.length<=H'.length)
  (ht:∀ i,i≠t->¬ touch (.bx i)/\¬ touch (.sl i)/\∀ j,¬ touch (.sc i j))
  (hX:(t<nt/\aQ X=aQ (s.T t))\/aQ X=none) (hsr:t<nt->SR aD H'.length nt w' s.T s.gen (dQ a) t (dQ a t) X) :
  FR L nt aD w' a (({ s with H:=H',lo:=lo' } : AS).br t X):=by
 refine h.update st h.defers h.size hH (ahQ _) (fun i=>i=t) ?_ ?_ ?_
 ·intro i hi
  exact⟨by simp[AS.br,gn,hi],fun _=>⟨rfl,ht i hi⟩⟩
 ·rintro i rfl
  simp only[AS.br,gn,ai3]
  rcases hX with ⟨h1,h2⟩|h1
  ·exact .inl ⟨h1,h2,trivial⟩
  ·exact .inr (.inl h1)
 ·rintro i rfl hi
  simp only[AS.br,gn,ai3]
  refine SR.mono (touch:=fun _=>False) (n:=H'.length) (gh:=aD) (w:=w') (Step.refl _ _ _ _ (fun b hb=>st.fresh b (ait st.size hb))) (ahQ _) (ahQ _) id id (fun _=>id) ?_ (hsr hi)
  intro k hk
  by_cases J1:k=i
  ·subst J1
   rcases hX with ⟨h1,h2⟩|h1
   ·exact .inl (by rw[gn,if_pos rfl];exact⟨h2,rfl⟩)
   ·exact .inr (.inl (by simp[gn,h1]))
  ·exact .inl ⟨by simp[gn,J1],rfl⟩
theorem FR.Ok(h:FR L nt gh w a s){gen' : Nat}(hg:s.gen<=gen')(dI:∀ b,w.heap.size<=b->gh.κ b≠.outer)(d:Option Nat)(hd:∀ k,d=some k->k<nt){v:Value}{x:AV}
  (hx:aQ x=none\/((∃ g,s.gen<=g/\aQ x=some g)/\∀ k,d=some k->k∈L))
  (hv:∀ k,d=some k->SR gh s.H.length nt w s.T gen' (dQ a) k v x):FR L nt gh w (a.put d v) (({ s with gen:=gen' } : AS).b9 d x):=by
 have st:Step (fun _=>False) s.H.length gh w gh w:=Step.refl _ _ _ _ dI
 cases d with
 | none=>exact h.update st h.defers h.size (ahQ _) hg (fun _=>False) (fun i _=>⟨rfl,fun _=>⟨rfl,id,id,fun _=>id⟩⟩) (fun _ h=>h.elim) (fun _ h=>h.elim)
 | some d =>
  have aZ:=hd d rfl
  have fA:d<a.tmps.size:=by rw[h.size];exact aZ
  refine h.update (s':=({ s with gen:=gen' } : AS).b9 (some d) x) st ((tL a (some d) v).trans h.defers) ((CU a (some d) v).trans h.size) (ahQ _) hg (fun i=>i=d) ?_ ?_ ?_
  ·intro i hi
   exact⟨by simp[AS.b9,AS.br,gn,hi],fun _=>⟨by rw[mo a d v i fA,if_neg hi],id,id,fun _=>id⟩⟩
  ·rintro i rfl
   simp only[AS.b9,AS.br,gn,ai3]
   rcases hx with hx|⟨⟨g,hg1,hg2⟩,hl⟩
   ·exact .inr (.inl hx)
   ·exact .inr (.inr ⟨hl i rfl,g,hg1,hg2⟩)
  ·rintro i rfl hi
   simp only[AS.b9,AS.br,gn,ai3]
   rw[mo a i v i fA,if_pos rfl]
   have nW:=hv i rfl
   cases x
   case lref b g off =>
    obtain⟨h1,h2,h3⟩:=nW
    refine⟨h1,h2,fun vw b' fE=>?_⟩
    by_cases Li:b=i
    ·subst Li;simp[gn,aQ] at vw
    ·simp only[gn,if_neg Li] at vw
     rw[mo a i v b fA,if_neg Li] at fE
     exact h3 vw b' fE
   case lsr b g =>
    obtain⟨h1,h2,h3⟩:=nW
    refine⟨h1,h2,fun vw=>?_⟩
    by_cases Li:b=i
    ·subst Li;simp[gn,aQ] at vw
    ·simp only[gn,if_neg Li] at vw
     rw[mo a i v b fA,if_neg Li]
     exact h3 vw
   case eref b g r z off =>
    obtain⟨h1,h2,h3⟩:=nW
    refine⟨h1,h2,fun vw b' k cap fE=>?_⟩
    by_cases Li:b=i
    ·subst Li;simp[gn,aQ] at vw
    ·simp only[gn,if_neg Li] at vw
     rw[mo a i v b fA,if_neg Li] at fE
     exact h3 vw b' k cap fE
   all_goals exact nW
end
end
section
section
variable {P:Program}{G:Nat->List AV}{base nt:Nat}{L:List Nat}{gh:Gh}{w:World}{a:Act}{s:AS}
structure Out (G:Nat->List AV) (base nt:Nat) (L:List Nat) (gh:Gh) (w:World) (a:Act) (s:AS) (d:Option Nat) (x:AV) (s' : AS) (v' : Value) (aD:Gh) (w' : World):Prop where
 W:aF G base s'.H aD w'
 F:FR L nt aD w' (a.put d v') (s'.b9 d x)
 E:Ext s.H.length gh w aD w'
def qD(P:Program)(a:Act)(o:Oper)(w:World)(v' : Value)(w' : World):Prop :=
 (execOp a.eval o).run P w=.ok (.value v') w'\/((execOp a.eval o).run P w=.ok .skip w'/\v'=undef)
theorem qD.wp{o:Oper}{v' : Value}{w' : World}{K:Act->World->Prop}{Q:Exit->Act->World->Prop}(h:qD P a o w v' w')(hK:K (a.put o.dst v') w'):o.wp P a w K Q:=by
 unfold Oper.wp
 rcases h with h|⟨h,rfl⟩
 ·rw[h];exact hK
 ·rw[h];exact hK
theorem Out.pure(hW:aF G base s.H gh w)(hF:FR L nt gh w a s){d:Option Nat}(hd:∀ k,d=some k->k<nt){v:Value}{x:AV}(hv:k8 gh s.H.length nt w s.T s.gen (dQ a) v x) :
  Out G base nt L gh w a s d x s v gh w:=by
 refine⟨hW,?_,Ext.refl _ _ _ (fun b hb=>hW.bq b hb)⟩
 have:=hF.put (touch:=fun _=>False) (H':=s.H) (lo':=s.lo) (Step.refl _ _ _ _ (fun b hb=>hW.bq b hb)) (fun i=>⟨id,id,fun _=>id⟩) (ahQ _) d hd hv
 exact this
theorem O6{n:Nat}{T:aA}{gen:Nat}{tm:Nat->Value}{i:Nat}{v:Value}{e:List (List AV)}{own:Bool}(h:CR gh n w (.sl i) v (.slice e own)):SR gh n nt w T gen tm i v (.slice e own):=h
def fW(S:Nat->Nat->Prop)(w:World)(sz:Nat)(C:Array Value)(E:List (List AV)):Prop :=
 C.size=E.length*sz/\(∀ (i:Nat) (r:List AV),E[i]?=some r->r.length=sz) /\
  ∀ (i j:Nat) (r:List AV) (x:AV),E[i]?=some r->r[j]?=some x->∃ v,C[i*sz+j]?=some v/\PR S w v x
theorem VR.iS{n:Nat}{v:Value}{x:AV}(h:VR gh n w v x)(hp:x.plain=true):PR gh.S w v x:=by
 cases h with
 | plain _ _ h=>exact h
 | full=>simp[AV.plain] at hp
 | ref=>simp[AV.plain] at hp
 | sref=>simp[AV.plain] at hp
 | mref=>simp[AV.plain] at hp
 | func f fs cs xs ys hf hc h1 h2 =>
  cases xs<;>cases ys<;>simp[AV.plain] at hp
  have e1:fs=#[]:=ajE hf
  have e2:cs=#[]:=ajE hc
  subst e1 e2
  exact .func f
 | iface t v x h =>
  cases x<;>simp[AV.plain] at hp
  all_goals
   cases h with
   | plain _ _ h=>exact .iface _ _ _ h
 | agg=>simp[AV.plain] at hp
 | tuple=>simp[AV.plain] at hp
theorem KP{n:Nat}{v:Value}{x:AV}{sz:Nat}{cs:List AV}(hx:∀ ds,x.cells=some ds->nn gh n w v.cells ds)(he:x.elem sz=some cs) :
  v.cells.size=sz/\cs.length=sz/\∀ (j:Nat) (y:AV),cs[j]?=some y->∃ u,v.cells[j]?=some u/\PR gh.S w u y:=by
 unfold AV.elem at he
 split at he
 ·cases he
 ·rename_i ds YV
  obtain⟨h1,h2⟩:=ab he
  injection h2 with h2
  subst h2
  simp only[ahR,dV,ah8] at h1
  have hr:=(hx ds YV).dropped
  refine⟨by rw[hr.1];exact h1.1,h1.1,fun j y hy=>?_⟩
  have hj:j<v.cells.size:=by rw[hr.1];exact (ahO.1 hy).1
  have hv:v.cells[j]?=some v.cells[j]:=ahY hj
  exact⟨_,hv,((hr.2 j _ y hv hy).1).iS (ahU.1 h1.2 y (ahZ hy))⟩
theorem qu{i n sz j:Nat}(hi:i<n)(hj:j<sz):i*sz+j<n*sz:=by
 have:(i+1)*sz<=n*sz:=ah7 _ hi
 rw[aip] at this
 omega
theorem fW.put{S:Nat->Nat->Prop}{sz:Nat}{C D:Array Value}{E:List (List AV)}{cs:List AV}{i:Nat}(h:fW S w sz C E)(hi:i<E.length)(hD:D.size=sz)(fq:cs.length=sz)
  (bX:∀ (j:Nat) (y:AV),cs[j]?=some y->∃ u,D[j]?=some u/\PR S w u y):fW S w sz (D.zipIdx.foldl (fun q (c,k)=>q.setIfInBounds (i*sz+k) c) C) (E.set i cs):=by
 have e:D.zipIdx.foldl (fun q (c,k)=>q.setIfInBounds (i*sz+k) c) C=(D.toList.zipIdx 0).foldl (fun q (c,k)=>q.setIfInBounds (i*sz+k) c) C:=by
  rw[<- Array.foldl_toList,Array.toList_zipIdx]
 have hDl:D.toList.length=sz:=by simpa using hD
 have hle:i*sz+sz<=C.size:=by
  have:(i+1)*sz<=E.length*sz:=ah7 _ hi
  rw[aip] at this
  rw[h.1];omega
 rw[e]
 refine⟨by rw[lH,h.1];simp,fun k r hk=>?_,fun k j r x hk hj=>?_⟩
 ·rw[aiI] at hk
  split at hk
  ·rename_i J1
   subst J1
   injection hk with hk;subst hk;exact fq
  ·exact h.2.1 k r hk
 ·rw[mu _ _ _ _ _ (by rw[hDl];omega)]
  simp only[ajl,hDl]
  rw[aiI] at hk
  split at hk
  ·rename_i J1
   subst J1
   ·injection hk with hk
    subst hk
    have FP:j<sz:=by rw[<- fq];exact (ahO.1 hj).1
    rw[if_pos ⟨by omega,by omega⟩]
    obtain⟨u,hu,hp⟩:=bX j x hj
    refine⟨u,?_,hp⟩
    rw[show i*sz+j-i*sz=j by omega]
    simpa using hu
  ·rename_i J1
   have FP:j<sz:=by rw[<- h.2.1 k r hk];exact (ahO.1 hj).1
   have j6:¬ (i*sz<=k*sz+j/\k*sz+j<i*sz+sz):=by
    rintro ⟨c1,c2⟩
    have:i=k:=by
     rcases ajJ i k with h'|h'|h'
     ·have:(i+1)*sz<=k*sz:=ah7 _ h'
      rw[aip] at this;omega
     ·exact h'
     ·have:(k+1)*sz<=i*sz:=ah7 _ h'
      rw[aip] at this;omega
    exact J1 this
   rw[if_neg j6]
   exact h.2.2 k j r x hk hj
theorem xR{S:Nat->Nat->Prop}{sz:Nat} : ∀ (parts:List (Nat × Value)) (ip:List (Nat × AV)) (C:Array Value) (E E' : List (List AV)),fW S w sz C E->ca sz E ip=some E'->parts.length=ip.length ->
  (∀ (j:Nat) (p:Nat × Value) (q:Nat × AV),parts[j]?=some p->ip[j]?=some q->p.1=q.1/\∀ cs,q.2.elem sz=some cs->p.2.cells.size=sz/\cs.length=sz/\∀ (j:Nat) (y:AV),cs[j]?=some y->∃ u,p.2.cells[j]?=some u/\PR S w u y) ->
  ∃ C',Instr.fill (fun i=>some (i*sz,sz)) C parts=some C'/\fW S w sz C' E'
 | [],[],C,E,E',h,hb,_,_=>by simp[ca] at hb;subst hb;exact⟨C,rfl,h⟩
 | p :: parts,q :: ip,C,E,E',h,hb,hl,hp=>by
  obtain⟨h1,h2⟩:=hp 0 p q rfl rfl
  obtain⟨i,v⟩:=p
  obtain⟨i',x⟩:=q
  simp only at h1
  subst h1
  simp only[ca] at hb
  split at hb
  ·cases hb
  ·rename_i cs fq
   obtain⟨h3,fE⟩:=ab hb
   have hi:i<E.length:=by simpa [aih] using h3
   obtain⟨c1,c2,c3⟩:=h2 cs fq
   obtain⟨C',hf,bp⟩:=xR parts ip _ _ E' (h.put hi c1 c2 c3) fE (by simpa using hl) (fun j p q kU Wh=>hp (j+1) p q (by simpa using kU) (by simpa using Wh))
   refine⟨C',?_,bp⟩
   unfold Instr.fill
   simp only
   have hle:i*sz+sz<=C.size:=by
    have:(i+1)*sz<=E.length*sz:=ah7 _ hi
    rw[aip] at this
    rw[h.1];omega
   have j6:¬ (decide (v.cells.size≠sz) || decide (i*sz+v.cells.size>C.size))=true:=by
    simp at c1;simp;omega
   rw[if_neg j6]
   exact hf
 | [],_ :: _,_,_,_,_,_,hl,_=>by simp at hl
 | _ :: _,[],_,_,_,_,_,hl,_=>by simp at hl
theorem fW.slice{S:Nat->Nat->Prop}{sz:Nat}{C:Array Value}{E:List (List AV)}{w' : World}{ty:TypeId}(h:fW S w sz C E){gh:Gh}(hS:gh.S=S){C' : Array Value}{p:aW}(hp:dp w w' (.cells C' ty))
  (hW:∀ b o,S b o->b<w.heap.size) (hC:∀ j,j<C.size->C'[j]?=C[j]?) {q:Nat->Prop} (hq:∀ j,j<E.length*sz->q j) (cap:Nat) (ig:E.length<=cap) :
  PR (gh.alloc w.heap.size p q).S w' (.slice (some ⟨w.heap.size,0,none⟩) E.length cap) (.slice E false):=by
 subst hS
 have key:∀ (i j:Nat) (r:List AV) (x:AV),E[i]?=some r->r[j]?=some x->∃ v,C[i*sz+j]?=some v/\PR gh.S w v x/\i*sz+j<E.length*sz:=by
  intro i j r x hi hj
  obtain⟨v,hv,AM⟩:=h.2.2 i j r x hi hj
  exact⟨v,hv,AM,by rw[<- h.1];exact (ahT.1 hv).1⟩
 refine .slice w.heap.size 0 E.length cap sz E (fun i j=>C.getD (i*sz+j) undef) rfl ig h.2.1 ?_ ?_
 ·intro i j r x hi hj
  obtain⟨v,hv,AM,aZ⟩:=key i j r x hi hj
  have ma:i*sz+j<C.size:=by rw[h.1];exact aZ
  have hg:C.getD (i*sz+j) undef=v:=by
   rw[ahY ma] at hv
   injection hv with hv
   simp[ma,hv]
  refine⟨.inr ⟨rfl,by simpa using hq _ aZ⟩,?_,by rw[hg];exact AM.dv⟩
  rw[hg,Nat.zero_add]
  simp only[World.cell?,hp.new]
  simpa [hC _ ma] using hv
 ·intro i j r x hi hj
  obtain⟨v,hv,AM,aZ⟩:=key i j r x hi hj
  have ma:i*sz+j<C.size:=by rw[h.1];exact aZ
  have hg:C.getD (i*sz+j) undef=v:=by
   rw[ahY ma] at hv
   injection hv with hv
   simp[ma,hv]
  rw[hg]
  exact AM.mono (fun b o ho=>.inl ho) (fun b o ho=>cell_of_heap (hp.old b (hW b o ho))) (fun b E ck hs hb=>by rw[hp.old b (hW b 0 hs)];exact hb)
end
end
section
section
variable {P:Program}{G:Nat->List AV}{base nt:Nat}{L:List Nat}{gh:Gh}{w w' : World}{a:Act}{s:AS}{H:ag}
def J3:Option Nat->aW
 | some d=>.sl d
 | none=>.none
def Dr:Option Nat->aW
 | some d=>.bx d
 | none=>.none
theorem mn(d:Option Nat):J3 d≠.outer:=by cases d<;>simp[J3]
theorem qG(d:Option Nat):Dr d≠.outer:=by cases d<;>simp[Dr]
theorem FR.grown{aD:Gh}{touch:aW->Prop}(h:FR L nt gh w a s)(st:Step touch s.H.length gh w aD w')(ht:∀ i,¬ touch (.bx i)/\¬ touch (.sl i)/\∀ j,¬ touch (.sc i j))
  {H' : ag} {lo' : Nat} (hH:s.H.length<=H'.length):FR L nt aD w' a { s with H:=H',lo:=lo' } :=
 h.update st h.defers h.size hH (ahQ _) (fun _=>False) (fun i _=>⟨rfl,fun _=>⟨rfl,ht i⟩⟩) (fun _ h=>h.elim) (fun _ h=>h.elim)
def Gh.bg(gh:Gh)(b n:Nat):Gh:={ gh.alloc b (.hb n) (fun _=>False) with ρ:=fun l=>if l=n then b else gh.ρ l }
theorem fp(hW:aF G base H gh w){o:Obj}(hp:dp w w' o):Step (fun _=>False) H.length gh w (gh.bg w.heap.size H.length) w':=by
 have h:=fP hW hp (p:=.hb H.length) (by simp) (fun _=>False) H.length
 refine⟨h.S,h.cell,h.size,h.os,h.tape,h.output,h.xB,h.fresh,fun loc hl=>?_,h.len,h.mp⟩
 show (if loc=H.length then _ else _)=_
 rw[if_neg (by omega)]
theorem jq(hW:aF G base H gh w){o:Obj}(hp:dp w w' o):Ext H.length gh w (gh.bg w.heap.size H.length) w':=by
 refine⟨(fp hW hp).mono (fun _ h=>h.elim),fun b hb=>?_⟩
 have fE:(if b=w.heap.size then aW.hb H.length else gh.κ b)=.outer:=hb
 split at fE
 ·cases fE
 ·exact fE
theorem aF.bg(hW:aF G base H gh w){C:Array Value}{ty:TypeId}(hp:dp w w' (.cells C ty)){cs:List AV}(bp:nn gh H.length w C cs)(hr:cs.all (aR H.length)=true) :
  aF G base (H++[.box ty cs]) (gh.bg w.heap.size H.length) w':=by
 have st:=fp hW hp
 refine⟨ait hW.size st.size,?_,?_,fun g j x hx=>?_,fun loc j7 ds hl=>?_,fun loc j7 ds hl=>?_,fun g hg=>(hW.uj g hg).imp fun ty h=>st.len g ty _ h,hW.iY st (fun b o m h=>h.elim .inl (fun h=>h.2.elim)),fun loc o hl=>?_,fun loc j7 ds hl=>?_⟩
 ·intro b o ho
  rw[hp.size]
  rcases ho with ho|⟨_,ho⟩
  ·have:=hW.lX b o ho;omega
  ·exact ho.elim
 ·intro b hb
  rw[hp.size]
  have fE:(if b=w.heap.size then aW.hb H.length else gh.κ b)≠.none:=hb
  split at fE
  ·rename_i e
   have:=hW.size
   omega
  ·have:=hW.mH b fE;omega
 ·obtain⟨v,h1,h2,h3⟩:=hW.aP g j x hx
  exact⟨v,(st.cell g j h3).trans h1,h2.mono st.S st.cell st.mp,st.S g j h3⟩
 ·rw[List.length_append,aiV]
  by_cases aZ:loc<H.length
  ·rw[ah6 aZ] at hl
   have h:=(hW.boxes loc j7 ds hl).mono st (n':=H.length+1) (aiD _) id (fun _=>id)
   rw[st.ρ loc aZ];exact h
  ·rw[aic (by omega)] at hl
   have hz:loc=H.length:=by
    have:=(ahO.1 hl).1
    simp at this;omega
   subst hz
   simp only[ajO,ah',ahM,dm.box.injEq] at hl
   obtain⟨rfl,rfl⟩:=hl
   have hρ:(gh.bg w.heap.size H.length).ρ H.length=w.heap.size:=by simp[Gh.bg]
   rw[hρ]
   refine⟨by simp[Gh.bg,Gh.alloc],?_,C,ty,hp.new,ajm bp.1.symm,fun j v x hv hx=>?_⟩
   ·rintro o (ho|⟨_,ho⟩)
    ·have:=hW.lX _ o ho;omega
    ·exact ho
   ·obtain⟨h1,h2⟩:=bp.2 j v x hv hx
    exact⟨h2,.inl (h1.mono st (aiD _))⟩
 ·by_cases aZ:loc<H.length
  ·rw[ah6 aZ] at hl
   exact hW.refs loc j7 ds hl
  ·rw[aic (by omega)] at hl
   have hz:loc=H.length:=by
    have:=(ahO.1 hl).1
    simp at this;omega
   subst hz
   simp only[ajO,ah',ahM,dm.box.injEq] at hl
   obtain⟨rfl,rfl⟩:=hl
   exact hr
 ·rw[List.length_append,aiV]
  by_cases aZ:loc<H.length
  ·rw[ah6 aZ] at hl
   rw[st.ρ loc aZ]
   exact (hW.more loc o hl).mono st (aiD _) id (fun _=>id)
  ·rw[aic (by omega)] at hl
   have hz:loc=H.length:=by
    have:=(ahO.1 hl).1
    simp at this;omega
   subst hz
   simp only[ajO,ah',ahM] at hl
   subst hl
   trivial
 ·by_cases aZ:loc<H.length
  ·rw[ah6 aZ] at hl
   rw[st.ρ loc aZ]
   exact fun hf=>st.len _ _ _ (hW.types loc j7 ds hl hf)
  ·rw[aic (by omega)] at hl
   have hz:loc=H.length:=by
    have:=(ahO.1 hl).1
    simp at this;omega
   subst hz
   simp only[ajO,ah',ahM,dm.box.injEq] at hl
   obtain⟨rfl,rfl⟩:=hl
   have hρ:(gh.bg w.heap.size H.length).ρ H.length=w.heap.size:=by simp[Gh.bg]
   rw[hρ]
   exact fun _=>⟨C,(0,0),hp.new,bp.1⟩
theorem Out.bg(hW:aF G base s.H gh w)(hF:FR L nt gh w a s){d:Option Nat}(hd:∀ k,d=some k->k<nt){C:Array Value}{ty:TypeId}(hp:dp w w' (.cells C ty)){cs:List AV}(bp:nn gh s.H.length w C cs)
  (hr:cs.all (aR s.H.length)=true) :
  Out G base nt L gh w a s d (.ref s.H.length 0) (s.fa ⟨s.H++[.box ty cs],s.H.length⟩) (.pointer (some ⟨w.heap.size,0,none⟩)) (gh.bg w.heap.size s.H.length) w':=by
 have hρ:(gh.bg w.heap.size s.H.length).ρ s.H.length=w.heap.size:=by simp[Gh.bg]
 have hv:VR (gh.bg w.heap.size s.H.length) (s.H++[dm.box ty cs]).length w' (.pointer (some ⟨w.heap.size,0,none⟩)) (.ref s.H.length 0):=by
  have:=VR.ref (gh:=gh.bg w.heap.size s.H.length) (w:=w') (n:=(s.H++[dm.box ty cs]).length) s.H.length 0 (by simp)
  rw[hρ] at this;exact this
 exact⟨hW.bg hp bp hr,hF.put (fp hW hp) (fun i=>⟨id,id,fun _=>id⟩) (by simp) d hd (.cB hv),jq hW hp⟩
theorem w5{v:Value}{x:AV}(h:iI v=some x):x.drop.plain=true:=by
 unfold iI at h
 split at h<;>first|(injection h with h;subst h;rfl)|cases h
theorem lq:∀ {vs:List Value} {xs:List AV},cV vs=some xs->∀ x,x∈xs->x.drop.plain=true
 | [],xs,h=>by simp[cV] at h;subst h;simp
 | v :: r,xs,h=>by
  simp only[cV,ahL,ahK] at h
  obtain⟨x,hx,ys,hy,rfl⟩:=h
  intro z hz
  rcases aii.1 hz with rfl|hz
  ·exact w5 hx
  ·exact lq hy z hz
theorem s8{t:TypeId}{z:List AV}(h:fB P t=some z):∀ x,x∈z->x.drop.plain=true:=by
 simp only[fB,ahL] at h
 obtain⟨zv,_,hc⟩:=h
 exact lq hc
theorem rf{loc:Nat}{x:AV}(h:x.drop.plain=true):aR loc x=true:=by
 cases x<;>first|exact h|(simp[AV.drop,AV.plain] at h;done)|skip
 rename_i f fs cs
 cases fs<;>cases cs<;>first|rfl|(simp[AV.drop,AV.plain] at h)
theorem mw{loc:Nat}{x:AV}(h:aR loc x=true):aR loc x.drop=true:=by
 cases x<;>exact h
theorem yF{t:TypeId}{i:TypeInfo}{zv:Value}(hi:P.info? t=some i)(hz:i.zero=some zv)(w:World) :
  (Instr.alloc t true (.tuple #[])).run P w=.ok (.pointer (some ⟨w.heap.size,0,none⟩)) (w.alloc (.cells zv.cells t)):=by
 simp[Instr.alloc,zeroValue,typeInfo,hi,hz,newVar,newRow]
theorem JR{t:TypeId}{kp:Bool}{z:List AV}(h:(fB P t).map (fun z=>cond kp (z.map lQ) z)=some z):∀ x,x∈z->x.drop.plain=true:=by
 simp only[ahK] at h
 obtain⟨z0,h0,rfl⟩:=h
 cases kp with
 | false=>exact s8 h0
 | true =>
  intro x hx
  obtain⟨y,hy,rfl⟩:=aia.1 hx
  have:=s8 h0 y hy
  unfold lQ
  split
  ·rfl
  ·exact this
theorem Iz(hW:aF G base s.H gh w)(hF:FR L nt gh w a s){o:Oper}{t:TypeId}{z:List AV}(ho:o.op=.alloc t){kp:Bool}(hz:(fB P t).map (fun z=>cond kp (z.map lQ) z)=some z)(hd:∀ k,o.dst=some k->k<nt) :
  ∃ v' aD w',qD P a o w v' w'/\Out G base nt L gh w a s o.dst (.ref s.H.length 0) (s.fa ⟨s.H++[.box t z],s.H.length⟩) v' aD w':=by
 obtain⟨i,zv,hi,LM,bp⟩:=px (gh:=gh) (n:=s.H.length) (w:=w) hz
 refine⟨_,_,_,.inl ?_,Out.bg hW hF hd (.alloc w (.cells zv.cells t)) bp ?_⟩
 ·simp[execOp,ho,yF hi LM]
 ·exact ahU.2 fun x hx=>rf (JR hz x hx)
theorem Vq(hW:aF G base s.H gh w)(hF:FR L nt gh w a s){o:Oper}{t:TypeId}{x:Operand}{y:ak}{cs:List AV}(ho:o.op=.box t x)(hc:ah nt x=some y)(fq:(y.eval G s.T).drop.cells=some cs)
  (fh:cs.all (aR s.H.length)=true) (hd:∀ k,o.dst=some k->k<nt) :
  ∃ v' aD w',qD P a o w v' w'/\Out G base nt L gh w a s o.dst (.ref s.H.length 0) (s.fa ⟨s.H++[.box t (cs.map AV.drop)],s.H.length⟩) v' aD w':=by
 have bp:=(mY hW hF hc cs fq).dropped
 refine⟨_,_,_,.inl ?_,Out.bg hW hF hd (.alloc w (.cells (a.eval x).cells t)) bp ?_⟩
 ·simp[execOp,ho,Instr.box,newVar,newRow]
 ·refine ahU.2 fun x hx=>?_
  obtain⟨y,hy,rfl⟩:=aia.1 hx
  exact mw (ahU.1 fh y hy)
theorem IA(hW:aF G base s.H gh w)(hF:FR L nt gh w a s){o:Oper}{t:TypeId}{z:List AV}(ho:o.op=.alloc t){kp:Bool}(hz:(fB P t).map (fun z=>cond kp (z.map lQ) z)=some z)(hd:∀ k,o.dst=some k->k<nt/\k∈L) :
  ∃ v' aD w',qD P a o w v' w'/\Out G base nt L gh w a s o.dst (.lbox s.gen z) { s with gen:=s.gen+1 } v' aD w':=by
 obtain⟨i,zv,hi,LM,bp⟩:=px (gh:=gh) (n:=s.H.length) (w:=w) hz
 have hp:=dp.alloc w (.cells zv.cells t)
 have cS:=qG o.dst
 have st:=fP hW hp cS (fun _=>False) s.H.length
 have BY:FR L nt (gh.alloc w.heap.size (Dr o.dst) fun _=>False) (w.alloc (.cells zv.cells t)) a s:=hF.grown (H':=s.H) (lo':=s.lo) st (fun i=>⟨id,id,fun _=>id⟩) (ahQ _)
 have j0:=hW.alloc hp cS (fun _=>False) (fun _ _ h=>h.elim)
 refine⟨.pointer (some ⟨w.heap.size,0,none⟩),_,_,.inl ?_,j0,BY.Ok (gen':=s.gen+1) (aiD _) (fun b hb=>j0.bq b hb) o.dst (fun k hk=>(hd k hk).1) (.inr ⟨⟨s.gen,ahQ _,rfl⟩,fun k hk=>(hd k hk).2⟩) ?_,k9 hW hp cS _ _⟩
 ·simp[execOp,ho,yF hi LM]
 ·intro k hk
  refine⟨ajZ _,w.heap.size,rfl,?_⟩
  rw[hk] at st ⊢
  refine⟨by simp[Gh.alloc,Dr],?_,zv.cells,t,hp.new,ajm bp.1.symm,fun j v x hv hx=>?_⟩
  ·rintro o (ho|⟨_,ho⟩)
   ·have:=hW.lX _ o ho;omega
   ·exact ho
  ·obtain⟨h1,h2⟩:=bp.2 j v x hv hx
   exact⟨h2,.inl (h1.mono st (ahQ _))⟩
theorem PQ(hW:aF G base s.H gh w)(hF:FR L nt gh w a s){o:Oper}{t:TypeId}{x:Operand}{y:ak}{cs:List AV}(ho:o.op=.box t x)(hc:ah nt x=some y)(fq:(y.eval G s.T).drop.cells=some cs)(hd:∀ k,o.dst=some k->k<nt/\k∈L) :
  ∃ v' aD w',qD P a o w v' w'/\Out G base nt L gh w a s o.dst (.lbox s.gen (cs.map AV.drop)) { s with gen:=s.gen+1 } v' aD w':=by
 have bp:=(mY hW hF hc cs fq).dropped
 have hp:=dp.alloc w (.cells (a.eval x).cells t)
 have cS:=qG o.dst
 have st:=fP hW hp cS (fun _=>False) s.H.length
 have BY:FR L nt (gh.alloc w.heap.size (Dr o.dst) fun _=>False) (w.alloc (.cells (a.eval x).cells t)) a s:=hF.grown (H':=s.H) (lo':=s.lo) st (fun i=>⟨id,id,fun _=>id⟩) (ahQ _)
 have j0:=hW.alloc hp cS (fun _=>False) (fun _ _ h=>h.elim)
 refine⟨.pointer (some ⟨w.heap.size,0,none⟩),_,_,.inl ?_,j0,BY.Ok (gen':=s.gen+1) (aiD _) (fun b hb=>j0.bq b hb) o.dst (fun k hk=>(hd k hk).1) (.inr ⟨⟨s.gen,ahQ _,rfl⟩,fun k hk=>(hd k hk).2⟩) ?_,k9 hW hp cS _ _⟩
 ·simp[execOp,ho,Instr.box,newVar,newRow]
 ·intro k hk
  refine⟨ajZ _,w.heap.size,rfl,?_⟩
  rw[hk] at st ⊢
  refine⟨by simp[Gh.alloc,Dr],?_,(a.eval x).cells,t,hp.new,ajm bp.1.symm,fun j v x hv hx=>?_⟩
  ·rintro o (ho|⟨_,ho⟩)
   ·have:=hW.lX _ o ho;omega
   ·exact ho
  ·obtain⟨h1,h2⟩:=bp.2 j v x hv hx
   exact⟨h2,.inl (h1.mono st (ahQ _))⟩
theorem vb(hW:aF G base s.H gh w)(hF:FR L nt gh w a s){o:Oper}{t e:TypeId}{n sz:Nat}{parts:Array (Nat × Operand)}{z Z:List AV}{ps:List (Nat × Nat × ak)}
  (ho:o.op=.build t parts) {kp:Bool} (hz:(fB P t).map (fun z=>cond kp (z.map lQ) z)=some z) (hu:P.underlying t=some (.array n e)) (hs:cY P e=some sz) (hp:iF nt sz parts.toList=some ps)
  (he:cD z (ps.map fun p=>(p.1,p.2.1,(p.2.2.eval G s.T).drop))=some Z) :
  ∃ v,(execOp a.eval o).run P w=.ok (.value v) w/\k8 gh s.H.length nt w s.T s.gen (dQ a) v (.agg Z):=by
 obtain⟨i,zv,hi,LM,bp⟩:=px (gh:=gh) (n:=s.H.length) (w:=w) hz
 obtain⟨ie,YW,Lt⟩:=kV hs
 have inv:∀ (l:List (Nat × Operand)) (ps:List (Nat × Nat × ak)),iF nt sz l=some ps->l.length=ps.length /\
   ∀ (j:Nat) (p:Nat × Operand) (q:Nat × Nat × ak),l[j]?=some p->ps[j]?=some q->q.1=p.1*sz/\q.2.1=sz/\ah nt p.2=some q.2.2:=by
  intro l
  induction l with
  | nil=>intro ps h;simp[iF] at h;subst h;exact⟨rfl,fun j p q h=>by simp at h⟩
  | cons p l ih =>
   intro ps h
   obtain⟨k,x⟩:=p
   simp only[iF,ahL,ahK] at h
   obtain⟨y,hy,rest,hr,rfl⟩:=h
   obtain⟨h1,h2⟩:=ih rest hr
   refine⟨by simp[h1],fun j p q hp hq=>?_⟩
   cases j with
   | zero=>simp at hp hq;subst hp hq;exact⟨rfl,rfl,hy⟩
   | succ j=>exact h2 j p q (by simpa using hp) (by simpa using hq)
 obtain⟨hl,hinv⟩:=inv _ _ hp
 obtain⟨C',hf,rp⟩:=vd (gh:=gh) (w:=w) (n:=s.H.length) (place:=fun i=>some (i*ie.size,ie.size)) ((parts.map fun p=>(p.1,a.eval p.2)).toList) (ps.map fun p=>(p.1,p.2.1,(p.2.2.eval G s.T).drop)) zv.cells z Z bp he (by simpa using hl) (by
  intro j p q hp hq
  simp only[akc,ah2,ahK] at hp hq
  obtain⟨p0,LB,rfl⟩:=hp
  obtain⟨q0,hq0,rfl⟩:=hq
  obtain⟨h1,h2,hc⟩:=hinv j p0 q0 LB hq0
  exact⟨by simp[h1,h2,Lt],mY hW hF hc⟩)
 have hb:P.built t (parts.map fun p=>(p.1,a.eval p.2)).toList=some C':=by
  unfold Program.built
  rw[hi,hu]
  simp only[LM,YW]
  exact hf
 refine⟨.agg C',by simp[execOp,ho,run_build w t _ C' hb],.cB (.agg _ _ rp.1 (fun j v hj=>?_) (fun j v x hv hx=>(rp.2 j v x hv hx).1))⟩
 have aZ:j<Z.length:=by rw[<- rp.1];exact (ahT.1 hj).1
 exact (rp.2 j v _ hj (ahP aZ)).2
theorem JS{t:TypeId}{z:List AV}{zv:Value}{sz len:Nat}(bp:nn gh H.length w zv.cells z)(fh:∀ x,x∈z->x.drop.plain=true)(hz:z.length=sz)(B7:0<sz) :
  fW gh.S w sz ((Array.range (len*sz)).map (zv.cells[· % zv.cells.size]!)) (List.replicate len (z.map AV.drop)):=by
 have fA:zv.cells.size=sz:=by rw[bp.1,hz]
 refine⟨by simp,fun i r hi=>?_,fun i j r x hi hj=>?_⟩
 ·rw[aj9] at hi
  split at hi
  ·injection hi with hi;subst hi;simpa using hz
  ·cases hi
 ·rw[aj9] at hi
  split at hi
  ·rename_i aZ
   injection hi with hi;subst hi
   simp only[ah2,ahK] at hj
   obtain⟨y,hy,rfl⟩:=hj
   have hj:j<sz:=by rw[<- hz];exact (ahO.1 hy).1
   have tZ:j<zv.cells.size:=by omega
   have V5:(i*sz+j) % zv.cells.size=j:=by rw[fA,Nat.mul_add_mod',Nat.mod_eq_of_lt hj]
   refine⟨zv.cells[j],?_,?_⟩
   ·have Lx:i*sz+j<len*sz:=qu aZ hj
    rw[Array.getElem?_map,ahY (by simpa using Lx)]
    simp only[Array.getElem_range,ah0,V5]
    congr 1
    exact getElem!_pos zv.cells j tZ
   ·have hv:zv.cells[j]?=some zv.cells[j]:=ahY tZ
    exact (VR.dropped (bp.2 j _ y hv hy).1).iS (fh y (ahZ hy))
  ·cases hi
theorem oV{k n sz:Nat}(h:k<n*sz):k / sz<n/\k % sz<sz/\k / sz*sz+k % sz=k:=by
 have fA:0<sz:=by
  rcases Nat.eq_zero_or_pos sz with h0|h0
  ·subst h0;simp at h
  ·exact h0
 refine⟨Nat.div_lt_of_lt_mul (by rw[aj7];exact h),Nat.mod_lt _ fA,?_⟩
 have:=Nat.div_add_mod k sz
 rw[aj7] at this
 exact this
theorem lW{S:Nat->Nat->Prop}{sz:Nat}{A:Array Value}{E:List (List AV)}{isB:Bool}{ty:TypeId}(h:fW S w sz A E)(pb:jY isB E=true)(hB:isB=true->ty=fQ){k:Nat}{m:Int}(hk:k<E.length*sz)
  (hc:A[k]?=some (.int .u8 m)):ty=fQ:=by
 cases isB with
 | true=>exact hB rfl
 | false =>
  exfalso
  obtain⟨h1,h2,h3⟩:=oV hk
  have hr:=ahP h1
  obtain⟨x,hx⟩:∃ x,E[k / sz][k % sz]?=some x:=⟨_,ahP (show k % sz<E[k / sz].length by rw[h.2.1 _ _ hr];exact h2)⟩
  obtain⟨v,hv,hp⟩:=h.2.2 _ _ _ _ hr hx
  rw[h3,hc] at hv
  injection hv with hv
  subst hv
  have hn:gM E=true:=pb
  have h4:=ahU.1 (ahU.1 hn _ (ahZ hr)) _ (ahZ hx)
  cases hp<;>simp at h4
theorem tJ(hW:aF G base s.H gh w)(hF:FR L nt gh w a s){t e:TypeId}{len sz:Nat}{parts:Array (Nat × Operand)}{z:List AV}{E:List (List AV)}{ps:List (Nat × ak)}
  (hu:P.underlying t=some (.slice e)) (hs:cY P e=some sz) (hz:fB P e=some z) (hp:jj nt parts.toList=some ps) (zP:len*sz<=16777216) (Qz:z.length=sz) (B7:0<sz)
  (he:ca sz (List.replicate len (z.map AV.drop)) (ps.map fun p=>(p.1,(p.2.eval G s.T).drop))=some E) :
  ∃ C',(Instr.buildSlice t len (parts.map fun p=>(p.1,a.eval p.2))).run P w=.ok (.slice (some ⟨w.heap.size,0,none⟩) len len) (w.alloc (.cells C' e))/\fW gh.S w sz C' E/\E.length=len:=by
 obtain⟨i,zv,hi,LM,bp⟩:=Dn (gh:=gh) (n:=s.H.length) (w:=w) hz
 obtain⟨ie,YW,Lt⟩:=kV hs
 rw[hi] at YW;injection YW with YW;subst YW
 have inv:∀ (l:List (Nat × Operand)) (ps:List (Nat × ak)),jj nt l=some ps->l.length=ps.length /\
   ∀ (j:Nat) (p:Nat × Operand) (q:Nat × ak),l[j]?=some p->ps[j]?=some q->q.1=p.1/\ah nt p.2=some q.2:=by
  intro l
  induction l with
  | nil=>intro ps h;simp[jj] at h;subst h;exact⟨rfl,fun j p q h=>by simp at h⟩
  | cons p l ih =>
   intro ps h
   obtain⟨k,x⟩:=p
   simp only[jj,ahL,ahK] at h
   obtain⟨y,hy,rest,hr,rfl⟩:=h
   obtain⟨h1,h2⟩:=ih rest hr
   refine⟨by simp[h1],fun j p q hp hq=>?_⟩
   cases j with
   | zero=>simp at hp hq;subst hp hq;exact⟨rfl,hy⟩
   | succ j=>exact h2 j p q (by simpa using hp) (by simpa using hq)
 obtain⟨hl,hinv⟩:=inv _ _ hp
 obtain⟨C',hf,cv⟩:=xR (w:=w) (S:=gh.S) (sz:=sz) ((parts.map fun p=>(p.1,a.eval p.2)).toList) (ps.map fun p=>(p.1,(p.2.eval G s.T).drop)) _ _ E (JS (t:=e) (len:=len) bp (s8 hz) Qz B7) he (by simpa using hl) (by
  intro j p q hp hq
  simp only[akc,ah2,ahK] at hp hq
  obtain⟨p0,LB,rfl⟩:=hp
  obtain⟨q0,hq0,rfl⟩:=hq
  obtain⟨h1,hc⟩:=hinv j p0 q0 LB hq0
  exact⟨h1.symm,fun cs fq=>KP (mY hW hF hc) fq⟩)
 have tB:E.length=len:=by
  have:∀ (ip:List (Nat × AV)) (es E:List (List AV)),ca sz es ip=some E->E.length=es.length:=by
   intro ip
   induction ip with
   | nil=>intro es E h;simp[ca] at h;rw[h]
   | cons q ip ih =>
    intro es E h
    obtain⟨i,v⟩:=q
    simp only[ca] at h
    split at h
    ·cases h
    ·obtain⟨_,h⟩:=ab h
     rw[ih _ _ h];simp
  rw[this _ _ _ he];simp
 have cg:(Instr.buildSlice t len (parts.map fun p=>(p.1,a.eval p.2))).run P w=.ok (.slice (some ⟨w.heap.size,0,none⟩) len len) (w.alloc (.cells C' e)):=by
  by_cases h0:len*sz=0
  ·have Z7:len=0:=by rcases Nat.mul_eq_zero.1 h0 with h|h<;>omega
   subst Z7
   have hE:ps=[]:=by
    cases hps:ps with
    | nil=>rfl
    | cons q r =>
     rw[hps] at he
     simp only[ah1,ca,List.replicate_zero,ahX] at he
     split at he
     ·cases he
     ·obtain⟨h,_⟩:=ab he
      simp[aih] at h
   have ue:parts.toList=[]:=by
    have:parts.toList.length=0:=by rw[hl,hE];rfl
    exact ajC.1 this
   have hpa:parts=#[]:=by simpa using ue
   subst hpa
   have FT:Array.range 0=#[]:=rfl
   have IV:C'=#[]:=by simpa [Instr.fill,FT] using hf.symm
   subst IV
   simp[Instr.buildSlice,run_underlying hu,sizeOf,typeInfo,hi,Instr.fill,newRow,FT]
  ·exact run_buildSlice w t e len _ C' i zv hu hi LM (by rw[Lt];omega) (by rw[Lt];exact h0) (by rw[Lt];exact hf)
 exact⟨C',cg,cv,tB⟩
theorem Fo(hW:aF G base s.H gh w)(hF:FR L nt gh w a s){o:Oper}{t e:TypeId}{len sz:Nat}{parts:Array (Nat × Operand)}{z:List AV}{E:List (List AV)}{ps:List (Nat × ak)}{isB:Bool}
  (ho:o.op=.buildSlice t len parts) (hu:P.underlying t=some (.slice e)) (hs:cY P e=some sz) (hz:fB P e=some z) (hp:jj nt parts.toList=some ps)
  (pb:jY isB E=true) (Lu:isB=true->e=fQ) (zP:len*sz<=16777216) (Qz:z.length=sz) (B7:0<sz)
  (he:ca sz (List.replicate len (z.map AV.drop)) (ps.map fun p=>(p.1,(p.2.eval G s.T).drop))=some E) (hd:∀ k,o.dst=some k->k<nt) :
  ∃ v' aD w',qD P a o w v' w'/\Out G base nt L gh w a s o.dst (.slice E true) s v' aD w':=by
 obtain⟨C',cg,cv,tB⟩:=tJ (P:=P) hW hF hu hs hz hp zP Qz B7 he
 have kU:=dp.alloc w (.cells C' e)
 have cS:=mn o.dst
 have Du:=cv.slice (gh:=gh) rfl kU (p:=J3 o.dst) hW.lX (fun j _=>rfl) (q:=fun _=>True) (fun _ _=>trivial) E.length (ahQ _)
 have hv:VR (gh.alloc w.heap.size (J3 o.dst) fun _=>True) s.H.length (w.alloc (.cells C' e)) (.slice (some ⟨w.heap.size,0,none⟩) E.length E.length) (.slice E true):=.full _ _ _ Du (fun ad ha _=>by injection ha with ha;subst ha;simp)
 rw[tB] at hv
 have st:=fP hW kU cS (fun _=>True) s.H.length
 have BY:FR L nt (gh.alloc w.heap.size (J3 o.dst) fun _=>True) (w.alloc (.cells C' e)) a s:=hF.grown (H':=s.H) (lo':=s.lo) st (fun i=>⟨id,id,fun _=>id⟩) (ahQ _)
 have j0:=hW.alloc kU cS (fun _=>True) (fun k m _ hc=>by
  rw[cell_of_row _ _ k _ _ _ kU.new] at hc
  have hk:k<E.length*sz:=by rw[<- cv.1];exact (ahT.1 hc).1
  have:=lW cv pb Lu hk hc
  subst this
  exact⟨C',(0,0),kU.new⟩)
 refine⟨.slice (some ⟨w.heap.size,0,none⟩) len len,_,_,.inl ?_,j0,BY.Ok (gen':=s.gen) (ahQ _) (fun b hb=>j0.bq b hb) o.dst hd (.inl rfl) (fun k hk=>?_),k9 hW kU cS _ _⟩
 ·have:(parts.map fun x=>(x.1,a.eval x.2))=parts.map fun p=>(p.1,a.eval p.2):=rfl
  simp[execOp,ho,cg]
 ·exact O6 (.inl hv)
end
end
end Go.Abs
