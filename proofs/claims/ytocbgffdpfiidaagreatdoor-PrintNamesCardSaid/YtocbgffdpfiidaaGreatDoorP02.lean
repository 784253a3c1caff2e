/-
  A part of the proof of PrintNames: AbsOps2, AbsOps3, AbsOps4, AbsOps5, AbsOps6, AbsStep, AbsOps7, AbsOps8.
-/
import Derived.Great.BuildSlice
import Derived.Test.YtocbgffdpfiidaaGreatDoorP01
set_option linter.unusedSimpArgs false
set_option linter.unusedVariables false
set_option linter.defProp false
namespace Go.Abs
section
section
variable {P:Program}{G:Nat->List AV}{base nt:Nat}{L:List Nat}{gh:Gh}{w:World}{a:Act}{s:AS}
theorem vV(hF:FR L nt gh w a s){v:Value}{z:AV}(hv:ld gh s.H.length nt w s.T s.gen (dO a) v z)(hl:bO s z=true) :
  ∃ b o,v=.pointer (some ⟨b,o,none⟩):=by
 cases z<;>simp only[bO,ajM] at hl
 case eptr cs =>
  have hp:=VR.rF (hv:VR gh s.H.length w v (.eptr cs))
  cases hp;exact⟨_,_,rfl⟩
 case ref loc off=>exact⟨_,_,(VR.gV (hv:VR gh s.H.length w v (.ref loc off))).2⟩
 case lref b g off =>
  obtain⟨hb,hg,hr⟩:=(hv:_/\_/\_)
  split at hl
  ·rename_i g' cs hT
   have A7:g=g':=by simpa [dU] using hl
   obtain⟨k,hk,_⟩:=rV hF hb hT
   exact⟨_,_,hr (by rw[hT,A7];rfl) k hk⟩
  ·cases hl
 case eref b g i zz off =>
  obtain⟨hb,hg,hr⟩:=(hv:_/\_/\_)
  split at hl
  ·rename_i g' e hT
   obtain⟨h1,h2⟩:=by simpa [dU,ajb] using hl
   obtain⟨ad,cap,n6,br⟩:=l8 hF hb hT
   rcases br with ⟨rfl,_⟩|⟨k,_,_,_,_,rfl,_⟩
   ·simp at h2
   ·exact⟨_,_,hr (by rw[hT,h1];rfl) k _ _ n6⟩
  ·cases hl
theorem B4(hW:aG G base s.H gh w)(hF:FR L nt gh w a s){o:Oper}{x:Operand}{y:ak}(ho:o.op=.nilCheck x)(hc:ah nt x=some y)(hl:bO s (y.addr G s.T)=true) :
  ∃ v,(execOp a.eval o).run P w=.ok (.value v) w/\ld gh s.H.length nt w s.T s.gen (dO a) v (y.addr G s.T):=by
 have hv:=arg_val hW hF hc
 have hd:(y.addr G s.T).drop=y.addr G s.T:=by cases hz:y.addr G s.T<;>rw[hz] at hl<;>first|rfl|(simp[bO] at hl)
 rw[hd] at hv
 obtain⟨b,of,hp⟩:=vV hF hv hl
 refine⟨a.eval x,?_,hv⟩
 simp[execOp,ho,hp]
theorem HU(hF:FR L nt gh w a s){v:Value}{z z' : AV}(hv:ld gh s.H.length nt w s.T s.gen (dO a) v z)(hl:bO s z=true){off:Nat}(ho:fK off z=some z') :
  ∃ b o,v=.pointer (some ⟨b,o,none⟩)/\ld gh s.H.length nt w s.T s.gen (dO a) (.pointer (some ⟨b,o+off,none⟩)) z':=by
 cases z<;>simp only[fK,aiG,reduceCtorEq] at ho<;>subst ho
 case eptr cs =>
  have hp:=VR.rF (hv:VR gh s.H.length w v (.eptr cs))
  cases hp with
  | eptr b o _ f bH bU =>
   refine⟨b,o,rfl,.cD (.plain _ _ (.eptr b (o+off) _ (fun j=>f (off+j)) ?_ ?_))⟩
   ·intro j x hx
    rw[aje] at hx
    have:=bH (off+j) x hx
    rw[akm]
    exact this
   ·intro j x hx
    rw[aje] at hx
    exact bU (off+j) x hx
 case ref loc of =>
  obtain⟨a7,rfl⟩:=VR.gV (hv:VR gh s.H.length w v (.ref loc of))
  exact⟨_,_,rfl,.cD (.ref loc (of+off) a7)⟩
 case lref b g of =>
  obtain⟨k,o,rfl⟩:=vV hF hv hl
  obtain⟨hb,hg,hr⟩:=(hv:_/\_/\_)
  refine⟨k,o,rfl,hb,hg,fun h1 b' h2=>?_⟩
  have:=hr h1 b' h2
  injection this with this;injection this with this;injection this with e1 e2
  rw[e1,e2]
 case eref b g i zz of =>
  obtain⟨k,o,rfl⟩:=vV hF hv hl
  obtain⟨hb,hg,hr⟩:=(hv:_/\_/\_)
  refine⟨k,o,rfl,hb,hg,fun h1 b' c1 c2 h2=>?_⟩
  have:=hr h1 b' c1 c2 h2
  injection this with this;injection this with this;injection this with e1 e2
  rw[e1,e2,akm]
theorem yF{z:AV}(hl:bO s z=true):z.drop=z:=by cases z<;>first|rfl|(simp[bO] at hl)
theorem zS(hW:aG G base s.H gh w)(hF:FR L nt gh w a s){o:Oper}{t:TypeId}{x:Operand}{f:Nat}{y:ak}{fs:Array Go.Field}{q:Go.Field}{sz:Nat}{z:AV}
  (ho:o.op=.fieldAddr t x f) (hc:ah nt x=some y) (hu:P.underlying t=some (.struct fs)) (hq:fs[f]?=some q) (hs:da P q.type=some sz) (h0:0<sz)
  (hl:bO s (y.addr G s.T)=true) (he:fK q.offset (y.addr G s.T)=some z) :
  ∃ v,(execOp a.eval o).run P w=.ok (.value v) w/\ld gh s.H.length nt w s.T s.gen (dO a) v z:=by
 have hv:=arg_val hW hF hc
 rw[yF hl] at hv
 obtain⟨b,of,hp,n6⟩:=HU hF hv hl he
 refine⟨_,?_,n6⟩
 have cU:¬ sz=0:=by omega
 simp[execOp,ho,hp,Instr.fieldAt,run_underlying hu,hq,Instr.sureAddr,fieldPlace,cZ hs,cU,addr_add]
theorem Lb(hW:aG G base s.H gh w)(hF:FR L nt gh w a s){o:Oper}{t e:TypeId}{x i:Operand}{n sz k:Nat}{y yi:ak}{z:AV}
  (ho:o.op=.indexAddr t x i) (hc:ah nt x=some y) (hi:ah nt i=some yi) (hu:P.underlying t=some (.array n e)) (hs:da P e=some sz)
  (hk:asNat (yi.eval G s.T)=some k) (hkn:k<n) (hl:bO s (y.addr G s.T)=true) (he:fK (k*sz) (y.addr G s.T)=some z) :
  ∃ v,(execOp a.eval o).run P w=.ok (.value v) w/\ld gh s.H.length nt w s.T s.gen (dO a) v z:=by
 have hv:=arg_val hW hF hc
 rw[yF hl] at hv
 obtain⟨b,of,hp,n6⟩:=HU hF hv hl he
 obtain⟨kd,Jf⟩:=jk hW hF hi hk
 refine⟨_,?_,n6⟩
 have h1:k<n:=hkn
 simp[execOp,ho,hp,Jf,Instr.indexAt,asIntOf,run_underlying hu,Instr.sureAddr,cZ hs,h1,addr_add]
theorem Qm(hW:aG G base s.H gh w)(hF:FR L nt gh w a s){o:Oper}{t e:TypeId}{x i:Operand}{sz k:Nat}{y yi:ak}{el:List (List AV)}{own:Bool}{r:List AV}
  (ho:o.op=.indexAddr t x i) (hc:ah nt x=some y) (hi:ah nt i=some yi) (hu:P.underlying t=some (.slice e)) (hs:da P e=some sz)
  (hk:asNat (yi.eval G s.T)=some k) (hy:y.addr G s.T=.slice el own) (hr:el[k]?=some r) (Ji:r.length=sz) :
  ∃ v,(execOp a.eval o).run P w=.ok (.value v) w/\ld gh s.H.length nt w s.T s.gen (dO a) v (.eptr r):=by
 have hv:=VR.ga (mh hW hF hc hy rfl)
 obtain⟨kd,Jf⟩:=jk hW hF hi hk
 generalize hA:a.eval x=V at hv
 cases hv with
 | cB=>simp at hr
 | slice b of n cap ia _ f hn iu br bH bU =>
  have yq:k<el.length:=(aiI.1 hr).1
  have fC:ia=sz:=by rw[<- Ji,br k r hr]
  subst fC
  refine⟨.pointer (some ⟨b,of+k*ia,none⟩),?_,.cD (.plain _ _ (.eptr b (of+k*ia) r (f k) (fun j x hx=>bH k j r x hr hx) (fun j x hx=>bU k j r x hr hx)))⟩
  have h1:k<n:=by omega
  simp[execOp,ho,hA,Jf,Instr.indexAt,asIntOf,run_underlying hu,cZ hs,h1,addr_add]
theorem IU(hW:aG G base s.H gh w)(hF:FR L nt gh w a s){o:Oper}{t e:TypeId}{x i:Operand}{sz k l of m zz:Nat}{y yi:ak}
  (ho:o.op=.indexAddr t x i) (hc:ah nt x=some y) (hi:ah nt i=some yi) (hu:P.underlying t=some (.slice e)) (hs:da P e=some sz)
  (hk:asNat (yi.eval G s.T)=some k) (hy:y.addr G s.T=.sref l of m zz) (hkm:k<m) :
  ∃ v,(execOp a.eval o).run P w=.ok (.value v) w/\ld gh s.H.length nt w s.T s.gen (dO a) v (.ref l (of+k*sz)):=by
 obtain⟨a7,cap,_,_,hA⟩:=VR.iz (mh hW hF hc hy rfl)
 obtain⟨kd,Jf⟩:=jk hW hF hi hk
 refine⟨.pointer (some ⟨gh.ρ l,of+k*sz,none⟩),?_,.cD (.ref l (of+k*sz) a7)⟩
 simp[execOp,ho,hA,Jf,Instr.indexAt,asIntOf,run_underlying hu,cZ hs,hkm,addr_add]
theorem Lc(hW:aG G base s.H gh w)(hF:FR L nt gh w a s){o:Oper}{t e:TypeId}{x i:Operand}{sz k b g:Nat}{y yi:ak}{el:List (List AV)}{r:List AV}
  (ho:o.op=.indexAddr t x i) (hc:ah nt x=some y) (hi:ah nt i=some yi) (hu:P.underlying t=some (.slice e)) (hs:da P e=some sz)
  (hk:asNat (yi.eval G s.T)=some k) (hy:y.addr G s.T=.lsr b g) (hT:s.T b=.lsl g el) (hr:el[k]?=some r) (Ji:r.length=sz) :
  ∃ v,(execOp a.eval o).run P w=.ok (.value v) w/\ld gh s.H.length nt w s.T s.gen (dO a) v (.eref b g k sz 0):=by
 have hv:=arg_val hW hF hc
 rw[hy] at hv
 obtain⟨hb,hg,hrr⟩:=(hv:_/\_/\_)
 obtain⟨kd,Jf⟩:=jk hW hF hi hk
 have nX:=hrr (by rw[hT];rfl)
 have yq:k<el.length:=(aiI.1 hr).1
 obtain⟨ad,cap,n6,br⟩:=l8 hF hb hT
 rcases br with ⟨rfl,_⟩|⟨c,C,ty,ia,_,rfl,hκ,hS,xz,hC,hl,hrw,fq⟩
 ·simp at hr
 ·have h1:k<el.length:=yq
  refine⟨.pointer (some ⟨c,k*sz,none⟩),?_,hb,hg,fun _ b' c1 c2 h2=>?_⟩
  ·simp[execOp,ho,nX,n6,Jf,Instr.indexAt,asIntOf,run_underlying hu,cZ hs,h1,addr_add]
  ·rw[n6] at h2
   injection h2 with h2 _ _
   injection h2 with h2
   injection h2 with h2
   subst h2;simp
theorem Qs(hW:aG G base s.H gh w)(hF:FR L nt gh w a s){o:Oper}{c x y:Operand}{ic ix iy:ak}{t:Bool}
  (ho:o.op=.pick c x y) (hc:ah nt c=some ic) (hx:ah nt x=some ix) (hy:ah nt y=some iy) (ht:ic.eval G s.T=.bool t) :
  ∃ v,(execOp a.eval o).run P w=.ok (.value v) w/\ld gh s.H.length nt w s.T s.gen (dO a) v (cond t (ix.addr G s.T).drop (iy.addr G s.T).drop):=by
 have hb:=(bS hW hF hc ht rfl).iw
 have h1:=arg_val hW hF hx
 have h2:=arg_val hW hF hy
 cases t
 ·exact⟨_,by simp[execOp,ho,hb,asBool],h2⟩
 ·exact⟨_,by simp[execOp,ho,hb,asBool],h1⟩
theorem aab(hW:aG G base s.H gh w)(hF:FR L nt gh w a s){o:Oper}{op:UnOp}{t:TypeId}{x:Operand}{ix:ak}{z:AV}
  (ho:o.op=.unOp op t x) (hc:ah nt x=some ix) (he:AY op (ix.eval G s.T)=some z) :
  ∃ v,(execOp a.eval o).run P w=.ok (.value v) w/\ld gh s.H.length nt w s.T s.gen (dO a) v z:=by
 generalize hz:ix.eval G s.T=X at he
 unfold AY at he
 split at he<;>first|(injection he with he;subst he)|cases he
 ·have hv:=(bS hW hF hc hz rfl).gU
  exact⟨_,by simp[execOp,ho,hv,Op.unary,Op.intArith],.cD (.plain _ _ (.int _ _))⟩
 ·have hv:=(bS hW hF hc hz rfl).iw
  exact⟨_,by simp[execOp,ho,hv,Op.unary],.cD (.plain _ _ (.bool _))⟩
theorem Lh(hW:aG G base s.H gh w)(hF:FR L nt gh w a s){o:Oper}{st dt:TypeId}{x:Operand}{ix:ak}{k k' : IntKind}{z:AV}
  (ho:o.op=.convert st dt x) (hc:ah nt x=some ix) (hs:P.underlying st=some (.int k')) (hd:P.underlying dt=some (.int k)) (he:jH (.toInt k) (ix.eval G s.T)=some z) :
  ∃ v,(execOp a.eval o).run P w=.ok (.value v) w/\ld gh s.H.length nt w s.T s.gen (dO a) v z:=by
 generalize hz:ix.eval G s.T=X at he
 cases X<;>simp[jH] at he
 subst he
 have hv:=(bS hW hF hc hz rfl).gU
 exact⟨_,by simp[execOp,ho,hv,convert,run_underlying hs,run_underlying hd,Conv.intToInt],.cD (.plain _ _ (.int _ _))⟩
theorem FK(hW:aG G base s.H gh w)(hF:FR L nt gh w a s){o:Oper}{st dt:TypeId}{x:Operand}{ix:ak}{z:AV}
  (ho:o.op=.convert st dt x) (hc:ah nt x=some ix) (hs:P.underlying st=some .string) (hd:P.underlying dt=some .string) (he:jH .AT (ix.eval G s.T)=some z) :
  ∃ v,(execOp a.eval o).run P w=.ok (.value v) w/\ld gh s.H.length nt w s.T s.gen (dO a) v z:=by
 generalize hz:ix.eval G s.T=X at he
 cases X<;>simp[jH] at he
 subst he
 obtain⟨b,hv,hl⟩:=(bS hW hF hc hz rfl).gW
 exact⟨_,by simp[execOp,ho,hv,convert,run_underlying hs,run_underlying hd],.cD (.plain _ _ (.str _ _ hl))⟩
theorem foldl_push(ns:List Int):∀ s:ByteArray,(ns.foldl (fun r n=>r.push (UInt8.ofNat n.toNat)) s).data.toList=s.data.toList++ns.map fun n=>UInt8.ofNat n.toNat:=by
 induction ns with
 | nil=>intro s;simp
 | cons n ns ih=>intro s;rw[ak9,ih];simp[ByteArray.push]
theorem tC:∀ {e:List (List AV)} {l:List UInt8},bytesOf e=some l->∃ ns:List Int,e=ns.map (fun n=>[AV.int .u8 n])/\l=ns.map fun n=>UInt8.ofNat n.toNat
 | [],l,h=>by simp[bytesOf] at h;exact⟨[],rfl,by simp[h]⟩
 | r :: e,l,h=>by
  unfold bytesOf at h
  split at h
  ·rename_i hh;cases hh
  ·rename_i n r' heq
   injection heq with h1 h2
   subst h1 h2
   simp only[aiE] at h
   obtain⟨l',Aa,rfl⟩:=h
   obtain⟨ns,rfl,rfl⟩:=tC Aa
   exact⟨n :: ns,rfl,rfl⟩
  ·cases h
theorem JV{n0:Nat}{V:Value}{ns:List Int}(hv:PR gh.S w V (.slice (ns.map fun n=>[AV.int .u8 n]) false)) :
  ∃ q:ByteArray,(Conv.bytesToString V).run P w=.ok (.string q) w/\q.data.toList=ns.map (fun n=>UInt8.ofNat n.toNat)/\∃ b c d,V=.slice b c d:=by
 generalize hE:(ns.map fun n=>[AV.int .u8 n])=E at hv
 cases hv with
 | cB =>
  have:ns=[]:=by simpa using hE
  subst this
  exact⟨ByteArray.empty,by simp[Conv.bytesToString],rfl,_,_,_,rfl⟩
 | slice b of n cap ia _ f hn iu br bH bU =>
  subst hE
  have hlen:n=ns.length:=by rw[<- hn];simp
  have aaR:(loadCells ⟨b,of,none⟩ n).run P w=.ok (ns.map (Value.int .u8)).toArray w:=by
   have:=run_loadCells_list (P:=P) w ⟨b,of,none⟩ (ns.map (Value.int .u8)) (fun j v hj=>by
    simp only[aiW,aiE] at hj
    obtain⟨m,hm,rfl⟩:=hj
    have hr:(ns.map fun n=>[AV.int .u8 n])[j]?=some [AV.int .u8 m]:=by simp[hm]
    have Ac:ia=1:=by rw[<- br j _ hr];rfl
    subst Ac
    obtain⟨_,h1,_⟩:=bH j 0 _ _ hr rfl
    have h2:=bU j 0 _ _ hr rfl
    have h3:f j 0=.int .u8 m:=by generalize f j 0=F at h2;cases h2;rfl
    rw[addr_add,<- h3,<- h1];simp)
   rw[ai9,<- hlen] at this
   exact this
  refine⟨_,run_bytesToString w _ n cap ns aaR,?_,_,_,_,rfl⟩
  rw[foldl_push];simp[ByteArray.empty,ByteArray.emptyWithCapacity];rfl
theorem B1(hW:aG G base s.H gh w)(hF:FR L nt gh w a s){o:Oper}{st dt e:TypeId}{x:Operand}{ix:ak}{z:AV}
  (ho:o.op=.convert st dt x) (hc:ah nt x=some ix) (hs:P.underlying st=some (.slice e)) (hE:P.underlying e=some (.int .u8)) (hd:P.underlying dt=some .string) (he:jH .oy (ix.eval G s.T)=some z) :
  ∃ v,(execOp a.eval o).run P w=.ok (.value v) w/\ld gh s.H.length nt w s.T s.gen (dO a) v z:=by
 generalize hz:ix.eval G s.T=X at he
 cases X<;>simp only[jH,reduceCtorEq,aiE] at he
 obtain⟨l,hl,rfl⟩:=he
 obtain⟨ns,rfl,rfl⟩:=tC hl
 have hv:=VR.ga (bS hW hF hc hz rfl)
 obtain⟨q,h1,h2,b,c,d,hV⟩:=JV (P:=P) (n0:=0) hv
 refine⟨.string q,?_,.cD (.plain _ _ (.str _ _ h2))⟩
 have h3:(convert st dt (a.eval x)).run P w=.ok (.string q) w:=by rw[hV] at h1 ⊢;rw[run_convert_bytes_string w st dt e b c d hs hE hd,h1]
 simp[execOp,ho,h3]
end
end
section
section
variable {P:Program}{G:Nat->List AV}{base nt:Nat}{L:List Nat}{gh:Gh}{w:World}{a:Act}{s:AS}
theorem OE{n:Nat}{agg:Bool}{sz off:Nat}{xs:List AV}{z:AV}(hl:an false agg sz off xs=some z){t:TypeId}(hg:ki P t=some agg)(hs:da P t=some sz)
  {cs:Array Value} (fC:cs.size=xs.length) (fh:∀ (j:Nat) (v:Value),cs[j]?=some v->v.oneCell'=true)
  (h:∀ (j:Nat) (v:Value) (x:AV),cs[j]?=some v->xs[j]?=some x->VR gh n w v x) :
  ∃ v,(part t cs off).run P w=.ok v w/\VR gh n w v z:=by
 unfold an at hl
 cases agg
 ·simp only[aiQ,aiE] at hl
  obtain⟨x,hx,rfl⟩:=hl
  have hj:off<cs.size:=by rw[fC];exact (aiI.1 hx).1
  have hv:cs[off]?=some cs[off]:=aiS hj
  exact⟨cs[off],by simp[part,fT hg,hv],VR.dropped (h off _ x hv hx)⟩
 ·simp only[cond_true] at hl
  obtain⟨h0,h1⟩:=ab hl
  have Ka:off+sz<=xs.length:=by simpa [ajg] using h0
  injection h1 with h1
  subst h1
  refine⟨.agg (cs.extract off (off+sz)),by simp[part,fT hg,cZ hs],.agg _ _ (by simp;omega) ?_ ?_⟩
  ·intro j v hj
   rw[ak4] at hj
   split at hj
   ·exact fh _ v hj
   ·cases hj
  ·intro j v x hj hx
   rw[ak4] at hj
   split at hj
   ·rename_i a7
    simp only[aiW,aiE] at hx
    obtain⟨y,hy,rfl⟩:=hx
    rw[ai0,aje] at hy
    split at hy
    ·exact VR.dropped (h _ v y hj hy)
    ·cases hy
   ·cases hj
theorem La(hW:aG G base s.H gh w)(hF:FR L nt gh w a s){o:Oper}{t e:TypeId}{x i:Operand}{n sz k:Nat}{ix ii:ak}{agg:Bool}{xs:List AV}{z:AV}
  (ho:o.op=.index t x i) (hc:ah nt x=some ix) (hi:ah nt i=some ii) (hu:P.underlying t=some (.array n e)) (hs:da P e=some sz) (hg:ki P e=some agg)
  (hk:asNat (ii.eval G s.T)=some k) (hkn:k<n) (hz:ix.eval G s.T=.agg xs) (he:an false agg sz (k*sz) xs=some z) :
  ∃ v,(execOp a.eval o).run P w=.ok (.value v) w/\ld gh s.H.length nt w s.T s.gen (dO a) v z:=by
 obtain⟨cs,hA,fC,fh,h⟩:=(bS hW hF hc hz rfl).ja
 obtain⟨kd,Jf⟩:=jk hW hF hi hk
 obtain⟨v,h1,h2⟩:=OE he hg hs fC fh h
 exact⟨v,by simp[execOp,ho,hA,Jf,Instr.index,asIntOf,run_underlying hu,cZ hs,hkn,h1],.cD h2⟩
theorem B2(hW:aG G base s.H gh w)(hF:FR L nt gh w a s){o:Oper}{t:TypeId}{x i:Operand}{k:Nat}{ix ii:ak}{l:List UInt8}{b:UInt8}
  (ho:o.op=.index t x i) (hc:ah nt x=some ix) (hi:ah nt i=some ii) (hu:P.underlying t=some .string)
  (hk:asNat (ii.eval G s.T)=some k) (hz:ix.eval G s.T=.str l) (hb:l[k]?=some b) :
  ∃ v,(execOp a.eval o).run P w=.ok (.value v) w/\ld gh s.H.length nt w s.T s.gen (dO a) v (.int .u8 b.toNat):=by
 obtain⟨q,hA,hl⟩:=(bS hW hF hc hz rfl).gW
 obtain⟨kd,Jf⟩:=jk hW hF hi hk
 have hq:q[k]?=some b:=by
  obtain⟨⟨d⟩⟩:=q
  simp at hl;subst hl
  have yq:=(aiI.1 hb).1
  have kC:k<(ByteArray.mk ⟨d⟩).size:=yq
  rw[ByteArray.getElem?_lt' _ _ kC]
  rw[aiJ yq] at hb
  exact hb
 exact⟨_,by simp[execOp,ho,hA,Jf,Instr.index,asIntOf,run_underlying hu,hq],.cD (.plain _ _ (.int _ _))⟩
theorem VR.vk{n:Nat}{v:Value}{x:AV}(h:VR gh n w v x):VR gh n w v x.bf:=by
 cases x<;>try exact VR.dropped h
 obtain⟨cs,rfl,hs,fh,h⟩:=h.ja
 refine .agg _ _ (by simp[hs]) fh fun j v x hj hx=>?_
 simp only[aiW,aiE] at hx
 obtain⟨y,hy,rfl⟩:=hx
 exact VR.dropped (h j v y hj hy)
theorem FH(hW:aG G base s.H gh w)(hF:FR L nt gh w a s){o:Oper}{x:Operand}{i:Nat}{ix:ak}{vs:List AV}{z:AV}
  (ho:o.op=.extract x i) (hc:ah nt x=some ix) (hz:ix.eval G s.T=.tuple vs) (hi:vs[i]?=some z) :
  ∃ v,(execOp a.eval o).run P w=.ok (.value v) w/\ld gh s.H.length nt w s.T s.gen (dO a) v z.bf:=by
 obtain⟨us,hA,fC,h⟩:=(bS hW hF hc hz rfl).pq
 have hj:i<us.size:=by rw[fC];exact (aiI.1 hi).1
 have hv:us[i]?=some us[i]:=aiS hj
 exact⟨us[i],by simp[execOp,ho,hA,Instr.extract,hv],.cD (VR.vk (h i _ z hv hi))⟩
theorem Qn{t:TypeId}{k:j5}{V:Value}{X z:AV}{n:Nat}(hv:VR gh n w V X.drop)(ht:match k with|.str=>P.underlying t=some .string|.sl=>∃ e,P.underlying t=some (.slice e)|.arr m=>∃ e,P.underlying t=some (.array m e))
  (he:jL k X=some z) (ty:TypeId):∃ v,(Builtin.len_ #[t] ty #[V]).run P w=.ok v w/\VR gh n w v z:=by
 cases k<;>cases X<;>simp only[jL,aiG,reduceCtorEq] at he<;>subst he
 case str.str l =>
  obtain⟨q,rfl,rfl⟩:=hv.gW
  refine⟨.int .i64 q.size,by simp[Builtin.len_,run_underlying ht,goInt],?_⟩
  exact .plain _ _ (by rw[show (q.data.toList.length:Int)=(q.size:Int) by simp];exact .int _ _)
 case sl.slice el own =>
  obtain⟨e,ht⟩:=ht
  have hp:=hv.ga
  cases hp with
  | cB=>exact⟨.int .i64 0,by simp[Builtin.len_,run_underlying ht,goInt],.plain _ _ (.int _ _)⟩
  | slice b of m cap sz _ f hn iu br bH bU=>exact⟨.int .i64 el.length,by simp[Builtin.len_,run_underlying ht,goInt,hn],.plain _ _ (.int _ _)⟩
 case sl.sref loc off m zz =>
  obtain⟨e,ht⟩:=ht
  obtain⟨_,cap,_,_,rfl⟩:=hv.iz
  exact⟨.int .i64 m,by simp[Builtin.len_,run_underlying ht,goInt],.plain _ _ (.int _ _)⟩
 case sl.ay =>
  obtain⟨e,ht⟩:=ht
  have hp:=hv.jX
  subst hp
  exact⟨.int .i64 0,by simp[Builtin.len_,run_underlying ht,goInt],.plain _ _ (.int _ _)⟩
 all_goals
  obtain⟨e,ht⟩:=ht
  exact⟨.int .i64 _,by simp[Builtin.len_,run_underlying ht,goInt],.plain _ _ (.int _ _)⟩
theorem jG:∀ {xs:List Operand} {ys:List ak},ij nt xs=some ys->xs.length=ys.length/\∀ (j:Nat) (x:Operand) (y:ak),xs[j]?=some x->ys[j]?=some y->ah nt x=some y
 | [],ys,h=>by simp[ij] at h;subst h;exact⟨rfl,fun j x y h=>by simp at h⟩
 | x :: r,ys,h=>by
  simp only[ij,aiF,aiE] at h
  obtain⟨y,hy,zs,hz,rfl⟩:=h
  obtain⟨h1,h2⟩:=jG hz
  refine⟨by simp[h1],fun j u v hu hv=>?_⟩
  cases j with
  | zero=>simp at hu hv;subst hu hv;exact hy
  | succ j=>exact h2 j u v (by simpa using hu) (by simpa using hv)
theorem zk(hW:aG G base s.H gh w)(hF:FR L nt gh w a s){xs:List Operand}{ys:List ak}(hc:ij nt xs=some ys)(hf:(ys.map fun y=>y.addr G s.T).all ar=true) :
  ∀ (j:Nat) (v:Value) (x:AV),(xs.map a.eval)[j]?=some v->(ys.map fun y=>(y.addr G s.T).drop)[j]?=some x->VR gh s.H.length w v x:=by
 obtain⟨hl,h⟩:=jG hc
 intro j v x hj hx
 simp only[aiW,aiE] at hj hx
 obtain⟨o,ho,rfl⟩:=hj
 obtain⟨y,hy,rfl⟩:=hx
 have hfy:ar (y.addr G s.T)=true:=aiO.1 hf _ (ai5.2 ⟨y,aiT hy,rfl⟩)
 exact mh hW hF (h j o y ho hy) rfl hfy
theorem IV(hW:aG G base s.H gh w)(hF:FR L nt gh w a s){o:Oper}{f:Fn}{fs cs:Array Operand}{ifs ics:List ak}
  (ho:o.op=.makeFunc f fs cs) (h1:ij nt fs.toList=some ifs) (h2:ij nt cs.toList=some ics)
  (hf1:(ifs.map fun y=>y.addr G s.T).all ar=true) (hf2:(ics.map fun y=>y.addr G s.T).all ar=true) :
  ∃ v,(execOp a.eval o).run P w=.ok (.value v) w/\ld gh s.H.length nt w s.T s.gen (dO a) v (.func f (ifs.map fun y=>(y.addr G s.T).drop) (ics.map fun y=>(y.addr G s.T).drop)):=by
 refine⟨.func f (fs.map a.eval) (cs.map a.eval),by simp[execOp,ho,Instr.makeFunc],.cD (.func _ _ _ _ _ ?_ ?_ ?_ ?_)⟩
 ·simpa using (jG h1).1
 ·simpa using (jG h2).1
 ·intro j v x hj hx
  exact zk hW hF h1 hf1 j v x (by simpa using hj) hx
 ·intro j v x hj hx
  exact zk hW hF h2 hf2 j v x (by simpa using hj) hx
end
end
section
section
variable {P:Program}{G:Nat->List AV}{base nt:Nat}{L:List Nat}{gh:Gh}{w:World}{a:Act}{s:AS}
theorem iI(hW:aG G base s.H gh w)(hF:FR L nt gh w a s){x:Option Operand}{ix:Option ak}(hc:fu nt x=some ix){d iU n:Nat}(hb:bound d (ix.map (·.eval G s.T)) iU=some n) :
  (x.map a.eval=none/\ix=none/\n=d)\/(ix.isSome=true/\n<=iU/\∃ k,x.map a.eval=some (.int k (n:Int))):=by
 cases x with
 | none=>simp[fu] at hc;subst hc;simp[bound] at hb;exact .inl ⟨rfl,rfl,hb.symm⟩
 | some x =>
  simp only[fu,aiE] at hc
  obtain⟨y,hy,rfl⟩:=hc
  simp only[bound,aiV,aiF] at hb
  obtain⟨m,hm,hb⟩:=hb
  obtain⟨h1,h2⟩:=ab hb
  injection h2 with h2
  subst h2
  obtain⟨k,hk⟩:=jk hW hF hy hm
  exact .inr ⟨rfl,by simpa [ajg] using h1,k,by simp[hk]⟩
theorem nM{isSlice:Bool}{len cap l h m:Nat}{lo hi mx:Option Value}
  (hm:(mx=none/\m=cap)\/(m<=cap/\∃ k,mx=some (.int k (m:Int)))) (hh:(hi=none/\h=len/\mx=none)\/(h<=m/\∃ k,hi=some (.int k (h:Int))))
  (hl:(lo=none/\l=0)\/(l<=h/\∃ k,lo=some (.int k (l:Int)))) :
  (Instr.sliceBounds isSlice len cap lo hi mx).run P w=.ok (l,h,m) w:=by
 have sb:∀ (k:IntKind) (n y:Nat) (code:BoundsCode),n<=y->(Instr.sliceBound (.int k (n:Int)) y code).run P w=.ok n w:=by
  intro k n y code hn
  rw[run_sliceBound w k n y code (by omega) (by omega)];simp
 rcases hm with ⟨rfl,rfl⟩|⟨hm,km,rfl⟩<;>rcases hh with ⟨rfl,rfl,hx⟩|⟨hh,kh,rfl⟩<;>rcases hl with ⟨rfl,rfl⟩|⟨hl,kl,rfl⟩ <;>
  first|(cases hx;done)|simp[Instr.sliceBounds,sb, *]
theorem zW(hW:aG G base s.H gh w)(hF:FR L nt gh w a s){o:Oper}{t:TypeId}{x:Operand}{lo hi mx:Option Operand}{ix:ak}{Jo DQ yB:Option ak}{z:AV}
  (ho:o.op=.slice t x lo hi mx) (hc:ah nt x=some ix) (h1:fu nt lo=some Jo) (h2:fu nt hi=some DQ) (h3:fu nt mx=some yB) (hu:P.underlying t=some .string)
  (he:gB .str (ix.eval G s.T) (Jo.map (·.eval G s.T)) (DQ.map (·.eval G s.T)) (yB.map (·.eval G s.T))=some z) :
  ∃ v,(execOp a.eval o).run P w=.ok (.value v) w/\ld gh s.H.length nt w s.T s.gen (dO a) v z:=by
 generalize hz:ix.eval G s.T=X at he
 cases X<;>simp only[gB,reduceCtorEq,aiF] at he
 rename_i l
 obtain⟨h,hh,l0,hl,he⟩:=he
 obtain⟨hn,he⟩:=ab he
 injection he with he
 subst he
 obtain⟨q,hA,hq⟩:=(bS hW hF hc hz rfl).gW
 have fC:q.size=l.length:=by rw[<- hq];simp
 have hmn:mx.map a.eval=none/\yB=none:=by
  cases mx with
  | none=>simp[fu] at h3;subst h3;exact⟨rfl,rfl⟩
  | some m=>simp only[fu,aiE] at h3;obtain⟨_,_,rfl⟩:=h3;simp at hn
 have bh:=iI hW hF h2 hh
 have bl:=iI hW hF h1 hl
 have hb:(Instr.sliceBounds false q.size q.size (lo.map a.eval) (hi.map a.eval) none).run P w=.ok (l0,h,q.size) w:=by
  refine nM (.inl ⟨rfl,rfl⟩) ?_ ?_
  ·rcases bh with ⟨e1,_,e2⟩|⟨_,e1,k,e2⟩
   ·exact .inl ⟨e1,by omega,rfl⟩
   ·exact .inr ⟨by omega,k,e2⟩
  ·rcases bl with ⟨e1,_,e2⟩|⟨_,e1,k,e2⟩
   ·exact .inl ⟨e1,e2⟩
   ·exact .inr ⟨e1,k,e2⟩
 refine⟨.string (q.extract l0 h),?_,.cD (.plain _ _ (.str _ _ ?_))⟩
 ·have hA':=hA
  have tP:(Instr.slice t (.string q) (lo.map a.eval) (hi.map a.eval) none).run P w=.ok (.string (q.extract l0 h)) w:=by
   simp[Instr.slice,run_underlying hu,hb]
  simp only[execOp,ho,hA',hmn.1,Sem.run_bind,run_sliceAt_string w t (.string q) _ _ _ hu,tP,Result.andThen_ok,Sem.run_pure]
 ·rw[<- hq]
  rw[ByteArray.data_extract,Array.toList_extract,List.extract_eq_take_drop,List.drop_take]
theorem vG{sz ia:Nat}{e:List (List AV)}(h:fR sz e=true)(hr:∀ (i:Nat) (r:List AV),e[i]?=some r->r.length=ia)(cU:e≠[]):ia=sz:=by
 cases e with
 | nil=>exact absurd rfl cU
 | cons r e =>
  simp[fR,dU] at h
  rw[<- hr 0 r rfl,h]
theorem PR.part{S:Nat->Nat->Prop}{b o n cap:Nat}{e:List (List AV)}(hv:PR S w (.slice (some ⟨b,o,none⟩) n cap) (.slice e false)){sz:Nat}(fC:e≠[]->∀ (i:Nat) (r:List AV),e[i]?=some r->r.length=sz)
  {l h c:Nat} (hl:l<=h) (hh:h<=n) (hc:h-l<=c):PR S w (.slice (some ⟨b,o+l*sz,none⟩) (h-l) c) (.slice ((e.take h).drop l) false):=by
 cases hv with
 | slice _ _ _ _ ia _ f hn iu br bH bU =>
  have idx:∀ (i:Nat) (r:List AV),((e.take h).drop l)[i]?=some r->e[l+i]?=some r:=by
   intro i r hi
   rw[aje,ai0] at hi
   split at hi
   ·exact hi
   ·cases hi
  have hz:∀ (i:Nat) (r:List AV),e[i]?=some r->ia=sz:=by
   intro i r hi
   have cU:e≠[]:=by rintro rfl;simp at hi
   rw[<- br i r hi,fC cU i r hi]
  refine .slice b (o+l*sz) (h-l) c sz _ (fun i j=>f (l+i) j) (by simp;omega) hc ?_ ?_ ?_
  ·intro i r hi
   rw[br _ r (idx i r hi),hz _ r (idx i r hi)]
  ·intro i j r x hi hj
   have h1:=bH (l+i) j r x (idx i r hi) hj
   rw[hz _ r (idx i r hi)] at h1
   rw[show o+l*sz+i*sz+j=o+(l+i)*sz+j by rw[ajj];omega]
   exact h1
  ·intro i j r x hi hj
   exact bU (l+i) j r x (idx i r hi) hj
theorem PR.yL{S:Nat->Nat->Prop}{b o c:Nat}{e:List (List AV)}{l h:Nat}(hl:h<=l):PR S w (.slice (some ⟨b,o,none⟩) 0 c) (.slice ((e.take h).drop l) false):=by
 have:(e.take h).drop l=[]:=by simp;omega
 rw[this]
 exact .slice b o 0 c 0 [] (fun _ _=>undef) rfl (ajy _) (fun i r h=>by simp at h) (fun i j r x h=>by simp at h) (fun i j r x h=>by simp at h)
theorem xu(hW:aG G base s.H gh w)(hF:FR L nt gh w a s){o:Oper}{t e0:TypeId}{x:Operand}{lo hi mx:Option Operand}{ix:ak}{Jo DQ yB:Option ak}{sz:Nat}{z:AV}
  (ho:o.op=.slice t x lo hi mx) (hc:ah nt x=some ix) (h1:fu nt lo=some Jo) (h2:fu nt hi=some DQ) (h3:fu nt mx=some yB) (hu:P.underlying t=some (.slice e0)) (hs:da P e0=some sz)
  {ll o0 n zz:Nat} (hz:ix.eval G s.T=.sref ll o0 n zz) (he:∃ h,bound n (DQ.map (·.eval G s.T)) n=some h/\∃ l0,bound 0 (Jo.map (·.eval G s.T)) h=some l0 /\
   cond ((yB.map (·.eval G s.T)).isNone&&Nat.beq zz sz) (some (cond (Nat.blt l0 n) (.sref ll (o0+l0*zz) (h-l0) zz) (.slice [] false))) none=some z) :
  ∃ v,(execOp a.eval o).run P w=.ok (.value v) w/\ld gh s.H.length nt w s.T s.gen (dO a) v z:=by
 obtain⟨h,hh,l0,hl,he⟩:=he
 obtain⟨hn,nY⟩:=ab he
 clear he
 simp only[aiL,akZ,Option.map_eq_none_iff,dU,ai2] at hn
 obtain⟨rfl,rfl⟩:=hn
 have hmx:mx.map a.eval=none:=by
  cases mx with
  | none=>rfl
  | some m=>simp only[fu,aiE,reduceCtorEq,ak7,ala] at h3
 obtain⟨a7,cap,hk,adA,hA⟩:=(bS hW hF hc hz rfl).iz
 have bh:=iI hW hF h2 hh
 have bl:=iI hW hF h1 hl
 have hhn:h<=n:=by rcases bh with ⟨_,_,e⟩|⟨_,e,_⟩<;>omega
 have U0:l0<=h:=by rcases bl with ⟨_,_,e⟩|⟨_,e,_⟩<;>omega
 have hb:(Instr.sliceBounds true n cap (lo.map a.eval) (hi.map a.eval) (mx.map a.eval)).run P w=.ok (l0,h,cap) w:=by
  refine nM (.inl ⟨hmx,rfl⟩) ?_ ?_
  ·rcases bh with ⟨e1,e2,e3⟩|⟨_,e1,k,e2⟩
   ·exact .inl ⟨e1,by omega,hmx⟩
   ·exact .inr ⟨by omega,k,e2⟩
  ·rcases bl with ⟨e1,_,e2⟩|⟨_,e1,k,e2⟩
   ·exact .inl ⟨e1,e2⟩
   ·exact .inr ⟨e1,k,e2⟩
 have hr:(Instr.sliceAt t (a.eval x) (lo.map a.eval) (hi.map a.eval) (mx.map a.eval)).run P w=.ok (.slice (if cap=l0 then some ⟨gh.ρ ll,o0,none⟩ else (some (⟨gh.ρ ll,o0,none⟩:Addr)).map (·.add (l0*zz))) (h-l0) (cap-l0)) w:=by
  rw[hA]
  simp[Instr.sliceAt,run_underlying hu,Instr.slice,hb,cZ hs]
 refine⟨_,by simp only[execOp,ho,Sem.run_bind,hr,Result.andThen_ok,Sem.run_pure];rfl,?_⟩
 injection nY with nY
 subst nY
 cases hq:Nat.blt l0 n with
 | true =>
  have WV:l0<n:=by simpa [ajb] using hq
  rw[if_neg (by omega),aiV,addr_add]
  refine .cD (.sref ll (o0+l0*zz) (h-l0) (cap-l0) zz a7 (by omega) (fun h0=>?_))
  obtain⟨ty,LC⟩:=adA h0
  refine⟨ty,?_⟩
  have:o0+l0*zz+(cap-l0)*zz=o0+cap*zz:=by
   have h3:(l0+(cap-l0))*zz=l0*zz+(cap-l0)*zz:=ajj _ _ _
   rw[show l0+(cap-l0)=cap by omega] at h3
   omega
  rw[this];exact LC
 | false =>
  have WV:¬ l0<n:=fun h=>by rw[<- ajb] at h;rw[h] at hq;cases hq
  have e0:h-l0=0:=by omega
  rw[e0]
  have hp:∀ (b of c:Nat),PR gh.S w (.slice (some ⟨b,of,none⟩) 0 c) (.slice [] false):=fun b of c=>.slice b of 0 c 0 [] (fun _ _=>undef) rfl (ajy _) (fun i r h=>by simp at h) (fun i j r x h=>by simp at h) (fun i j r x h=>by simp at h)
  split
  ·exact .cD (.plain _ _ (hp _ _ _))
  ·rw[aiV,addr_add];exact .cD (.plain _ _ (hp _ _ _))
theorem B5(hW:aG G base s.H gh w)(hF:FR L nt gh w a s){o:Oper}{t e0:TypeId}{x:Operand}{lo hi mx:Option Operand}{ix:ak}{Jo DQ yB:Option ak}{sz:Nat}{z:AV}
  (ho:o.op=.slice t x lo hi mx) (hc:ah nt x=some ix) (h1:fu nt lo=some Jo) (h2:fu nt hi=some DQ) (h3:fu nt mx=some yB) (hu:P.underlying t=some (.slice e0)) (hs:da P e0=some sz)
  (he:gB (.sl sz) (ix.eval G s.T) (Jo.map (·.eval G s.T)) (DQ.map (·.eval G s.T)) (yB.map (·.eval G s.T))=some z) :
  ∃ v,(execOp a.eval o).run P w=.ok (.value v) w/\ld gh s.H.length nt w s.T s.gen (dO a) v z:=by
 generalize hz:ix.eval G s.T=X at he
 cases X<;>simp only[gB,reduceCtorEq,aiF] at he
 case sref=>exact xu hW hF ho hc h1 h2 h3 hu hs hz he
 rename_i e own
 obtain⟨m,hm,h,hh,l0,hl,he⟩:=he
 obtain⟨hn,he⟩:=ab he
 injection he with he
 subst he
 have hp:=VR.ga (bS hW hF hc hz rfl)
 have bm:=iI hW hF h3 hm
 have bh:=iI hW hF h2 hh
 have bl:=iI hW hF h1 hl
 have hmx:yB=none->mx.map a.eval=none:=by
  rintro rfl
  cases mx with
  | none=>rfl
  | some m=>simp only[fu,aiE,reduceCtorEq,ak7,ala] at h3
 have w5:lo.map a.eval=none->l0=0:=by
  intro w5
  rcases bl with ⟨_,_,e2⟩|⟨_,_,k,e2⟩
  ·exact e2
  ·rw[w5] at e2;cases e2
 simp only[aiL,akh,akZ,Option.map_eq_none_iff] at hn
 obtain⟨U1,hn2⟩:=hn
 have U0:l0<=h:=by rcases bl with ⟨_,_,e⟩|⟨_,e,_⟩<;>omega
 have hhm:h<=m:=by
  rcases bh with ⟨_,e1,e2⟩|⟨_,e,_⟩
  ·subst e1
   rcases U1 with rfl|hx
   ·simp[bound] at hm;omega
   ·simp at hx
  ·exact e
 have ZB:m<=e.length:=by rcases bm with ⟨_,_,e⟩|⟨_,e,_⟩<;>omega
 have key:∀ len cap:Nat,len=e.length->len<=cap->∀ ad,∃ m',(m'=if yB=none then cap else m) /\
   (Instr.slice t (.slice ad len cap) (lo.map a.eval) (hi.map a.eval) (mx.map a.eval)).run P w=.ok (.slice (if m'=l0 then ad else ad.map (·.add (l0*sz))) (h-l0) (m' - l0)) w:=by
  intro len cap hlen iu ad
  refine⟨_,rfl,?_⟩
  have hb:(Instr.sliceBounds true len cap (lo.map a.eval) (hi.map a.eval) (mx.map a.eval)).run P w=.ok (l0,h,if yB=none then cap else m) w:=by
   refine nM ?_ ?_ ?_
   ·rcases bm with ⟨e1,e2,_⟩|⟨e1,e2,k,e3⟩
    ·exact .inl ⟨e1,by rw[if_pos e2]⟩
    ·have cU:yB≠none:=by rintro rfl;cases e1
     rw[if_neg cU]
     exact .inr ⟨by omega,k,e3⟩
   ·rcases bh with ⟨e1,e2,e3⟩|⟨_,e1,k,e2⟩
    ·refine .inl ⟨e1,by omega,?_⟩
     subst e2
     rcases U1 with hx|hx
     ·exact hmx hx
     ·simp at hx
    ·refine .inr ⟨?_,k,e2⟩
     split<;>omega
   ·rcases bl with ⟨e1,_,e2⟩|⟨_,e1,k,e2⟩
    ·exact .inl ⟨e1,e2⟩
    ·exact .inr ⟨e1,k,e2⟩
  simp[Instr.slice,run_underlying hu,hb,cZ hs]
 have fin:∀ {V:Value} {R:Value},a.eval x=V->(Instr.slice t V (lo.map a.eval) (hi.map a.eval) (mx.map a.eval)).run P w=.ok R w->(∃ ad n c,V=.slice ad n c) ->
   (execOp a.eval o).run P w=.ok (.value R) w:=by
  rintro V R hA hR ⟨ad,n,c,rfl⟩
  have:(Instr.sliceAt t (.slice ad n c) (lo.map a.eval) (hi.map a.eval) (mx.map a.eval)).run P w=.ok R w:=by simp[Instr.sliceAt,run_underlying hu,hR]
  simp only[execOp,ho,hA,Sem.run_bind,this,Result.andThen_ok,Sem.run_pure]
 generalize hA:a.eval x=V at hp
 have LW:=hp
 cases hp with
 | cB =>
  have hlen:([]:List (List AV)).length=0:=rfl
  simp only[aiR] at ZB
  have e1:m=0:=by omega
  have e2:h=0:=by omega
  have e3:l0=0:=by omega
  subst e1 e2 e3
  obtain⟨m',DP,hr⟩:=key 0 0 rfl (aiK _) none
  have:m'=0:=by rw[DP];split<;>rfl
  subst this
  refine⟨_,fin hA hr ⟨_,_,_,rfl⟩,.cD ?_⟩
  simp
  generalize yB.isSome=q
  cases q<;>exact .plain _ _ .cB
 | slice b of n cap ia _ f hn' iu br bH bU =>
  obtain⟨m',DP,hr⟩:=key n cap hn'.symm iu (some ⟨b,of,none⟩)
  refine⟨_,fin hA hr ⟨_,_,_,rfl⟩,.cD ?_⟩
  have ag1:h<=m':=by rw[DP];split<;>omega
  have A8:PR gh.S w (.slice (if m'=l0 then some ⟨b,of,none⟩ else (some (⟨b,of,none⟩:Addr)).map (·.add (l0*sz))) (h-l0) (m' - l0)) (.slice ((e.take h).drop l0) false):=by
   by_cases aaT:m'=l0
   ·rw[if_pos aaT]
    have:h-l0=0:=by omega
    rw[this]
    exact PR.yL (by omega)
   ·rw[if_neg aaT,aiV,addr_add]
    by_cases aaK:l0=0
    ·have:=PR.part LW (sz:=ia) (fun _=>br) U0 (c:=m' - l0) (by omega) (by omega)
     rw[aaK,alj] at this ⊢
     exact this
    ·refine PR.part LW (fun cU i r hi=>?_) U0 (by omega) (by omega)
     have ad1:¬ (Jo=none):=by
      rintro rfl
      rcases bl with ⟨_,_,e2⟩|⟨e1,_⟩
      ·exact aaK e2
      ·cases e1
     have:=vG (hn2.resolve_left ad1) br cU
     rw[br i r hi,this]
  generalize hq:((Option.map (fun x=>ak.eval G s.T x) yB).isSome&&m.beq h&&Ps e)=q
  cases q
  ·exact .plain _ _ A8
  ·simp only[aiL,Option.isSome_map,dU,ai2] at hq
   have cU:yB≠none:=by rintro rfl;simp at hq
   have:m'=h:=by rw[DP,if_neg cU];exact hq.1.2
   subst this
   refine .full _ _ _ A8 (fun ad ha _=>?_)
   have hbk:ad.block=b:=by
    split at ha
    ·injection ha with ha;rw[<- ha]
    ·rw[aiV,addr_add] at ha;injection ha with ha;rw[<- ha]
   rw[hbk]
   obtain⟨x,r,e2,rfl⟩:∃ x r e2,e=(x :: r) :: e2:=by
    have hs:=hq.2
    unfold Ps at hs
    split at hs
    ·exact⟨_,_,_,rfl⟩
    ·cases hs
   exact hW.l7 b _ (bH 0 0 _ x rfl rfl).1
theorem nz(sz:Nat):∀ (n:Nat) (l:List AV) (i:Nat),(chunks sz n l)[i]?=if i<n then some ((l.drop (i*sz)).take sz) else none
 | 0,l,i=>by simp[chunks]
 | n+1,l,0=>by simp[chunks]
 | n+1,l,i+1=>by
  simp only[chunks,ajH,nz sz n,aj9,Nat.add_lt_add_iff_right]
  congr 3
  rw[ajj,alo,alh]
theorem u0(sz:Nat):∀ (n:Nat) (l:List AV),(chunks sz n l).length=n
 | 0,l=>rfl
 | n+1,l=>by simp[chunks,u0 sz n]
theorem PR.chunks{S:Nat->Nat->Prop}{b o n sz:Nat}{cs:List AV}(hv:PR S w (.pointer (some ⟨b,o,none⟩)) (.eptr cs))(hl:cs.length=n*sz) :
  PR S w (.slice (some ⟨b,o,none⟩) n n) (.slice (chunks sz n cs) false):=by
 cases hv with
 | eptr _ _ _ f bH bU =>
  have idx:∀ (i j:Nat) (r:List AV) (x:AV),(Abs.chunks sz n cs)[i]?=some r->r[j]?=some x->cs[i*sz+j]?=some x:=by
   intro i j r x hi hj
   rw[nz] at hi
   split at hi
   ·injection hi with hi
    subst hi
    rw[ai0,aje] at hj
    split at hj
    ·exact hj
    ·cases hj
   ·cases hi
  refine .slice b o n n sz _ (fun i j=>f (i*sz+j)) (u0 sz n cs) (aiK _) ?_ ?_ ?_
  ·intro i r hi
   rw[nz] at hi
   split at hi
   ·rename_i a7
    injection hi with hi
    subst hi
    have:(i+1)*sz<=n*sz:=aiZ _ a7
    rw[ajj] at this
    simp;omega
   ·cases hi
  ·intro i j r x hi hj
   rw[akm]
   exact bH _ x (idx i j r x hi hj)
  ·intro i j r x hi hj
   exact bU _ x (idx i j r x hi hj)
theorem zV(hW:aG G base s.H gh w)(hF:FR L nt gh w a s){o:Oper}{t e0:TypeId}{x:Operand}{lo hi mx:Option Operand}{ix:ak}{Jo DQ yB:Option ak}{n sz:Nat}{z:AV}
  (ho:o.op=.slice t x lo hi mx) (hc:ah nt x=some ix) (h1:fu nt lo=some Jo) (h2:fu nt hi=some DQ) (h3:fu nt mx=some yB) (hu:P.underlying t=some (.array n e0)) (hs:da P e0=some sz) (h0:0<sz)
  (he:gB (.arr n sz) (ix.eval G s.T) (Jo.map (·.eval G s.T)) (DQ.map (·.eval G s.T)) (yB.map (·.eval G s.T))=some z) :
  ∃ v,(execOp a.eval o).run P w=.ok (.value v) w/\ld gh s.H.length nt w s.T s.gen (dO a) v z:=by
 generalize hz:ix.eval G s.T=X at he
 cases X<;>simp only[gB,reduceCtorEq] at he
 rename_i cs
 obtain⟨hlen,he⟩:=ab he
 simp only[aiF] at he
 obtain⟨h,hh,l0,hl,he⟩:=he
 obtain⟨hn,he⟩:=ab he
 injection he with he
 subst he
 have yt:cs.length=n*sz:=by simpa [dU] using hlen
 have hp:=VR.rF (bS hW hF hc hz rfl)
 have hmn:mx.map a.eval=none:=by
  cases mx with
  | none=>rfl
  | some m=>simp only[fu,aiE] at h3;obtain⟨_,_,rfl⟩:=h3;simp at hn
 have bh:=iI hW hF h2 hh
 have bl:=iI hW hF h1 hl
 have U0:l0<=h:=by rcases bl with ⟨_,_,e⟩|⟨_,e,_⟩<;>omega
 have hhn:h<=n:=by rcases bh with ⟨_,_,e⟩|⟨_,e,_⟩<;>omega
 have hb:(Instr.sliceBounds false n n (lo.map a.eval) (hi.map a.eval) none).run P w=.ok (l0,h,n) w:=by
  refine nM (.inl ⟨rfl,rfl⟩) ?_ ?_
  ·rcases bh with ⟨e1,_,e2⟩|⟨_,e1,k,e2⟩
   ·exact .inl ⟨e1,by omega,rfl⟩
   ·exact .inr ⟨by omega,k,e2⟩
  ·rcases bl with ⟨e1,_,e2⟩|⟨_,e1,k,e2⟩
   ·exact .inl ⟨e1,e2⟩
   ·exact .inr ⟨e1,k,e2⟩
 generalize hA:a.eval x=V at hp
 have LW:=hp
 cases hp with
 | eptr b of _ f bH bU =>
  refine⟨.slice (some (if n=l0 then ⟨b,of,none⟩ else (⟨b,of,none⟩:Addr).add (l0*sz))) (h-l0) (n-l0),?_,.cD (.plain _ _ ?_)⟩
  ·simp[execOp,ho,hA,hmn,Instr.sliceAt,run_underlying hu,Instr.sureAddr,hb,cZ hs]
  ·have hc:=PR.chunks (sz:=sz) LW yt
   by_cases og:n=l0
   ·have:h-l0=0:=by omega
    rw[this]
    simp only[og,ajY]
    rw[<- og]
    exact PR.yL (by omega)
   ·rw[if_neg og,addr_add]
    refine PR.part hc (fun _ i r hi=>?_) U0 hhn (by omega)
    cases hc with
    | slice _ _ _ _ ia _ f' hn' iu br adC afR =>
     rw[nz] at hi
     split at hi
     ·rename_i a7
      injection hi with hi
      subst hi
      have:(i+1)*sz<=n*sz:=aiZ _ a7
      rw[ajj] at this
      simp;omega
     ·cases hi
end
end
section
section
variable {P:Program}{G:Nat->List AV}{base nt:Nat}{L:List Nat}{gh:Gh}{w:World}{a:Act}{s:AS}
theorem dH{op:BinOp}{t:TypeId}{x y:Operand}{u v:Value}(h1:∀ c,u≠.agg c)(h2:u≠.nilIface\/v≠.nilIface):(eqGuard op t x y u v).run P w=.ok () w:=by
 have key:∀ (op:BinOp),op=.eql\/op=.neq\/(eqGuard op t x y u v)=pure ():=by
  intro op
  cases op<;>first|exact .inl rfl|exact .inr (.inl rfl)|exact .inr (.inr rfl)
 have k2:∀ op,op=BinOp.eql\/op=.neq->(eqGuard op t x y u v).run P w=.ok () w:=by
  rintro op (rfl|rfl)<;>simp only[eqGuard,ajz,ajM,akU] <;>
   (cases u<;>first|rfl|exact absurd rfl (h1 _)|skip)<;>(cases v<;>first|rfl|(simp at h2))
 rcases key op with h|h|h
 ·exact k2 op (.inl h)
 ·exact k2 op (.inr h)
 ·rw[h];rfl
theorem D'{op:BinOp}{k:IntKind}{m n:Int}{z:AV}(h:aa op k m n=some z)(t:TypeId):∃ v,(binOp op t (.int k m) (.int k n)).run P w=.ok v w/\PR gh.S w v z:=by
 unfold aa at h
 cases op<;>simp only[reduceCtorEq,aiG] at h
 case quo =>
  rcases ajE (decide (n=0)) with hb|hb<;>rw[hb] at h<;>simp at h
  subst h
  have hn:¬ n=0:=by simpa using hb
  exact⟨_,by simp[binOp,Op.intDiv,hn],.int _ _⟩
 case rem =>
  rcases ajE (decide (n=0)) with hb|hb<;>rw[hb] at h<;>simp at h
  subst h
  have hn:¬ n=0:=by simpa using hb
  exact⟨_,by simp[binOp,Op.intDiv,hn],.int _ _⟩
 all_goals
  subst h
  first
   | exact⟨_,by simp[binOp,Op.intArith],.int _ _⟩
   | exact⟨_,by simp[binOp,Op.intCmp],.bool _⟩
theorem Fa{op:BinOp}{x y:ByteArray}{z:AV}(h:jE op x.data.toList y.data.toList=some z)(t:TypeId):∃ v,(binOp op t (.string x) (.string y)).run P w=.ok v w/\PR gh.S w v z:=by
 have hx:=ByteArray.toList_eq x
 have hy:=ByteArray.toList_eq y
 unfold jE at h
 cases op<;>simp only[reduceCtorEq,aiG] at h
 case add =>
  obtain⟨h1,h2⟩:=ab h
  injection h2 with h2
  subst h2
  have QH:x.size+y.size<=4611686018427387904:=by simpa using h1
  have h3:¬ (((x.size+y.size:Nat):Int)>IntKind.i64.max):=by
   have:IntKind.i64.max=9223372036854775807:=by decide
   rw[this];omega
  exact⟨.string (x++y),by simp only[binOp,Op.stringOp];rw[if_neg h3];rfl,.str _ _ (by simp)⟩
 all_goals
  subst h
  exact⟨_,by simp[binOp,Op.stringOp,hx,hy],.bool _⟩
theorem pP:∀ (k ks:List CK) (X Y:List AV) (b:Bool),bG (k++ks) X Y=some b ->
  ∃ b1 b2,bG k X Y=some b1/\bG ks (X.drop k.length) (Y.drop k.length)=some b2/\b=(b1&&b2)
 | [],ks,X,Y,b,h=>⟨true,b,rfl,by simpa using h,by simp⟩
 | c :: k,ks,X,Y,b,h=>by
  have step:∀ (e:Bool) (X' Y' : List AV),(bG (k++ks) X' Y').map (e&&·)=some b->∃ b1 b2,(bG k X' Y').map (e&&·)=some b1/\bG ks (X'.drop k.length) (Y'.drop k.length)=some b2/\b=(b1&&b2):=by
   intro e X' Y' h
   simp only[aiE] at h
   obtain⟨b',fF,rfl⟩:=h
   obtain⟨b1,b2,h1,h2,rfl⟩:=pP k ks X' Y' b' fF
   exact⟨e&&b1,b2,by simp[h1],h2,by rw[Bool.and_assoc]⟩
  cases c<;>cases X<;>try (cases h;done)
  all_goals (rename_i x X';cases x<;>try (cases h;done))
  all_goals (cases Y<;>try (cases h;done))
  all_goals (rename_i y Y';cases y<;>try (cases h;done))
  ·exact step _ _ _ h
  ·simp only[aj7,bG] at h
   obtain⟨h0,h⟩:=ab h
   obtain⟨b1,b2,h1,h2,h3⟩:=step _ _ _ h
   exact⟨b1,b2,by simp only[bG];rw[h0];exact h1,h2,h3⟩
  ·exact step _ _ _ h
theorem mi:∀ (k:List CK) (X Y:List AV) (n:Nat),k.length<=n->bG k (X.take n) (Y.take n)=bG k X Y
 | [],X,Y,n,_=>rfl
 | c :: k,[],Y,n,h=>by rw[List.take_nil];cases c<;>rfl
 | c :: k,x :: X,[],n,h=>by
  obtain⟨m,rfl⟩:∃ m,n=m+1:=⟨n-1,by simp at h;omega⟩
  rw[List.take_nil,ajP];cases c<;>cases x<;>rfl
 | c :: k,x :: X,y :: Y,n,h=>by
  obtain⟨m,rfl⟩:∃ m,n=m+1:=⟨n-1,by simp at h;omega⟩
  have ih:=mi k X Y m (by simp at h;omega)
  rw[ajP,ajP]
  cases c<;>cases x<;>first|rfl|(cases y<;>first|rfl|simp only[bG,ih])
def Row(gh:Gh)(n:Nat)(w:World)(cs:Array Value)(X:List AV):Prop :=
 cs.size=X.length/\∀ (j:Nat) (v:Value) (x:AV),cs[j]?=some v->X[j]?=some x->VR gh n w v x
theorem Row.extract{n:Nat}{cs:Array Value}{X:List AV}(h:Row gh n w cs X)(o k:Nat):Row gh n w (cs.extract o (o+k)) ((X.drop o).take k):=by
 refine⟨by have:=h.1;simp;omega,fun j v x hj hx=>?_⟩
 rw[ak4] at hj
 rw[ai0,aje] at hx
 split at hj
 ·split at hx
  ·exact h.2 _ v x hj hx
  ·cases hx
 ·cases hj
theorem kj{t:TypeId}{d:TypeDesc}(h:P.underlying t=some d)(hd:(match d with|.struct _=>true|.array _ _=>true|_=>false)=false):ki P t=some false:=by
 unfold ki;rw[h];simp[hd];cases d<;>simp_all
theorem oE{n:Nat}{c:CK}{t:TypeId}{D o:Nat}{cs ds:Array Value}{X Y:List AV}{b:Bool}(hX:Row gh n w cs X)(hY:Row gh n w ds Y)(hD:1<=D)
  (ht:match c with|.b=>P.underlying t=some .bool|.i=>∃ k,P.underlying t=some (.int k)|.s=>P.underlying t=some .string)
  (h:bG [c] (X.drop o) (Y.drop o)=some b):∃ u v,(part t cs o).run P w=.ok u w/\(part t ds o).run P w=.ok v w/\(Op.equalIn D t u v).run P w=.ok b w:=by
 obtain⟨D,rfl⟩:∃ m,D=m+1:=⟨D-1,by omega⟩
 have hg:ki P t=some false:=by cases c<;>first|exact kj ht rfl|(obtain⟨k,ht⟩:=ht;exact kj ht rfl)
 have get:∀ {cs:Array Value} {X:List AV} {x:AV} {X' : List AV},Row gh n w cs X->X.drop o=x :: X'->∃ u,(part t cs o).run P w=.ok u w/\VR gh n w u x:=by
  intro cs X x X' hR hd
  have hx:X[o]?=some x:=by
   have:(X.drop o)[0]?=some x:=by rw[hd];rfl
   rw[aje] at this;simpa using this
  have a7:o<cs.size:=by rw[hR.1];exact (aiI.1 hx).1
  have hv:cs[o]?=some cs[o]:=aiS a7
  exact⟨cs[o],by simp[part,fT hg,hv],hR.2 o _ x hv hx⟩
 generalize hXd:X.drop o=Xd at h
 generalize hYd:Y.drop o=Yd at h
 cases c<;>cases Xd<;>try (cases h;done)
 all_goals (rename_i x X';cases x<;>try (cases h;done))
 all_goals (cases Yd<;>try (cases h;done))
 all_goals (rename_i y Y';cases y<;>try (cases h;done))
 all_goals
  obtain⟨u,PU,ZE⟩:=get hX hXd
  obtain⟨v,QY,QZ⟩:=get hY hYd
 ·obtain rfl:=ZE.iw
  obtain rfl:=QZ.iw
  simp[bG] at h
  exact⟨_,_,PU,QY,by rw[run_equalIn_bool' w D t _ _ ht,h]⟩
 ·obtain rfl:=ZE.gU
  obtain rfl:=QZ.gU
  obtain⟨k,ht⟩:=ht
  simp only[bG] at h
  obtain⟨h0,h'⟩:=ab h
  simp at h' h0
  exact⟨_,_,PU,QY,by rw[h0,run_equalIn_int w D t _ _ _ _ ht,h']⟩
 ·obtain⟨p,rfl,rfl⟩:=ZE.gW
  obtain⟨q,rfl,rfl⟩:=QZ.gW
  simp[bG] at h
  refine⟨_,_,PU,QY,?_⟩
  rw[run_equalIn_string w D t _ _ ht,ByteArray.toList_eq,ByteArray.toList_eq,<- h]
  simp
def za(P:Program)(gh:Gh)(w:World)(d:Nat):Prop :=
 ∀ (t:TypeId) (k:List CK),kP P d t=some k->∀ (n D o:Nat) (cs ds:Array Value) (X Y:List AV) (b:Bool),Row gh n w cs X->Row gh n w ds Y->d<=D ->
  bG k (X.drop o) (Y.drop o)=some b->∃ u v,(part t cs o).run P w=.ok u w/\(part t ds o).run P w=.ok v w/\(Op.equalIn D t u v).run P w=.ok b w
theorem FN{d:Nat}(hd:za P gh w d){n D:Nat}(hD:d<=D){cs ds:Array Value}{X Y:List AV}(hX:Row gh n w cs X)(hY:Row gh n w ds Y) :
  ∀ (fs:List Go.Field) (q:Nat) (ks:List CK) (b:Bool),ml (kP P d) fs q=some ks->bG ks (X.drop q) (Y.drop q)=some b->(Op.eqFields D cs ds fs).run P w=.ok b w:=by
 intro fs
 induction fs with
 | nil=>intro q ks b h1 h2;simp[ml] at h1;subst h1;simp[bG] at h2;subst h2;rfl
 | cons f fs ih =>
  intro q ks b h1 h2
  unfold ml at h1
  obtain⟨h3,h1⟩:=ab h1
  simp only[aiF,aiE] at h1
  obtain⟨kf,hkf,kr,hkr,rfl⟩:=h1
  simp only[aiL,dU,ai2,bne_iff_ne] at h3
  obtain⟨hof,LU⟩:=h3
  obtain⟨b1,b2,e1,e2,rfl⟩:=pP kf kr _ _ b h2
  rw[aj9,aj9] at e2
  obtain⟨u,v,p1,p2,p3⟩:=hd f.type kf hkf n D q cs ds X Y b1 hX hY hD e1
  have hr:=ih (q+kf.length) kr b2 hkr e2
  unfold Op.eqFields
  rw[if_pos LU,hof]
  simp only[Sem.run_bind,p1,p2,p3,Result.andThen_ok]
  cases b1
  ·simp
  ·simp only[ajz,ajM,akU,hr,ajo]
theorem nO{d:Nat}{t:TypeId}{k:List CK}{fs:Array Go.Field}(h:kP P (d+1) t=some k)(hu:P.underlying t=some (.struct fs)) :
  P.stoodInHeld t=false/\ml (kP P d) fs.toList 0=some k/\∃ sz,da P t=some sz/\sz=k.length:=by
 unfold kP at h
 rw[hu] at h
 obtain⟨h1,h⟩:=ab h
 simp only[aiF] at h
 obtain⟨ks,kC,h⟩:=h
 obtain⟨h2,h⟩:=ab h
 injection h with h
 subst h
 refine⟨by simpa using h1,kC,?_⟩
 cases hq:da P t with
 | none=>rw[hq] at h2;cases h2
 | some m=>rw[hq] at h2;exact⟨m,rfl,by simpa [dU] using h2⟩
theorem qG{d:Nat}(hd:za P gh w d){t:TypeId}{k:List CK}{fs:Array Go.Field}(h:kP P (d+1) t=some k)(hu:P.underlying t=some (.struct fs))
  {n D:Nat} (hD:d<=D) {cs ds:Array Value} {X Y:List AV} {b:Bool} (hX:Row gh n w cs X) (hY:Row gh n w ds Y) (he:bG k X Y=some b) :
  (Op.equalIn (D+1) t (.agg cs) (.agg ds)).run P w=.ok b w:=by
 obtain⟨po,kC,_⟩:=nO h hu
 have hf:P.fieldsOf t=fs:=by unfold Program.fieldsOf;rw[hu]
 rw[run_equalIn_struct w D t _ _ (by rw[hf];exact hu) po,hf]
 exact FN hd hD hX hY fs.toList 0 k b kC (by simpa using he)
theorem sJ:∀ d:Nat,za P gh w d
 | 0=>fun t k h=>by cases h
 | d+1=>by
  intro t k h n D o cs ds X Y b hX hY hD he
  have h0:=h
  unfold kP at h
  cases hu:P.underlying t with
  | none=>rw[hu] at h;cases h
  | some dd =>
   rw[hu] at h
   cases dd<;>try (cases h;done)
   case bool=>injection h with h;subst h;exact oE (c:=.b) hX hY (by omega) hu he
   case int kk=>injection h with h;subst h;exact oE (c:=.i) hX hY (by omega) ⟨kk,hu⟩ he
   case string=>injection h with h;subst h;exact oE (c:=.s) hX hY (by omega) hu he
   case struct fs =>
    obtain⟨_,_,sz,fC,hlen⟩:=nO h0 hu
    have hg:ki P t=some true:=by unfold ki;rw[hu];rfl
    refine⟨.agg (cs.extract o (o+sz)),.agg (ds.extract o (o+sz)),by simp[part,fT hg,cZ fC],by simp[part,fT hg,cZ fC],?_⟩
    obtain⟨D,rfl⟩:∃ m,D=m+1:=⟨D-1,by omega⟩
    rw[<- mi k _ _ sz (by omega)] at he
    exact qG (sJ d) h0 hu (by omega) (hX.extract o sz) (hY.extract o sz) he
theorem GD{op:BinOp}{b:Bool}{z:AV}(h:jY op b=some z):(op=.eql/\z=.bool b)\/(op=.neq/\z=.bool !b):=by
 cases op<;>simp[jY] at h
 ·exact .inl ⟨rfl,h.symm⟩
 ·exact .inr ⟨rfl,h.symm⟩
theorem lp{op:BinOp}{t:TypeId}{u v:Value}{b:Bool}{z:AV}(h:jY op b=some z)(hr:(Op.equal t u v).run P w=.ok b w)
  (h1:∀ q,(binOp .eql t u v)=q->q=(do pure (.bool (<- Op.equal t u v)))) (h2:(binOp .neq t u v)=(do pure (.bool (!(<- Op.equal t u v))))) :
  ∃ r,(binOp op t u v).run P w=.ok r w/\PR gh.S w r z:=by
 rcases GD h with ⟨rfl,rfl⟩|⟨rfl,rfl⟩
 ·exact⟨.bool b,by rw[h1 _ rfl];simp[hr],.bool _⟩
 ·exact⟨.bool !b,by rw[h2];simp[hr],.bool _⟩
theorem VX(hW:aG G base s.H gh w)(hF:FR L nt gh w a s){o:Oper}{op:BinOp}{t u:TypeId}{x y:Operand}{ix iy:ak}{z:AV}
  (ho:o.op=.binOp op t x y u) (hx:ah nt x=some ix) (hy:ah nt y=some iy)
  (he:uT op (lG P t) (n7 ix || n7 iy) (ix.eval G s.T) (iy.eval G s.T)=some z) :
  ∃ v,(execOp a.eval o).run P w=.ok (.value v) w/\ld gh s.H.length nt w s.T s.gen (dO a) v z:=by
 generalize hX:ix.eval G s.T=X at he
 generalize hY:iy.eval G s.T=Y at he
 have fin:∀ {U V:Value},a.eval x=U->a.eval y=V->(eqGuard op t x y U V).run P w=.ok () w->(∃ r,(binOp op t U V).run P w=.ok r w/\PR gh.S w r z) ->
   ∃ v,(execOp a.eval o).run P w=.ok (.value v) w/\ld gh s.H.length nt w s.T s.gen (dO a) v z:=by
  rintro U V hU hV hg ⟨r,hr,hp⟩
  exact⟨r,by simp[execOp,ho,hU,hV,hg,hr],.cD (.plain _ _ hp)⟩
 have VF:(n7 ix || n7 iy)=true->(∃ v,x=.const v)\/(∃ v,y=.const v):=by
  intro h
  rcases Bool.or_eq_true_iff.1 h with h|h
  ·left
   cases x<;>simp only[ah] at hx
   ·have:=(ab hx).2;injection this with this;subst this;cases h
   ·exact⟨_,rfl⟩
   ·injection hx with hx;subst hx;cases h
   ·injection hx with hx;subst hx;cases h
  ·right
   cases y<;>simp only[ah] at hy
   ·have:=(ab hy).2;injection this with this;subst this;cases h
   ·exact⟨_,rfl⟩
   ·injection hy with hy;subst hy;cases h
   ·injection hy with hy;subst hy;cases h
 unfold uT at he
 split at he
 ·
  obtain⟨h0,A5⟩:=ab he
  have hk:=of_decide_eq_true h0
  have h1:=(bS hW hF hx hX rfl).gU
  have h2:=(bS hW hF hy hY rfl).gU
  rw[<- hk] at h2
  exact fin h1 h2 (dH (by intro c;simp) (.inl (by simp))) (D' A5 t)
 ·
  obtain⟨p,h1,hp⟩:=(bS hW hF hx hX rfl).gW
  obtain⟨q,h2,hq⟩:=(bS hW hF hy hY rfl).gW
  subst hp hq
  exact fin h1 h2 (dH (by intro c;simp) (.inl (by simp))) (Fa he t)
 ·
  rename_i p q
  have h1:=(bS hW hF hx hX rfl).iw
  have h2:=(bS hW hF hy hY rfl).iw
  generalize hQ:lG P t=Q at he
  cases Q<;>simp only[reduceCtorEq] at he
  have ht:P.underlying t=some .bool:=by
   unfold lG at hQ
   split at hQ<;>first|assumption|(cases hQ)|skip
   cases hb:(!P.eqGuardType P.depth t)<;>rw[hb] at hQ<;>simp at hQ
   split at hQ<;>cases hQ
  exact fin h1 h2 (dH (by intro c;simp) (.inl (by simp))) (lp he (run_equal_bool w t p q ht) (by rintro _ rfl;rfl) rfl)
 ·
  rename_i xs ys
  obtain⟨cs,h1,Ac,_,hr1⟩:=(bS hW hF hx hX rfl).ja
  obtain⟨ds,h2,QW,_,hr2⟩:=(bS hW hF hy hY rfl).ja
  generalize hQ:lG P t=Q at he
  cases Q<;>simp only[reduceCtorEq,aiF] at he
  rename_i ks
  obtain⟨b,hb,he⟩:=he
  obtain⟨hg,hk⟩:P.eqGuardType P.depth t=false/\kP P 8 t=some ks:=by
   unfold lG at hQ
   split at hQ<;>first|(cases hQ;done)|skip
   cases hb:(P.eqGuardType P.depth t)<;>rw[hb] at hQ<;>simp at hQ
   split at hQ<;>first|(cases hQ;done)|skip
   injection hQ with hQ
   subst hQ
   exact⟨rfl,by assumption⟩
  obtain⟨fs,hu⟩:∃ fs,P.underlying t=some (.struct fs):=by
   unfold lG at hQ
   cases hu:P.underlying t with
   | none=>rw[hu] at hQ;cases hQ
   | some d =>
    rw[hu] at hQ
    cases d<;>simp only[reduceCtorEq] at hQ
    exact⟨_,rfl⟩
  have cm:(Op.equal t (.agg cs) (.agg ds)).run P w=.ok b w :=
   qG (sJ 7) hk hu (D:=9999) (by omega) (n:=s.H.length) ⟨Ac,hr1⟩ ⟨QW,hr2⟩ hb
  exact fin h1 h2 (run_eqGuard_agg w op t x y cs ds hg) (lp he cm (by rintro _ rfl;rfl) rfl)
 ·
  obtain⟨h0,he⟩:=ab he
  obtain⟨adG,hq⟩:=alp.1 h0
  simp only[aiF] at he
  obtain⟨b,hb,he⟩:=he
  have ht:∃ m,P.underlying t=some (.interface m):=by
   generalize hQ:lG P t=Q at hq
   cases Q<;>simp only[reduceCtorEq] at hq
   unfold lG at hQ
   split at hQ<;>first|exact⟨_,by assumption⟩|(cases hQ;done)|skip
   cases hb:(!P.eqGuardType P.depth t)<;>rw[hb] at hQ<;>simp at hQ
   split at hQ<;>cases hQ
  obtain⟨m,ht⟩:=ht
  have h2:=(bS hW hF hy hY rfl).rG
  split at hb
  ·injection hb with hb
   subst hb
   have h1:=(bS hW hF hx hX rfl).rG
   have hr:(Op.equal t .nilIface .nilIface).run P w=.ok true w:=(fun d=>(by simp[Op.equalIn,run_underlying ht]:(Op.equalIn (d+1) t .nilIface .nilIface).run P w=.ok true w)) 9999
   refine fin h1 h2 ?_ (lp he hr (by rintro _ rfl;rfl) rfl)
   rcases VF adG with ⟨v,rfl⟩|⟨v,rfl⟩
   ·cases op<;>simp[eqGuard]
   ·cases op<;>simp[eqGuard]
  ·injection hb with hb
   subst hb
   obtain⟨q,h1⟩:=(bS hW hF hx hX rfl).Jq
   have hr:∀ ti,(Op.equal t (.iface ti q) .nilIface).run P w=.ok false w:=fun ti=>(fun d=>(by simp[Op.equalIn,run_underlying ht]:(Op.equalIn (d+1) t (.iface ti q) .nilIface).run P w=.ok false w)) 9999
   exact fin h1 h2 (dH (by intro c;simp) (.inl (by simp))) (lp he (hr _) (by rintro _ rfl;rfl) rfl)
  ·cases hb
 ·
  obtain⟨h0,he⟩:=ab he
  simp only[aiF] at he
  obtain⟨b,hb,he⟩:=he
  have ht:∃ p q r,P.underlying t=some (.func p q r):=by
   generalize hQ:lG P t=Q at h0
   cases Q<;>simp only[reduceCtorEq] at h0
   unfold lG at hQ
   split at hQ<;>first|exact⟨_,_,_,by assumption⟩|(cases hQ;done)|skip
   cases hb:(!P.eqGuardType P.depth t)<;>rw[hb] at hQ<;>simp at hQ
   split at hQ<;>cases hQ
  obtain⟨p,q,r,ht⟩:=ht
  have h2:=(bS hW hF hy hY rfl).tR
  split at hb
  ·injection hb with hb
   subst hb
   have h1:=(bS hW hF hx hX rfl).tR
   have hr:(Op.equal t .nilFunc .nilFunc).run P w=.ok true w:=(fun d=>(by simp[Op.equalIn,run_underlying ht]:(Op.equalIn (d+1) t .nilFunc .nilFunc).run P w=.ok true w)) 9999
   exact fin h1 h2 (dH (by intro c;simp) (.inl (by simp))) (lp he hr (by rintro _ rfl;rfl) rfl)
  ·injection hb with hb
   subst hb
   obtain⟨fs,cs,h1,_⟩:=(bS hW hF hx hX rfl).oM
   have hr:∀ f,(Op.equal t (.func f fs cs) .nilFunc).run P w=.ok false w:=fun f=>(fun d=>(by simp[Op.equalIn,run_underlying ht]:(Op.equalIn (d+1) t (.func f fs cs) .nilFunc).run P w=.ok false w)) 9999
   exact fin h1 h2 (dH (by intro c;simp) (.inl (by simp))) (lp he (hr _) (by rintro _ rfl;rfl) rfl)
  ·cases hb
 ·cases he
end
end
section
section
variable {P:Program}{G:Nat->List AV}{base nt:Nat}{L:List Nat}{gh:Gh}{w:World}{a:Act}{s:AS}
def nr(gh:Gh)(n:Nat)(w:World)(C:Array Value)(X:List AV):Prop :=
 C.size=X.length/\∀ (j:Nat) (v:Value) (x:AV),C[j]?=some v->X[j]?=some x->VR gh n w v x/\v.oneCell'=true
theorem VR.dB{n:Nat}{v:Value}{x:AV}(h:VR gh n w v x)(hx:∀ cs,x≠.agg cs)(mF:∀ cs,x≠.tuple cs):v.oneCell'=true:=by
 cases h with
 | plain _ _ h=>exact h.dB
 | full=>rfl
 | ref=>rfl
 | sref=>rfl
 | mref=>rfl
 | func=>rfl
 | iface=>rfl
 | agg _ xs=>exact absurd rfl (hx xs)
 | tuple _ xs=>exact absurd rfl (mF xs)
theorem pb{n:Nat}{v:Value}{x:AV}{cs:List AV}(h:VR gh n w v x)(hc:x.cells=some cs):nr gh n w v.cells cs:=by
 have single:x.cells=some [x]->(∀ cs,x≠.agg cs)->(∀ cs,x≠.tuple cs)->nr gh n w v.cells cs:=by
  intro h1 h2 h3
  rw[h1] at hc
  injection hc with hc
  subst hc
  have fh:=h.dB h2 h3
  have:v.cells=#[v]:=by cases v<;>first|rfl|(simp[Value.oneCell'] at fh)
  rw[this]
  refine⟨rfl,fun j u y hu hy=>?_⟩
  cases j with
  | zero=>simp at hu hy;subst hu hy;exact⟨h,fh⟩
  | succ j=>simp at hu
 cases x
 case agg xs =>
  obtain⟨C,rfl,hs,fh,h⟩:=h.ja
  injection hc with hc
  subst hc
  exact⟨hs,fun j v x hv hx=>⟨h j v x hv hx,fh j v hv⟩⟩
 case any=>cases hc
 case tuple=>cases hc
 case lbox=>cases hc
 case lref=>cases hc
 case lsl=>cases hc
 case lsr=>cases hc
 case eref=>cases hc
 case iter=>cases hc
 all_goals exact single rfl (by intro cs h;cases h) (by intro cs h;cases h)
theorem nr.dropped{n:Nat}{C:Array Value}{X:List AV}(h:nr gh n w C X):nr gh n w C (X.map AV.drop):=by
 refine⟨by simp[h.1],fun j v x hv hx=>?_⟩
 simp only[aiW,aiE] at hx
 obtain⟨y,hy,rfl⟩:=hx
 exact⟨VR.dropped (h.2 j v y hv hy).1,(h.2 j v y hv hy).2⟩
theorem my:∀ (l:List Value) (off k:Nat) (C:Array Value) (j:Nat),off+k+l.length<=C.size ->
  ((l.zipIdx k).foldl (fun cs (c,i)=>cs.setIfInBounds (off+i) c) C)[j]?=if off+k<=j/\j<off+k+l.length then l[j-(off+k)]? else C[j]?
 | [],off,k,C,j,h=>by simp;omega
 | v :: l,off,k,C,j,h=>by
  have h' : off+(k+1)+l.length<=(C.setIfInBounds (off+k) v).size:=by simp at h ⊢;omega
  rw[List.zipIdx_cons,ak9,my l off (k+1) _ j h']
  by_cases h1:j=off+k
  ·subst h1
   have a7:off+k<C.size:=by simp at h;omega
   rw[if_neg (by omega),if_pos (by simp)]
   simp[a7]
  ·by_cases h2:off+(k+1)<=j/\j<off+(k+1)+l.length
   ·rw[if_pos h2,if_pos (by simp;omega)]
    have:j-(off+k)=j-(off+(k+1))+1:=by omega
    rw[this,ajH]
   ·rw[if_neg h2,if_neg (by simp;omega),aku (by omega)]
theorem lL:∀ (l:List (Value × Nat)) (off:Nat) (C:Array Value),(l.foldl (fun cs (c,i)=>cs.setIfInBounds (off+i) c) C).size=C.size
 | [],off,C=>rfl
 | v :: l,off,C=>by rw[ak9,lL l off];simp
theorem pA{l cs:List AV}{off:Nat}(h:off+cs.length<=l.length)(j:Nat):(putAt l off cs)[j]?=if off<=j/\j<off+cs.length then cs[j-off]? else l[j]?:=by
 have LR:min off l.length=off:=by omega
 unfold putAt
 simp only[aju,List.length_append,List.length_take,LR,ai0,aje]
 by_cases h1:j<off
 ·have e1:j<off+cs.length:=by omega
  rw[if_pos e1,if_pos h1,if_pos h1,if_neg (by omega)]
 ·by_cases h2:j<off+cs.length
  ·rw[if_pos h2,if_neg h1,if_pos ⟨by omega,h2⟩]
  ·rw[if_neg h2,if_neg (by omega)]
   congr 1;omega
theorem ni{l cs:List AV}{off:Nat}(h:off+cs.length<=l.length):(putAt l off cs).length=l.length:=by
 unfold putAt;simp;omega
theorem nr.put{n:Nat}{C D:Array Value}{X Y:List AV}(h:nr gh n w C X)(hd:nr gh n w D Y){off:Nat}(hl:off+Y.length<=X.length) :
  nr gh n w (D.zipIdx.foldl (fun cs (c,i)=>cs.setIfInBounds (off+i) c) C) (putAt X off Y):=by
 have e:D.zipIdx.foldl (fun cs (c,i)=>cs.setIfInBounds (off+i) c) C=(D.toList.zipIdx 0).foldl (fun cs (c,i)=>cs.setIfInBounds (off+i) c) C:=by
  rw[<- Array.foldl_toList,Array.toList_zipIdx]
 rw[e]
 refine⟨by rw[lL,ni hl,h.1],fun j v x hv hx=>?_⟩
 have hD:D.toList.length=Y.length:=by simpa using hd.1
 rw[my _ _ _ _ _ (by rw[hD,h.1];omega)] at hv
 rw[pA hl] at hx
 simp only[aki,hD] at hv
 by_cases hc:off<=j/\j<off+Y.length
 ·rw[if_pos hc] at hv hx
  exact hd.2 _ v x (by simpa using hv) hx
 ·rw[if_neg hc] at hv hx
  exact h.2 j v x hv hx
theorem vp{n:Nat}{place:Nat->Option (Nat × Nat)} : ∀ (parts:List (Nat × Value)) (ip:List (Nat × Nat × AV)) (C:Array Value) (Z Z' : List AV),nr gh n w C Z->cF Z ip=some Z'->parts.length=ip.length ->
  (∀ (j:Nat) (p:Nat × Value) (q:Nat × Nat × AV),parts[j]?=some p->ip[j]?=some q->place p.1=some (q.1,q.2.1)/\(∀ cs,q.2.2.cells=some cs->nr gh n w p.2.cells cs)) ->
  ∃ C',Instr.fill place C parts=some C'/\nr gh n w C' Z'
 | [],[],C,Z,Z',h,hb,_,_=>by simp[cF] at hb;subst hb;exact⟨C,rfl,h⟩
 | p :: parts,q :: ip,C,Z,Z',h,hb,hl,hp=>by
  obtain⟨h1,h2⟩:=hp 0 p q rfl rfl
  obtain⟨i,v⟩:=p
  obtain⟨off,sz,x⟩:=q
  simp only[cF] at hb
  split at hb
  ·cases hb
  ·rename_i cs fq
   obtain⟨h3,fF⟩:=ab hb
   simp only[aiL,dU,ai2,ajg] at h3
   have hr:=h2 cs fq
   have fC:v.cells.size=sz:=by rw[hr.1];exact h3.1
   have hlen:(cs.map AV.drop).length=cs.length:=by simp
   obtain⟨C',hf,br⟩:=vp parts ip _ _ Z' (h.put hr.dropped (off:=off) (by rw[hlen];exact h3.2)) fF (by simpa using hl) (fun j p q kW WV=>hp (j+1) p q (by simpa using kW) (by simpa using WV))
   refine⟨C',?_,br⟩
   simp only at h1
   unfold Instr.fill
   rw[h1]
   have j8:¬ (decide (v.cells.size≠sz) || decide (off+v.cells.size>C.size))=true:=by
    have:=hr.1;have:=h.1
    simp;omega
   simp only
   rw[if_neg j8]
   exact hf
 | [],_ :: _,_,_,_,_,_,hl,_=>by simp at hl
 | _ :: _,[],_,_,_,_,_,hl,_=>by simp at hl
theorem DI{n:Nat}{t:TypeId}{z:List AV}(h:fD P t=some z):∃ i zv,P.info? t=some i/\i.zero=some zv/\nr gh n w zv.cells z:=by
 simp only[fD,aiF] at h
 obtain⟨zv,⟨i,hi,hz⟩,hc⟩:=h
 obtain⟨h1,h2⟩:=iS (gh:=gh) (n:=n) (w:=w) hc
 exact⟨i,zv,hi,hz,by simpa using h1,fun j v x hv hx=>h2 j v x (by simpa using hv) hx⟩
theorem x5{n:Nat}{v:Value}{x:AV}(h:iM v=some x):VR gh n w v (lU x):=by
 have hv:VR gh n w v x:=qZ h
 unfold lU
 split
 ·unfold iM at h
  split at h<;>first|(cases h;done)|(injection h with h;cases h;done)|exact .plain _ _ .ay
 ·exact hv
theorem zE{n:Nat}{v:Value}{x:AV}(h:oC v=some x):VR gh n w v (lU x):=by
 have h0:=ik (gh:=gh) (n:=n) (w:=w) h
 unfold oC at h
 split at h
 ·simp only[aiE] at h
  obtain⟨l,_,rfl⟩:=h
  exact h0
 ·exact x5 h
theorem oD:∀ {vs:List Value} {xs:List AV},cY vs=some xs->∀ (j:Nat) (v:Value) (x:AV),vs[j]?=some v->xs[j]?=some x->iM v=some x
 | [],xs,h,j,v,x,hv,hx=>by simp at hv
 | u :: vs,xs,h,j,v,x,hv,hx=>by
  simp only[cY,aiF,aiE] at h
  obtain⟨y,hy,ys,L4,rfl⟩:=h
  cases j with
  | zero=>simp at hv hx;subst hv hx;exact hy
  | succ j=>exact oD L4 j v x (by simpa using hv) (by simpa using hx)
theorem pF{n:Nat}{t:TypeId}{b:Bool}{z:List AV}(h:(fD P t).map (fun z=>cond b (z.map lU) z)=some z):∃ i zv,P.info? t=some i/\i.zero=some zv/\nr gh n w zv.cells z:=by
 simp only[aiE] at h
 obtain⟨z0,h0,rfl⟩:=h
 obtain⟨i,zv,h1,h2,h3⟩:=DI (gh:=gh) (n:=n) (w:=w) h0
 refine⟨i,zv,h1,h2,?_⟩
 cases b with
 | false=>exact h3
 | true =>
  refine⟨by simpa using h3.1,fun j v x hv hx=>?_⟩
  simp only[cond_true,aiW,aiE] at hx
  obtain⟨y,hy,rfl⟩:=hx
  simp only[fD,aiF] at h0
  obtain⟨zv',⟨i',jW,U'⟩,hc⟩:=h0
  rw[h1] at jW
  injection jW with jW
  subst jW
  rw[h2] at U'
  injection U' with U'
  subst U'
  exact⟨x5 (oD hc j v y (by simpa using hv) hy),(h3.2 j v y hv hy).2⟩
theorem nf(hW:aG G base s.H gh w)(hF:FR L nt gh w a s){x:Operand}{y:ak}(hc:ah nt x=some y):∀ cs,(y.eval G s.T).drop.cells=some cs->nr gh s.H.length w (a.eval x).cells cs:=by
 intro cs fq
 have hf:ar (y.eval G s.T)=true:=by
  rw[<- im]
  generalize (y.eval G s.T).drop=Y at fq
  cases Y<;>first|rfl|cases fq
 exact pb (bS hW hF hc rfl hf) fq
theorem uo(hW:aG G base s.H gh w)(hF:FR L nt gh w a s){o:Oper}{t:TypeId}{parts:Array (Nat × Operand)}{fs:Array Go.Field}{z Z:List AV}{ps:List (Nat × Nat × ak)}
  (ho:o.op=.build t parts) {kp:Bool} (hz:(fD P t).map (fun z=>cond kp (z.map lU) z)=some z) (hu:P.underlying t=some (.struct fs)) (hp:lj P nt fs.toList parts.toList=some ps)
  (fg:∃ pl,fs.toList.mapM (fun f=>(P.info? f.type).map fun i=>(f.offset,i.size))=some pl)
  (he:cF z (ps.map fun p=>(p.1,p.2.1,(p.2.2.eval G s.T).drop))=some Z) :
  ∃ v,(execOp a.eval o).run P w=.ok (.value v) w/\ld gh s.H.length nt w s.T s.gen (dO a) v (.agg Z):=by
 obtain⟨i,zv,hi,L5,br⟩:=pF (gh:=gh) (n:=s.H.length) (w:=w) hz
 obtain⟨pl,ux⟩:=fg
 have inv:∀ (l:List (Nat × Operand)) (ps:List (Nat × Nat × ak)),lj P nt fs.toList l=some ps->l.length=ps.length /\
   ∀ (j:Nat) (p:Nat × Operand) (q:Nat × Nat × ak),l[j]?=some p->ps[j]?=some q->(∃ f,fs.toList[p.1]?=some f/\da P f.type=some q.2.1/\f.offset=q.1)/\ah nt p.2=some q.2.2:=by
  intro l
  induction l with
  | nil=>intro ps h;simp[lj] at h;subst h;exact⟨rfl,fun j p q h=>by simp at h⟩
  | cons p l ih =>
   intro ps h
   obtain⟨k,x⟩:=p
   simp only[lj,aiF,aiE] at h
   obtain⟨f,hf,sz,fC,y,hy,rest,hr,rfl⟩:=h
   obtain⟨h1,h2⟩:=ih rest hr
   refine⟨by simp[h1],fun j p q hp hq=>?_⟩
   cases j with
   | zero=>simp at hp hq;subst hp hq;exact⟨⟨f,hf,fC,rfl⟩,hy⟩
   | succ j=>exact h2 j p q (by simpa using hp) (by simpa using hq)
 obtain⟨hl,hinv⟩:=inv _ _ hp
 have WU:∀ (k:Nat) (f:Go.Field) (sz:Nat),fs.toList[k]?=some f->da P f.type=some sz->pl.toArray[k]?=some (f.offset,sz):=by
  have gen:∀ (l:List Go.Field) (pl:List (Nat × Nat)),l.mapM (fun f=>(P.info? f.type).map fun i=>(f.offset,i.size))=some pl->∀ (k:Nat) (f:Go.Field) (sz:Nat),l[k]?=some f->da P f.type=some sz->pl[k]?=some (f.offset,sz):=by
   intro l
   induction l with
   | nil=>intro pl _ k f sz h;simp at h
   | cons g l ih =>
    intro pl h k f sz hk hs
    simp only[List.mapM_cons,Option.bind_eq_bind,Option.pure_def,aiF,aiE] at h
    obtain⟨q,⟨ii,Je,rfl⟩,rest,hr,h⟩:=h
    injection h with h
    subst h
    cases k with
    | zero =>
     simp at hk;subst hk
     obtain⟨i',jW,qt⟩:=kX hs
     rw[jW] at Je;injection Je with Je;subst Je;simp[qt]
    | succ k=>simpa using ih rest hr k f sz (by simpa using hk) hs
  intro k f sz hk hs
  simpa using gen _ _ ux k f sz hk hs
 obtain⟨C',hf,rB⟩:=vp (gh:=gh) (w:=w) (n:=s.H.length) (place:=fun x=>pl.toArray[x]?) ((parts.map fun p=>(p.1,a.eval p.2)).toList) (ps.map fun p=>(p.1,p.2.1,(p.2.2.eval G s.T).drop)) zv.cells z Z br he (by simpa using hl) (by
  intro j p q hp hq
  simp only[ak6,aiW,aiE] at hp hq
  obtain⟨p0,LW,rfl⟩:=hp
  obtain⟨q0,hq0,rfl⟩:=hq
  obtain⟨⟨f,hf,hs,pk⟩,hc⟩:=hinv j p0 q0 LW hq0
  exact⟨by rw[WU _ f _ hf hs,pk],nf hW hF hc⟩)
 have hb:P.built t (parts.map fun p=>(p.1,a.eval p.2)).toList=some C':=by
  unfold Program.built
  rw[hi,hu]
  simp only[L5,ux]
  exact hf
 refine⟨.agg C',by simp[execOp,ho,run_build w t _ C' hb],.cD (.agg _ _ rB.1 (fun j v hj=>?_) (fun j v x hv hx=>(rB.2 j v x hv hx).1))⟩
 have a7:j<Z.length:=by rw[<- rB.1];exact (aiN.1 hj).1
 exact (rB.2 j v _ hj (aiJ a7)).2
end
end
section
section
variable {G:Nat->List AV}{base nt:Nat}{L:List Nat}{gh:Gh}{w w' : World}{a:Act}{s:AS}{H:ag}
def Gh.alloc(gh:Gh)(b:Nat)(p:aX)(q:Nat->Prop):Gh:={ S:=fun b' o=>gh.S b' o\/(b'=b/\q o),κ:=fun b'=>if b'=b then p else gh.κ b',ρ:=gh.ρ }
structure dv (w w' : World) (o:Obj):Prop where
 heap:w'.heap=w.heap.push o
 os:w'.os=w.os
 tape:w'.tape=w.tape
 output:w'.output=w.output
theorem dv.alloc(w:World)(o:Obj):dv w (w.alloc o) o:=⟨rfl,rfl,rfl,rfl⟩
theorem dv.drew(w:World)(o:Obj):dv w (w.drew.alloc o) o:=⟨rfl,rfl,rfl,rfl⟩
theorem dv.old{o:Obj}(h:dv w w' o)(b:Nat)(hb:b<w.heap.size):w'.heap[b]?=w.heap[b]?:=by
 rw[h.heap,akn,if_neg (by omega)]
theorem dv.new{o:Obj}(h:dv w w' o):w'.heap[w.heap.size]?=some o:=by
 rw[h.heap,akn,if_pos rfl]
theorem dv.size{o:Obj}(h:dv w w' o):w'.heap.size=w.heap.size+1:=by rw[h.heap];simp
theorem cell_of_heap{b o:Nat}(h:w'.heap[b]?=w.heap[b]?):w'.cell? ⟨b,o,none⟩=w.cell? ⟨b,o,none⟩:=by simp[World.cell?,h]
theorem aG.bw(hW:aG G base H gh w)(b:Nat)(hb:w.heap.size<=b):gh.κ b≠.outer:=by rw[hW.fresh b hb];simp
theorem fO(hW:aG G base H gh w){o:Obj}(hp:dv w w' o){p:aX}(cU:p≠.outer)(q:Nat->Prop)(n:Nat):Step (fun _=>False) n gh w (gh.alloc w.heap.size p q) w':=by
 refine⟨fun b o h=>.inl h,fun b o h=>cell_of_heap (hp.old b (hW.l7 b o h)),by rw[hp.size];omega,hp.os,hp.tape,hp.output,?_,?_,fun _ _=>rfl,fun b ty m hb=>by
  obtain⟨C,fr,h1,h2⟩:=hb
  exact⟨C,fr,by rw[hp.old b (aiN.1 h1).1];exact h1,h2⟩,fun b E ck hs hb=>by rw[hp.old b (hW.l7 b 0 hs)];exact hb⟩
 ·intro b hb _
  have uw:b≠w.heap.size:=by omega
  refine⟨.inl (hp.old b hb),by simp[Gh.alloc,uw],fun o ho=>?_⟩
  rcases ho with ho|⟨e,_⟩
  ·exact ho
  ·exact absurd e uw
 ·intro b hb
  show (if b=w.heap.size then p else gh.κ b)≠.outer
  split
  ·exact cU
  ·exact hW.bw b hb
theorem lf(hW:aG G base H gh w){o:Obj}(hp:dv w w' o){p:aX}(cU:p≠.outer)(q:Nat->Prop)(n:Nat):Ext n gh w (gh.alloc w.heap.size p q) w':=by
 refine⟨(fO hW hp cU q n).mono (fun _ h=>h.elim),fun b hb=>?_⟩
 have fF:(if b=w.heap.size then p else gh.κ b)=.outer:=hb
 split at fF
 ·exact absurd fF cU
 ·exact fF
theorem aG.step{touch:aX->Prop}{aF:Gh}(hW:aG G base H gh w)(st:Step touch H.length gh w aF w')(ht:∀ l,¬ touch (.hb l)/\∀ j,¬ touch (.hs l j))
  (hs:∀ b o,aF.S b o->b<w'.heap.size) (hk:∀ b,aF.κ b≠.none->base<=b/\b<w'.heap.size)
  (mf:∀ b o m,aF.S b o->gh.S b o\/(w'.cell? ⟨b,o,none⟩=some (.int .u8 m)->∃ C fr,w'.heap[b]?=some (.cells C fP fr))):aG G base H aF w':=by
 refine⟨ajt hW.size st.size,hs,hk,fun g j x hx=>?_,fun loc ty cs hl=>?_,hW.refs,fun g hg=>(hW.uB g hg).imp fun ty h=>st.len g ty _ h,hW.jc st mf,fun loc o hl=>?_,fun loc ty cs hl=>?_⟩
 ·obtain⟨v,h1,h2,h3⟩:=hW.aP g j x hx
  exact⟨v,(st.cell g j h3).trans h1,h2.mono st.S st.cell st.mp,st.S g j h3⟩
 ·have a7:loc<H.length:=(aiI.1 hl).1
  have h:=(hW.boxes loc ty cs hl).mono st (aiK _) (ht loc).1 (ht loc).2
  rw[st.ρ loc a7];exact h
 ·rw[st.ρ loc (aiI.1 hl).1]
  exact (hW.more loc o hl).mono st (aiK _) (ht loc).1 (ht loc).2
 ·rw[st.ρ loc (aiI.1 hl).1]
  exact fun hf=>st.len _ _ _ (hW.types loc ty cs hl hf)
theorem aG.alloc(hW:aG G base H gh w){o:Obj}(hp:dv w w' o){p:aX}(cU:p≠.outer)(q:Nat->Prop)
  (hq:∀ k m,q k->w'.cell? ⟨w.heap.size,k,none⟩=some (.int .u8 m)->∃ C fr,w'.heap[w.heap.size]?=some (.cells C fP fr)):aG G base H (gh.alloc w.heap.size p q) w':=by
 refine hW.step (fO hW hp cU q H.length) (fun l=>⟨id,fun _=>id⟩) ?_ ?_ (fun b k m h=>h.elim .inl (fun ⟨e,hk⟩=>.inr (by subst e;exact hq k m hk)))
 ·intro b o ho
  rw[hp.size]
  rcases ho with ho|⟨rfl,_⟩
  ·have:=hW.l7 b o ho;omega
  ·omega
 ·intro b hb
  rw[hp.size]
  have fF:(if b=w.heap.size then p else gh.κ b)≠.none:=hb
  split at fF
  ·rename_i e
   have:=hW.size
   omega
  ·have:=hW.mG b fF;omega
def Gh.mT(gh:Gh)(b:Nat)(p:aX):Gh:={ gh with κ:=fun b'=>if b'=b then p else gh.κ b' }
theorem js(hW:aG G base H gh w){b:Nat}(hb:b<w.heap.size)(p:aX)(n:Nat):Step (fun r=>r=gh.κ b) n gh w (gh.mT b p) w:=by
 refine⟨fun _ _ h=>h,fun _ _ _=>rfl,aiK _,rfl,rfl,rfl,fun b' fF hn=>⟨.inl rfl,?_,fun _ h=>h⟩,fun b' fF=>?_,fun _ _=>rfl,fun _ _ _ h=>h,fun _ _ _ _ h=>h⟩
 ·have cU:b'≠b:=by rintro rfl;exact hn rfl
  simp[Gh.mT,cU]
 ·have cU:b'≠b:=by omega
  simp only[Gh.mT,if_neg cU]
  exact hW.bw b' fF
theorem rq(hW:aG G base H gh w){b:Nat}(hb:b<w.heap.size){p:aX}(hp:p≠.outer)(h0:gh.κ b≠.none)(h1:gh.κ b≠.outer)(n:Nat):Ext n gh w (gh.mT b p) w:=by
 refine⟨(js hW hb p n).mono (fun r h=>by rw[h];exact⟨h0,h1⟩),fun b' fF=>?_⟩
 have jA:(if b'=b then p else gh.κ b')=.outer:=fF
 split at jA
 ·exact absurd jA hp
 ·exact jA
theorem F1(hW:aG G base H gh w){b:Nat}(hb:b<w.heap.size)(p:aX)(h0:gh.κ b≠.none)(ht:∀ l,gh.κ b≠.hb l/\∀ j,gh.κ b≠.hs l j):aG G base H (gh.mT b p) w:=by
 refine hW.step (js hW hb p H.length) (fun l=>⟨fun h=>(ht l).1 h.symm,fun j h=>(ht l).2 j h.symm⟩) hW.l7 ?_ (fun _ _ _ h=>.inl h)
 intro b' fF
 have jA:(if b'=b then p else gh.κ b')≠.none:=fF
 split at jA
 ·rename_i e;rw[e];exact hW.mG b h0
 ·exact hW.mG b' jA
theorem nj(hW:aG G base H gh w){b:Nat}{C C' : Array Value}{ty:TypeId}{fr:Nat × Nat}(hb:w.heap[b]?=some (.cells C ty fr))(fC:C'.size=C.size)(q:Nat->Prop)
  (bH:∀ o,gh.S b o->C'[o]?=C[o]?) (p:aX) (n:Nat) :
  Step (fun r=>r=gh.κ b) n gh w { gh with S:=fun b' o=>gh.S b' o\/(b'=b/\q o),κ:=fun b'=>if b'=b then p else gh.κ b' } (w.setRow b C'):=by
 have a7:b<w.heap.size:=(aiN.1 hb).1
 refine⟨fun b o h=>.inl h,fun b' o h=>?_,by simp,rfl,rfl,rfl,fun b' fF hn=>?_,fun b' fF=>?_,fun _ _=>rfl,fun b' j9 m hm=>by
  obtain⟨D,fr',h1,h2⟩:=hm
  by_cases e:b'=b
  ·subst e
   rw[hb] at h1
   injection h1 with h1
   injection h1 with h1 h3 h4
   subst h1 h3
   exact⟨C',fr,setRow_heap w b' C C' ty fr hb,by rw[fC,h2]⟩
  ·exact⟨D,fr',by rw[setRow_other w b b' C' e];exact h1,h2⟩,fun b' E ck hs hm=>by
  have e:b'≠b:=by rintro rfl;rw[hb] at hm;cases hm
  rw[setRow_other w b b' C' e];exact hm⟩
 ·by_cases e:b'=b
  ·subst e
   rw[cell_setRow_same w b' o C C' ty fr hb,bH o h]
   simp[World.cell?,hb]
  ·exact cell_of_heap (setRow_other w b b' C' e)
 ·have cU:b'≠b:=by rintro rfl;exact hn rfl
  refine⟨.inl (setRow_other w b b' C' cU),by simp[cU],fun o ho=>?_⟩
  rcases ho with ho|⟨e,_⟩
  ·exact ho
  ·exact absurd e cU
 ·have cU:b'≠b:=by omega
  simp only[if_neg cU]
  exact hW.bw b' fF
theorem uM(hW:aG G base H gh w){b:Nat}{C C' : Array Value}{ty:TypeId}{fr:Nat × Nat}(hb:w.heap[b]?=some (.cells C ty fr))(fC:C'.size=C.size)(q:Nat->Prop)
  (bH:∀ o,gh.S b o->C'[o]?=C[o]?) {p:aX} (hp:p≠.outer) (h0:gh.κ b≠.none) (h1:gh.κ b≠.outer) (n:Nat) :
  Ext n gh w { gh with S:=fun b' o=>gh.S b' o\/(b'=b/\q o),κ:=fun b'=>if b'=b then p else gh.κ b' } (w.setRow b C'):=by
 refine⟨(nj hW hb fC q bH p n).mono (fun r h=>by rw[h];exact⟨h0,h1⟩),fun b' fF=>?_⟩
 have jA:(if b'=b then p else gh.κ b')=.outer:=fF
 split at jA
 ·exact absurd jA hp
 ·exact jA
theorem H3(hW:aG G base H gh w){b:Nat}{C C' : Array Value}{ty:TypeId}{fr:Nat × Nat}(hb:w.heap[b]?=some (.cells C ty fr))(fC:C'.size=C.size)(q:Nat->Prop)
  (bH:∀ o,gh.S b o->C'[o]?=C[o]?) (hq:∀ k m,q k->C'[k]?=some (.int .u8 m)->ty=fP) (p:aX) (h0:gh.κ b≠.none) (ht:∀ l,gh.κ b≠.hb l/\∀ j,gh.κ b≠.hs l j) :
  aG G base H { gh with S:=fun b' o=>gh.S b' o\/(b'=b/\q o),κ:=fun b'=>if b'=b then p else gh.κ b' } (w.setRow b C'):=by
 have a7:b<w.heap.size:=(aiN.1 hb).1
 refine hW.step (nj hW hb fC q bH p H.length) (fun l=>⟨fun h=>(ht l).1 h.symm,fun j h=>(ht l).2 j h.symm⟩) ?_ ?_ (fun b' k m h=>h.elim .inl (fun ⟨e,hk⟩=>.inr (fun hc=>by
   subst e
   rw[cell_setRow_same w b' k C C' ty fr hb] at hc
   have:=hq k m hk hc
   subst this
   exact⟨C',fr,setRow_heap w b' C C' _ fr hb⟩)))
 ·intro b' o ho
  simp
  rcases ho with ho|⟨rfl,_⟩
  ·exact hW.l7 b' o ho
  ·exact a7
 ·intro b' fF
  simp
  have jA:(if b'=b then p else gh.κ b')≠.none:=fF
  split at jA
  ·rename_i e;rw[e];exact hW.mG b h0
  ·exact hW.mG b' jA
theorem FR.bz{aF:Gh}{touch:aX->Prop}(h:FR L nt gh w a s)(st:Step touch s.H.length gh w aF w'){t:Nat}{X:AV}{H' : ag}{lo' : Nat}(hH:s.H.length<=H'.length)
  (ht:∀ i,i≠t->¬ touch (.bx i)/\¬ touch (.sl i)/\∀ j,¬ touch (.sc i j))
  (hX:(t<nt/\aQ X=aQ (s.T t))\/aQ X=none) (hsr:t<nt->SR aF H'.length nt w' s.T s.gen (dO a) t (dO a t) X) :
  FR L nt aF w' a (({ s with H:=H',lo:=lo' } : AS).bz t X):=by
 refine h.update st h.defers h.size hH (aiK _) (fun i=>i=t) ?_ ?_ ?_
 ·intro i hi
  exact⟨by simp[AS.bz,gr,hi],fun _=>⟨rfl,ht i hi⟩⟩
 ·rintro i rfl
  simp only[AS.bz,gr,ajY]
  rcases hX with ⟨h1,h2⟩|h1
  ·exact .inl ⟨h1,h2,trivial⟩
  ·exact .inr (.inl h1)
 ·rintro i rfl hi
  simp only[AS.bz,gr,ajY]
  refine SR.mono (touch:=fun _=>False) (n:=H'.length) (gh:=aF) (w:=w') (Step.refl _ _ _ _ (fun b hb=>st.fresh b (ajt st.size hb))) (aiK _) (aiK _) id id (fun _=>id) ?_ (hsr hi)
  intro k hk
  by_cases Kh:k=i
  ·subst Kh
   rcases hX with ⟨h1,h2⟩|h1
   ·exact .inl (by rw[gr,if_pos rfl];exact⟨h2,rfl⟩)
   ·exact .inr (.inl (by simp[gr,h1]))
  ·exact .inl ⟨by simp[gr,Kh],rfl⟩
theorem FR.OI(h:FR L nt gh w a s){gen' : Nat}(hg:s.gen<=gen')(dK:∀ b,w.heap.size<=b->gh.κ b≠.outer)(d:Option Nat)(hd:∀ k,d=some k->k<nt){v:Value}{x:AV}
  (hx:aQ x=none\/((∃ g,s.gen<=g/\aQ x=some g)/\∀ k,d=some k->k∈L))
  (hv:∀ k,d=some k->SR gh s.H.length nt w s.T gen' (dO a) k v x):FR L nt gh w (a.put d v) (({ s with gen:=gen' } : AS).ca d x):=by
 have st:Step (fun _=>False) s.H.length gh w gh w:=Step.refl _ _ _ _ dK
 cases d with
 | none=>exact h.update st h.defers h.size (aiK _) hg (fun _=>False) (fun i _=>⟨rfl,fun _=>⟨rfl,id,id,fun _=>id⟩⟩) (fun _ h=>h.elim) (fun _ h=>h.elim)
 | some d =>
  have a7:=hd d rfl
  have fC:d<a.tmps.size:=by rw[h.size];exact a7
  refine h.update (s':=({ s with gen:=gen' } : AS).ca (some d) x) st ((tY a (some d) v).trans h.defers) ((Dk a (some d) v).trans h.size) (aiK _) hg (fun i=>i=d) ?_ ?_ ?_
  ·intro i hi
   exact⟨by simp[AS.ca,AS.bz,gr,hi],fun _=>⟨by rw[mq a d v i fC,if_neg hi],id,id,fun _=>id⟩⟩
  ·rintro i rfl
   simp only[AS.ca,AS.bz,gr,ajY]
   rcases hx with hx|⟨⟨g,hg1,hg2⟩,hl⟩
   ·exact .inr (.inl hx)
   ·exact .inr (.inr ⟨hl i rfl,g,hg1,hg2⟩)
  ·rintro i rfl hi
   simp only[AS.ca,AS.bz,gr,ajY]
   rw[mq a i v i fC,if_pos rfl]
   have n6:=hv i rfl
   cases x
   case lref b g off =>
    obtain⟨h1,h2,h3⟩:=n6
    refine⟨h1,h2,fun vH b' fF=>?_⟩
    by_cases LB:b=i
    ·subst LB;simp[gr,aQ] at vH
    ·simp only[gr,if_neg LB] at vH
     rw[mq a i v b fC,if_neg LB] at fF
     exact h3 vH b' fF
   case lsr b g =>
    obtain⟨h1,h2,h3⟩:=n6
    refine⟨h1,h2,fun vH=>?_⟩
    by_cases LB:b=i
    ·subst LB;simp[gr,aQ] at vH
    ·simp only[gr,if_neg LB] at vH
     rw[mq a i v b fC,if_neg LB]
     exact h3 vH
   case eref b g r z off =>
    obtain⟨h1,h2,h3⟩:=n6
    refine⟨h1,h2,fun vH b' k cap fF=>?_⟩
    by_cases LB:b=i
    ·subst LB;simp[gr,aQ] at vH
    ·simp only[gr,if_neg LB] at vH
     rw[mq a i v b fC,if_neg LB] at fF
     exact h3 vH b' k cap fF
   all_goals exact n6
end
end
section
section
variable {P:Program}{G:Nat->List AV}{base nt:Nat}{L:List Nat}{gh:Gh}{w:World}{a:Act}{s:AS}
structure Out (G:Nat->List AV) (base nt:Nat) (L:List Nat) (gh:Gh) (w:World) (a:Act) (s:AS) (d:Option Nat) (x:AV) (s' : AS) (v' : Value) (aF:Gh) (w' : World):Prop where
 W:aG G base s'.H aF w'
 F:FR L nt aF w' (a.put d v') (s'.ca d x)
 E:Ext s.H.length gh w aF w'
def qM(P:Program)(a:Act)(o:Oper)(w:World)(v' : Value)(w' : World):Prop :=
 (execOp a.eval o).run P w=.ok (.value v') w'\/((execOp a.eval o).run P w=.ok .skip w'/\v'=undef)
theorem qM.wp{o:Oper}{v' : Value}{w' : World}{K:Act->World->Prop}{Q:Exit->Act->World->Prop}(h:qM P a o w v' w')(hK:K (a.put o.dst v') w'):o.wp P a w K Q:=by
 unfold Oper.wp
 rcases h with h|⟨h,rfl⟩
 ·rw[h];exact hK
 ·rw[h];exact hK
theorem Out.pure(hW:aG G base s.H gh w)(hF:FR L nt gh w a s){d:Option Nat}(hd:∀ k,d=some k->k<nt){v:Value}{x:AV}(hv:ld gh s.H.length nt w s.T s.gen (dO a) v x) :
  Out G base nt L gh w a s d x s v gh w:=by
 refine⟨hW,?_,Ext.refl _ _ _ (fun b hb=>hW.bw b hb)⟩
 have:=hF.put (touch:=fun _=>False) (H':=s.H) (lo':=s.lo) (Step.refl _ _ _ _ (fun b hb=>hW.bw b hb)) (fun i=>⟨id,id,fun _=>id⟩) (aiK _) d hd hv
 exact this
theorem Pt{n:Nat}{T:aC}{gen:Nat}{tm:Nat->Value}{i:Nat}{v:Value}{e:List (List AV)}{own:Bool}(h:CR gh n w (.sl i) v (.slice e own)):SR gh n nt w T gen tm i v (.slice e own):=h
def fW(S:Nat->Nat->Prop)(w:World)(sz:Nat)(C:Array Value)(E:List (List AV)):Prop :=
 C.size=E.length*sz/\(∀ (i:Nat) (r:List AV),E[i]?=some r->r.length=sz) /\
  ∀ (i j:Nat) (r:List AV) (x:AV),E[i]?=some r->r[j]?=some x->∃ v,C[i*sz+j]?=some v/\PR S w v x
theorem VR.iX{n:Nat}{v:Value}{x:AV}(h:VR gh n w v x)(hp:x.plain=true):PR gh.S w v x:=by
 cases h with
 | plain _ _ h=>exact h
 | full=>simp[AV.plain] at hp
 | ref=>simp[AV.plain] at hp
 | sref=>simp[AV.plain] at hp
 | mref=>simp[AV.plain] at hp
 | func f fs cs xs ys hf hc h1 h2 =>
  cases xs<;>cases ys<;>simp[AV.plain] at hp
  have e1:fs=#[]:=aky hf
  have e2:cs=#[]:=aky hc
  subst e1 e2
  exact .func f
 | iface t v x h =>
  cases x<;>simp[AV.plain] at hp
  all_goals
   cases h with
   | plain _ _ h=>exact .iface _ _ _ h
 | agg=>simp[AV.plain] at hp
 | tuple=>simp[AV.plain] at hp
theorem K6{n:Nat}{v:Value}{x:AV}{sz:Nat}{cs:List AV}(hx:∀ ds,x.cells=some ds->nr gh n w v.cells ds)(he:x.elem sz=some cs) :
  v.cells.size=sz/\cs.length=sz/\∀ (j:Nat) (y:AV),cs[j]?=some y->∃ u,v.cells[j]?=some u/\PR gh.S w u y:=by
 unfold AV.elem at he
 split at he
 ·cases he
 ·rename_i ds Zw
  obtain⟨h1,h2⟩:=ab he
  injection h2 with h2
  subst h2
  simp only[aiL,dU,ai2] at h1
  have hr:=(hx ds Zw).dropped
  refine⟨by rw[hr.1];exact h1.1,h1.1,fun j y hy=>?_⟩
  have hj:j<v.cells.size:=by rw[hr.1];exact (aiI.1 hy).1
  have hv:v.cells[j]?=some v.cells[j]:=aiS hj
  exact⟨_,hv,((hr.2 j _ y hv hy).1).iX (aiO.1 h1.2 y (aiT hy))⟩
theorem qC{i n sz j:Nat}(hi:i<n)(hj:j<sz):i*sz+j<n*sz:=by
 have:(i+1)*sz<=n*sz:=aiZ _ hi
 rw[ajj] at this
 omega
theorem fW.put{S:Nat->Nat->Prop}{sz:Nat}{C D:Array Value}{E:List (List AV)}{cs:List AV}{i:Nat}(h:fW S w sz C E)(hi:i<E.length)(hD:D.size=sz)(fq:cs.length=sz)
  (bU:∀ (j:Nat) (y:AV),cs[j]?=some y->∃ u,D[j]?=some u/\PR S w u y):fW S w sz (D.zipIdx.foldl (fun q (c,k)=>q.setIfInBounds (i*sz+k) c) C) (E.set i cs):=by
 have e:D.zipIdx.foldl (fun q (c,k)=>q.setIfInBounds (i*sz+k) c) C=(D.toList.zipIdx 0).foldl (fun q (c,k)=>q.setIfInBounds (i*sz+k) c) C:=by
  rw[<- Array.foldl_toList,Array.toList_zipIdx]
 have hDl:D.toList.length=sz:=by simpa using hD
 have hle:i*sz+sz<=C.size:=by
  have:(i+1)*sz<=E.length*sz:=aiZ _ hi
  rw[ajj] at this
  rw[h.1];omega
 rw[e]
 refine⟨by rw[lL,h.1];simp,fun k r hk=>?_,fun k j r x hk hj=>?_⟩
 ·rw[ajF] at hk
  split at hk
  ·rename_i Kh
   subst Kh
   injection hk with hk;subst hk;exact fq
  ·exact h.2.1 k r hk
 ·rw[my _ _ _ _ _ (by rw[hDl];omega)]
  simp only[aki,hDl]
  rw[ajF] at hk
  split at hk
  ·rename_i Kh
   subst Kh
   ·injection hk with hk
    subst hk
    have Ct:j<sz:=by rw[<- fq];exact (aiI.1 hj).1
    rw[if_pos ⟨by omega,by omega⟩]
    obtain⟨u,hu,hp⟩:=bU j x hj
    refine⟨u,?_,hp⟩
    rw[show i*sz+j-i*sz=j by omega]
    simpa using hu
  ·rename_i Kh
   have Ct:j<sz:=by rw[<- h.2.1 k r hk];exact (aiI.1 hj).1
   have j8:¬ (i*sz<=k*sz+j/\k*sz+j<i*sz+sz):=by
    rintro ⟨c1,c2⟩
    have:i=k:=by
     rcases akD i k with h'|h'|h'
     ·have:(i+1)*sz<=k*sz:=aiZ _ h'
      rw[ajj] at this;omega
     ·exact h'
     ·have:(k+1)*sz<=i*sz:=aiZ _ h'
      rw[ajj] at this;omega
    exact Kh this
   rw[if_neg j8]
   exact h.2.2 k j r x hk hj
theorem yg{S:Nat->Nat->Prop}{sz:Nat} : ∀ (parts:List (Nat × Value)) (ip:List (Nat × AV)) (C:Array Value) (E E' : List (List AV)),fW S w sz C E->bL sz E ip=some E'->parts.length=ip.length ->
  (∀ (j:Nat) (p:Nat × Value) (q:Nat × AV),parts[j]?=some p->ip[j]?=some q->p.1=q.1/\∀ cs,q.2.elem sz=some cs->p.2.cells.size=sz/\cs.length=sz/\∀ (j:Nat) (y:AV),cs[j]?=some y->∃ u,p.2.cells[j]?=some u/\PR S w u y) ->
  ∃ C',Instr.fill (fun i=>some (i*sz,sz)) C parts=some C'/\fW S w sz C' E'
 | [],[],C,E,E',h,hb,_,_=>by simp[bL] at hb;subst hb;exact⟨C,rfl,h⟩
 | p :: parts,q :: ip,C,E,E',h,hb,hl,hp=>by
  obtain⟨h1,h2⟩:=hp 0 p q rfl rfl
  obtain⟨i,v⟩:=p
  obtain⟨i',x⟩:=q
  simp only at h1
  subst h1
  simp only[bL] at hb
  split at hb
  ·cases hb
  ·rename_i cs fq
   obtain⟨h3,fF⟩:=ab hb
   have hi:i<E.length:=by simpa [ajb] using h3
   obtain⟨c1,c2,c3⟩:=h2 cs fq
   obtain⟨C',hf,br⟩:=yg parts ip _ _ E' (h.put hi c1 c2 c3) fF (by simpa using hl) (fun j p q kW WV=>hp (j+1) p q (by simpa using kW) (by simpa using WV))
   refine⟨C',?_,br⟩
   unfold Instr.fill
   simp only
   have hle:i*sz+sz<=C.size:=by
    have:(i+1)*sz<=E.length*sz:=aiZ _ hi
    rw[ajj] at this
    rw[h.1];omega
   have j8:¬ (decide (v.cells.size≠sz) || decide (i*sz+v.cells.size>C.size))=true:=by
    simp at c1;simp;omega
   rw[if_neg j8]
   exact hf
 | [],_ :: _,_,_,_,_,_,hl,_=>by simp at hl
 | _ :: _,[],_,_,_,_,_,hl,_=>by simp at hl
theorem fW.slice{S:Nat->Nat->Prop}{sz:Nat}{C:Array Value}{E:List (List AV)}{w' : World}{ty:TypeId}(h:fW S w sz C E){gh:Gh}(hS:gh.S=S){C' : Array Value}{p:aX}(hp:dv w w' (.cells C' ty))
  (hW:∀ b o,S b o->b<w.heap.size) (hC:∀ j,j<C.size->C'[j]?=C[j]?) {q:Nat->Prop} (hq:∀ j,j<E.length*sz->q j) (cap:Nat) (iu:E.length<=cap) :
  PR (gh.alloc w.heap.size p q).S w' (.slice (some ⟨w.heap.size,0,none⟩) E.length cap) (.slice E false):=by
 subst hS
 have key:∀ (i j:Nat) (r:List AV) (x:AV),E[i]?=some r->r[j]?=some x->∃ v,C[i*sz+j]?=some v/\PR gh.S w v x/\i*sz+j<E.length*sz:=by
  intro i j r x hi hj
  obtain⟨v,hv,A8⟩:=h.2.2 i j r x hi hj
  exact⟨v,hv,A8,by rw[<- h.1];exact (aiN.1 hv).1⟩
 refine .slice w.heap.size 0 E.length cap sz E (fun i j=>C.getD (i*sz+j) undef) rfl iu h.2.1 ?_ ?_
 ·intro i j r x hi hj
  obtain⟨v,hv,A8,a7⟩:=key i j r x hi hj
  have me:i*sz+j<C.size:=by rw[h.1];exact a7
  have hg:C.getD (i*sz+j) undef=v:=by
   rw[aiS me] at hv
   injection hv with hv
   simp[me,hv]
  refine⟨.inr ⟨rfl,by simpa using hq _ a7⟩,?_,by rw[hg];exact A8.dB⟩
  rw[hg,Nat.zero_add]
  simp only[World.cell?,hp.new]
  simpa [hC _ me] using hv
 ·intro i j r x hi hj
  obtain⟨v,hv,A8,a7⟩:=key i j r x hi hj
  have me:i*sz+j<C.size:=by rw[h.1];exact a7
  have hg:C.getD (i*sz+j) undef=v:=by
   rw[aiS me] at hv
   injection hv with hv
   simp[me,hv]
  rw[hg]
  exact A8.mono (fun b o ho=>.inl ho) (fun b o ho=>cell_of_heap (hp.old b (hW b o ho))) (fun b E ck hs hb=>by rw[hp.old b (hW b 0 hs)];exact hb)
end
end
section
section
variable {P:Program}{G:Nat->List AV}{base nt:Nat}{L:List Nat}{gh:Gh}{w w' : World}{a:Act}{s:AS}{H:ag}
def Kl:Option Nat->aX
 | some d=>.sl d
 | none=>.none
def DL:Option Nat->aX
 | some d=>.bx d
 | none=>.none
theorem mo(d:Option Nat):Kl d≠.outer:=by cases d<;>simp[Kl]
theorem qQ(d:Option Nat):DL d≠.outer:=by cases d<;>simp[DL]
theorem FR.grown{aF:Gh}{touch:aX->Prop}(h:FR L nt gh w a s)(st:Step touch s.H.length gh w aF w')(ht:∀ i,¬ touch (.bx i)/\¬ touch (.sl i)/\∀ j,¬ touch (.sc i j))
  {H' : ag} {lo' : Nat} (hH:s.H.length<=H'.length):FR L nt aF w' a { s with H:=H',lo:=lo' } :=
 h.update st h.defers h.size hH (aiK _) (fun _=>False) (fun i _=>⟨rfl,fun _=>⟨rfl,ht i⟩⟩) (fun _ h=>h.elim) (fun _ h=>h.elim)
def Gh.bj(gh:Gh)(b n:Nat):Gh:={ gh.alloc b (.hb n) (fun _=>False) with ρ:=fun l=>if l=n then b else gh.ρ l }
theorem fp(hW:aG G base H gh w){o:Obj}(hp:dv w w' o):Step (fun _=>False) H.length gh w (gh.bj w.heap.size H.length) w':=by
 have h:=fO hW hp (p:=.hb H.length) (by simp) (fun _=>False) H.length
 refine⟨h.S,h.cell,h.size,h.os,h.tape,h.output,h.xR,h.fresh,fun loc hl=>?_,h.len,h.mp⟩
 show (if loc=H.length then _ else _)=_
 rw[if_neg (by omega)]
theorem jv(hW:aG G base H gh w){o:Obj}(hp:dv w w' o):Ext H.length gh w (gh.bj w.heap.size H.length) w':=by
 refine⟨(fp hW hp).mono (fun _ h=>h.elim),fun b hb=>?_⟩
 have fF:(if b=w.heap.size then aX.hb H.length else gh.κ b)=.outer:=hb
 split at fF
 ·cases fF
 ·exact fF
theorem aG.bj(hW:aG G base H gh w){C:Array Value}{ty:TypeId}(hp:dv w w' (.cells C ty)){cs:List AV}(br:nr gh H.length w C cs)(hr:cs.all (aR H.length)=true) :
  aG G base (H++[.box ty cs]) (gh.bj w.heap.size H.length) w':=by
 have st:=fp hW hp
 refine⟨ajt hW.size st.size,?_,?_,fun g j x hx=>?_,fun loc j9 ds hl=>?_,fun loc j9 ds hl=>?_,fun g hg=>(hW.uB g hg).imp fun ty h=>st.len g ty _ h,hW.jc st (fun b o m h=>h.elim .inl (fun h=>h.2.elim)),fun loc o hl=>?_,fun loc j9 ds hl=>?_⟩
 ·intro b o ho
  rw[hp.size]
  rcases ho with ho|⟨_,ho⟩
  ·have:=hW.l7 b o ho;omega
  ·exact ho.elim
 ·intro b hb
  rw[hp.size]
  have fF:(if b=w.heap.size then aX.hb H.length else gh.κ b)≠.none:=hb
  split at fF
  ·rename_i e
   have:=hW.size
   omega
  ·have:=hW.mG b fF;omega
 ·obtain⟨v,h1,h2,h3⟩:=hW.aP g j x hx
  exact⟨v,(st.cell g j h3).trans h1,h2.mono st.S st.cell st.mp,st.S g j h3⟩
 ·rw[List.length_append,ajQ]
  by_cases a7:loc<H.length
  ·rw[ai1 a7] at hl
   have h:=(hW.boxes loc j9 ds hl).mono st (n':=H.length+1) (ajD _) id (fun _=>id)
   rw[st.ρ loc a7];exact h
  ·rw[ai7 (by omega)] at hl
   have hz:loc=H.length:=by
    have:=(aiI.1 hl).1
    simp at this;omega
   subst hz
   simp only[akJ,ai4,aiG,de.box.injEq] at hl
   obtain⟨rfl,rfl⟩:=hl
   have hρ:(gh.bj w.heap.size H.length).ρ H.length=w.heap.size:=by simp[Gh.bj]
   rw[hρ]
   refine⟨by simp[Gh.bj,Gh.alloc],?_,C,ty,hp.new,akj br.1.symm,fun j v x hv hx=>?_⟩
   ·rintro o (ho|⟨_,ho⟩)
    ·have:=hW.l7 _ o ho;omega
    ·exact ho
   ·obtain⟨h1,h2⟩:=br.2 j v x hv hx
    exact⟨h2,.inl (h1.mono st (ajD _))⟩
 ·by_cases a7:loc<H.length
  ·rw[ai1 a7] at hl
   exact hW.refs loc j9 ds hl
  ·rw[ai7 (by omega)] at hl
   have hz:loc=H.length:=by
    have:=(aiI.1 hl).1
    simp at this;omega
   subst hz
   simp only[akJ,ai4,aiG,de.box.injEq] at hl
   obtain⟨rfl,rfl⟩:=hl
   exact hr
 ·rw[List.length_append,ajQ]
  by_cases a7:loc<H.length
  ·rw[ai1 a7] at hl
   rw[st.ρ loc a7]
   exact (hW.more loc o hl).mono st (ajD _) id (fun _=>id)
  ·rw[ai7 (by omega)] at hl
   have hz:loc=H.length:=by
    have:=(aiI.1 hl).1
    simp at this;omega
   subst hz
   simp only[akJ,ai4,aiG] at hl
   subst hl
   trivial
 ·by_cases a7:loc<H.length
  ·rw[ai1 a7] at hl
   rw[st.ρ loc a7]
   exact fun hf=>st.len _ _ _ (hW.types loc j9 ds hl hf)
  ·rw[ai7 (by omega)] at hl
   have hz:loc=H.length:=by
    have:=(aiI.1 hl).1
    simp at this;omega
   subst hz
   simp only[akJ,ai4,aiG,de.box.injEq] at hl
   obtain⟨rfl,rfl⟩:=hl
   have hρ:(gh.bj w.heap.size H.length).ρ H.length=w.heap.size:=by simp[Gh.bj]
   rw[hρ]
   exact fun _=>⟨C,(0,0),hp.new,br.1⟩
theorem Out.bj(hW:aG G base s.H gh w)(hF:FR L nt gh w a s){d:Option Nat}(hd:∀ k,d=some k->k<nt){C:Array Value}{ty:TypeId}(hp:dv w w' (.cells C ty)){cs:List AV}(br:nr gh s.H.length w C cs)
  (hr:cs.all (aR s.H.length)=true) :
  Out G base nt L gh w a s d (.ref s.H.length 0) (s.dZ ⟨s.H++[.box ty cs],s.H.length⟩) (.pointer (some ⟨w.heap.size,0,none⟩)) (gh.bj w.heap.size s.H.length) w':=by
 have hρ:(gh.bj w.heap.size s.H.length).ρ s.H.length=w.heap.size:=by simp[Gh.bj]
 have hv:VR (gh.bj w.heap.size s.H.length) (s.H++[de.box ty cs]).length w' (.pointer (some ⟨w.heap.size,0,none⟩)) (.ref s.H.length 0):=by
  have:=VR.ref (gh:=gh.bj w.heap.size s.H.length) (w:=w') (n:=(s.H++[de.box ty cs]).length) s.H.length 0 (by simp)
  rw[hρ] at this;exact this
 exact⟨hW.bj hp br hr,hF.put (fp hW hp) (fun i=>⟨id,id,fun _=>id⟩) (by simp) d hd (.cD hv),jv hW hp⟩
theorem xl{v:Value}{x:AV}(h:iM v=some x):x.drop.plain=true:=by
 unfold iM at h
 split at h<;>first|(injection h with h;subst h;rfl)|cases h
theorem lD:∀ {vs:List Value} {xs:List AV},cY vs=some xs->∀ x,x∈xs->x.drop.plain=true
 | [],xs,h=>by simp[cY] at h;subst h;simp
 | v :: r,xs,h=>by
  simp only[cY,aiF,aiE] at h
  obtain⟨x,hx,ys,hy,rfl⟩:=h
  intro z hz
  rcases aja.1 hz with rfl|hz
  ·exact xl hx
  ·exact lD hy z hz
theorem tv{t:TypeId}{z:List AV}(h:fD P t=some z):∀ x,x∈z->x.drop.plain=true:=by
 simp only[fD,aiF] at h
 obtain⟨zv,_,hc⟩:=h
 exact lD hc
theorem ry{loc:Nat}{x:AV}(h:x.drop.plain=true):aR loc x=true:=by
 cases x<;>first|exact h|(simp[AV.drop,AV.plain] at h;done)|skip
 rename_i f fs cs
 cases fs<;>cases cs<;>first|rfl|(simp[AV.drop,AV.plain] at h)
theorem mz{loc:Nat}{x:AV}(h:aR loc x=true):aR loc x.drop=true:=by
 cases x<;>exact h
theorem yW{t:TypeId}{i:TypeInfo}{zv:Value}(hi:P.info? t=some i)(hz:i.zero=some zv)(w:World) :
  (Instr.alloc t true (.tuple #[])).run P w=.ok (.pointer (some ⟨w.heap.size,0,none⟩)) (w.alloc (.cells zv.cells t)):=by
 simp[Instr.alloc,zeroValue,typeInfo,hi,hz,newVar,newRow]
theorem J8{t:TypeId}{kp:Bool}{z:List AV}(h:(fD P t).map (fun z=>cond kp (z.map lU) z)=some z):∀ x,x∈z->x.drop.plain=true:=by
 simp only[aiE] at h
 obtain⟨z0,h0,rfl⟩:=h
 cases kp with
 | false=>exact tv h0
 | true =>
  intro x hx
  obtain⟨y,hy,rfl⟩:=ai5.1 hx
  have:=tv h0 y hy
  unfold lU
  split
  ·rfl
  ·exact this
theorem IQ(hW:aG G base s.H gh w)(hF:FR L nt gh w a s){o:Oper}{t:TypeId}{z:List AV}(ho:o.op=.alloc t){kp:Bool}(hz:(fD P t).map (fun z=>cond kp (z.map lU) z)=some z)(hd:∀ k,o.dst=some k->k<nt) :
  ∃ v' aF w',qM P a o w v' w'/\Out G base nt L gh w a s o.dst (.ref s.H.length 0) (s.dZ ⟨s.H++[.box t z],s.H.length⟩) v' aF w':=by
 obtain⟨i,zv,hi,L5,br⟩:=pF (gh:=gh) (n:=s.H.length) (w:=w) hz
 refine⟨_,_,_,.inl ?_,Out.bj hW hF hd (.alloc w (.cells zv.cells t)) br ?_⟩
 ·simp[execOp,ho,yW hi L5]
 ·exact aiO.2 fun x hx=>ry (J8 hz x hx)
theorem VY(hW:aG G base s.H gh w)(hF:FR L nt gh w a s){o:Oper}{t:TypeId}{x:Operand}{y:ak}{cs:List AV}(ho:o.op=.box t x)(hc:ah nt x=some y)(fq:(y.eval G s.T).drop.cells=some cs)
  (fg:cs.all (aR s.H.length)=true) (hd:∀ k,o.dst=some k->k<nt) :
  ∃ v' aF w',qM P a o w v' w'/\Out G base nt L gh w a s o.dst (.ref s.H.length 0) (s.dZ ⟨s.H++[.box t (cs.map AV.drop)],s.H.length⟩) v' aF w':=by
 have br:=(nf hW hF hc cs fq).dropped
 refine⟨_,_,_,.inl ?_,Out.bj hW hF hd (.alloc w (.cells (a.eval x).cells t)) br ?_⟩
 ·simp[execOp,ho,Instr.box,newVar,newRow]
 ·refine aiO.2 fun x hx=>?_
  obtain⟨y,hy,rfl⟩:=ai5.1 hx
  exact mz (aiO.1 fg y hy)
theorem IS(hW:aG G base s.H gh w)(hF:FR L nt gh w a s){o:Oper}{t:TypeId}{z:List AV}(ho:o.op=.alloc t){kp:Bool}(hz:(fD P t).map (fun z=>cond kp (z.map lU) z)=some z)(hd:∀ k,o.dst=some k->k<nt/\k∈L) :
  ∃ v' aF w',qM P a o w v' w'/\Out G base nt L gh w a s o.dst (.lbox s.gen z) { s with gen:=s.gen+1 } v' aF w':=by
 obtain⟨i,zv,hi,L5,br⟩:=pF (gh:=gh) (n:=s.H.length) (w:=w) hz
 have hp:=dv.alloc w (.cells zv.cells t)
 have cU:=qQ o.dst
 have st:=fO hW hp cU (fun _=>False) s.H.length
 have Cl:FR L nt (gh.alloc w.heap.size (DL o.dst) fun _=>False) (w.alloc (.cells zv.cells t)) a s:=hF.grown (H':=s.H) (lo':=s.lo) st (fun i=>⟨id,id,fun _=>id⟩) (aiK _)
 have j6:=hW.alloc hp cU (fun _=>False) (fun _ _ h=>h.elim)
 refine⟨.pointer (some ⟨w.heap.size,0,none⟩),_,_,.inl ?_,j6,Cl.OI (gen':=s.gen+1) (ajD _) (fun b hb=>j6.bw b hb) o.dst (fun k hk=>(hd k hk).1) (.inr ⟨⟨s.gen,aiK _,rfl⟩,fun k hk=>(hd k hk).2⟩) ?_,lf hW hp cU _ _⟩
 ·simp[execOp,ho,yW hi L5]
 ·intro k hk
  refine⟨akT _,w.heap.size,rfl,?_⟩
  rw[hk] at st ⊢
  refine⟨by simp[Gh.alloc,DL],?_,zv.cells,t,hp.new,akj br.1.symm,fun j v x hv hx=>?_⟩
  ·rintro o (ho|⟨_,ho⟩)
   ·have:=hW.l7 _ o ho;omega
   ·exact ho
  ·obtain⟨h1,h2⟩:=br.2 j v x hv hx
   exact⟨h2,.inl (h1.mono st (aiK _))⟩
theorem Qj(hW:aG G base s.H gh w)(hF:FR L nt gh w a s){o:Oper}{t:TypeId}{x:Operand}{y:ak}{cs:List AV}(ho:o.op=.box t x)(hc:ah nt x=some y)(fq:(y.eval G s.T).drop.cells=some cs)(hd:∀ k,o.dst=some k->k<nt/\k∈L) :
  ∃ v' aF w',qM P a o w v' w'/\Out G base nt L gh w a s o.dst (.lbox s.gen (cs.map AV.drop)) { s with gen:=s.gen+1 } v' aF w':=by
 have br:=(nf hW hF hc cs fq).dropped
 have hp:=dv.alloc w (.cells (a.eval x).cells t)
 have cU:=qQ o.dst
 have st:=fO hW hp cU (fun _=>False) s.H.length
 have Cl:FR L nt (gh.alloc w.heap.size (DL o.dst) fun _=>False) (w.alloc (.cells (a.eval x).cells t)) a s:=hF.grown (H':=s.H) (lo':=s.lo) st (fun i=>⟨id,id,fun _=>id⟩) (aiK _)
 have j6:=hW.alloc hp cU (fun _=>False) (fun _ _ h=>h.elim)
 refine⟨.pointer (some ⟨w.heap.size,0,none⟩),_,_,.inl ?_,j6,Cl.OI (gen':=s.gen+1) (ajD _) (fun b hb=>j6.bw b hb) o.dst (fun k hk=>(hd k hk).1) (.inr ⟨⟨s.gen,aiK _,rfl⟩,fun k hk=>(hd k hk).2⟩) ?_,lf hW hp cU _ _⟩
 ·simp[execOp,ho,Instr.box,newVar,newRow]
 ·intro k hk
  refine⟨akT _,w.heap.size,rfl,?_⟩
  rw[hk] at st ⊢
  refine⟨by simp[Gh.alloc,DL],?_,(a.eval x).cells,t,hp.new,akj br.1.symm,fun j v x hv hx=>?_⟩
  ·rintro o (ho|⟨_,ho⟩)
   ·have:=hW.l7 _ o ho;omega
   ·exact ho
  ·obtain⟨h1,h2⟩:=br.2 j v x hv hx
   exact⟨h2,.inl (h1.mono st (aiK _))⟩
theorem vo(hW:aG G base s.H gh w)(hF:FR L nt gh w a s){o:Oper}{t e:TypeId}{n sz:Nat}{parts:Array (Nat × Operand)}{z Z:List AV}{ps:List (Nat × Nat × ak)}
  (ho:o.op=.build t parts) {kp:Bool} (hz:(fD P t).map (fun z=>cond kp (z.map lU) z)=some z) (hu:P.underlying t=some (.array n e)) (hs:da P e=some sz) (hp:iK nt sz parts.toList=some ps)
  (he:cF z (ps.map fun p=>(p.1,p.2.1,(p.2.2.eval G s.T).drop))=some Z) :
  ∃ v,(execOp a.eval o).run P w=.ok (.value v) w/\ld gh s.H.length nt w s.T s.gen (dO a) v (.agg Z):=by
 obtain⟨i,zv,hi,L5,br⟩:=pF (gh:=gh) (n:=s.H.length) (w:=w) hz
 obtain⟨ie,Zx,LN⟩:=kX hs
 have inv:∀ (l:List (Nat × Operand)) (ps:List (Nat × Nat × ak)),iK nt sz l=some ps->l.length=ps.length /\
   ∀ (j:Nat) (p:Nat × Operand) (q:Nat × Nat × ak),l[j]?=some p->ps[j]?=some q->q.1=p.1*sz/\q.2.1=sz/\ah nt p.2=some q.2.2:=by
  intro l
  induction l with
  | nil=>intro ps h;simp[iK] at h;subst h;exact⟨rfl,fun j p q h=>by simp at h⟩
  | cons p l ih =>
   intro ps h
   obtain⟨k,x⟩:=p
   simp only[iK,aiF,aiE] at h
   obtain⟨y,hy,rest,hr,rfl⟩:=h
   obtain⟨h1,h2⟩:=ih rest hr
   refine⟨by simp[h1],fun j p q hp hq=>?_⟩
   cases j with
   | zero=>simp at hp hq;subst hp hq;exact⟨rfl,rfl,hy⟩
   | succ j=>exact h2 j p q (by simpa using hp) (by simpa using hq)
 obtain⟨hl,hinv⟩:=inv _ _ hp
 obtain⟨C',hf,rB⟩:=vp (gh:=gh) (w:=w) (n:=s.H.length) (place:=fun i=>some (i*ie.size,ie.size)) ((parts.map fun p=>(p.1,a.eval p.2)).toList) (ps.map fun p=>(p.1,p.2.1,(p.2.2.eval G s.T).drop)) zv.cells z Z br he (by simpa using hl) (by
  intro j p q hp hq
  simp only[ak6,aiW,aiE] at hp hq
  obtain⟨p0,LW,rfl⟩:=hp
  obtain⟨q0,hq0,rfl⟩:=hq
  obtain⟨h1,h2,hc⟩:=hinv j p0 q0 LW hq0
  exact⟨by simp[h1,h2,LN],nf hW hF hc⟩)
 have hb:P.built t (parts.map fun p=>(p.1,a.eval p.2)).toList=some C':=by
  unfold Program.built
  rw[hi,hu]
  simp only[L5,Zx]
  exact hf
 refine⟨.agg C',by simp[execOp,ho,run_build w t _ C' hb],.cD (.agg _ _ rB.1 (fun j v hj=>?_) (fun j v x hv hx=>(rB.2 j v x hv hx).1))⟩
 have a7:j<Z.length:=by rw[<- rB.1];exact (aiN.1 hj).1
 exact (rB.2 j v _ hj (aiJ a7)).2
theorem J9{t:TypeId}{z:List AV}{zv:Value}{sz len:Nat}(br:nr gh H.length w zv.cells z)(fg:∀ x,x∈z->x.drop.plain=true)(hz:z.length=sz)(xA:0<sz) :
  fW gh.S w sz ((Array.range (len*sz)).map (zv.cells[· % zv.cells.size]!)) (List.replicate len (z.map AV.drop)):=by
 have fC:zv.cells.size=sz:=by rw[br.1,hz]
 refine⟨by simp,fun i r hi=>?_,fun i j r x hi hj=>?_⟩
 ·rw[ak3] at hi
  split at hi
  ·injection hi with hi;subst hi;simpa using hz
  ·cases hi
 ·rw[ak3] at hi
  split at hi
  ·rename_i a7
   injection hi with hi;subst hi
   simp only[aiW,aiE] at hj
   obtain⟨y,hy,rfl⟩:=hj
   have hj:j<sz:=by rw[<- hz];exact (aiI.1 hy).1
   have rZ:j<zv.cells.size:=by omega
   have WE:(i*sz+j) % zv.cells.size=j:=by rw[fC,Nat.mul_add_mod',Nat.mod_eq_of_lt hj]
   refine⟨zv.cells[j],?_,?_⟩
   ·have LQ:i*sz+j<len*sz:=qC a7 hj
    rw[Array.getElem?_map,aiS (by simpa using LQ)]
    simp only[Array.getElem_range,aiV,WE]
    congr 1
    exact getElem!_pos zv.cells j rZ
   ·have hv:zv.cells[j]?=some zv.cells[j]:=aiS rZ
    exact (VR.dropped (br.2 j _ y hv hy).1).iX (fg y (aiT hy))
  ·cases hi
theorem o4{k n sz:Nat}(h:k<n*sz):k / sz<n/\k % sz<sz/\k / sz*sz+k % sz=k:=by
 have fC:0<sz:=by
  rcases Nat.eq_zero_or_pos sz with h0|h0
  ·subst h0;simp at h
  ·exact h0
 refine⟨Nat.div_lt_of_lt_mul (by rw[ak1];exact h),Nat.mod_lt _ fC,?_⟩
 have:=Nat.div_add_mod k sz
 rw[ak1] at this
 exact this
theorem l6{S:Nat->Nat->Prop}{sz:Nat}{A:Array Value}{E:List (List AV)}{isB:Bool}{ty:TypeId}(h:fW S w sz A E)(pn:ji isB E=true)(hB:isB=true->ty=fP){k:Nat}{m:Int}(hk:k<E.length*sz)
  (hc:A[k]?=some (.int .u8 m)):ty=fP:=by
 cases isB with
 | true=>exact hB rfl
 | false =>
  exfalso
  obtain⟨h1,h2,h3⟩:=o4 hk
  have hr:=aiJ h1
  obtain⟨x,hx⟩:∃ x,E[k / sz][k % sz]?=some x:=⟨_,aiJ (show k % sz<E[k / sz].length by rw[h.2.1 _ _ hr];exact h2)⟩
  obtain⟨v,hv,hp⟩:=h.2.2 _ _ _ _ hr hx
  rw[h3,hc] at hv
  injection hv with hv
  subst hv
  have hn:gd E=true:=pn
  have h4:=aiO.1 (aiO.1 hn _ (aiT hr)) _ (aiT hx)
  cases hp<;>simp at h4
theorem tV(hW:aG G base s.H gh w)(hF:FR L nt gh w a s){t e:TypeId}{len sz:Nat}{parts:Array (Nat × Operand)}{z:List AV}{E:List (List AV)}{ps:List (Nat × ak)}
  (hu:P.underlying t=some (.slice e)) (hs:da P e=some sz) (hz:fD P e=some z) (hp:jo nt parts.toList=some ps) (Ad:len*sz<=16777216) (Q3:z.length=sz) (xA:0<sz)
  (he:bL sz (List.replicate len (z.map AV.drop)) (ps.map fun p=>(p.1,(p.2.eval G s.T).drop))=some E) :
  ∃ C',(Instr.buildSlice t len (parts.map fun p=>(p.1,a.eval p.2))).run P w=.ok (.slice (some ⟨w.heap.size,0,none⟩) len len) (w.alloc (.cells C' e))/\fW gh.S w sz C' E/\E.length=len:=by
 obtain⟨i,zv,hi,L5,br⟩:=DI (gh:=gh) (n:=s.H.length) (w:=w) hz
 obtain⟨ie,Zx,LN⟩:=kX hs
 rw[hi] at Zx;injection Zx with Zx;subst Zx
 have inv:∀ (l:List (Nat × Operand)) (ps:List (Nat × ak)),jo nt l=some ps->l.length=ps.length /\
   ∀ (j:Nat) (p:Nat × Operand) (q:Nat × ak),l[j]?=some p->ps[j]?=some q->q.1=p.1/\ah nt p.2=some q.2:=by
  intro l
  induction l with
  | nil=>intro ps h;simp[jo] at h;subst h;exact⟨rfl,fun j p q h=>by simp at h⟩
  | cons p l ih =>
   intro ps h
   obtain⟨k,x⟩:=p
   simp only[jo,aiF,aiE] at h
   obtain⟨y,hy,rest,hr,rfl⟩:=h
   obtain⟨h1,h2⟩:=ih rest hr
   refine⟨by simp[h1],fun j p q hp hq=>?_⟩
   cases j with
   | zero=>simp at hp hq;subst hp hq;exact⟨rfl,hy⟩
   | succ j=>exact h2 j p q (by simpa using hp) (by simpa using hq)
 obtain⟨hl,hinv⟩:=inv _ _ hp
 obtain⟨C',hf,cy⟩:=yg (w:=w) (S:=gh.S) (sz:=sz) ((parts.map fun p=>(p.1,a.eval p.2)).toList) (ps.map fun p=>(p.1,(p.2.eval G s.T).drop)) _ _ E (J9 (t:=e) (len:=len) br (tv hz) Q3 xA) he (by simpa using hl) (by
  intro j p q hp hq
  simp only[ak6,aiW,aiE] at hp hq
  obtain⟨p0,LW,rfl⟩:=hp
  obtain⟨q0,hq0,rfl⟩:=hq
  obtain⟨h1,hc⟩:=hinv j p0 q0 LW hq0
  exact⟨h1.symm,fun cs fq=>K6 (nf hW hF hc) fq⟩)
 have tO:E.length=len:=by
  have:∀ (ip:List (Nat × AV)) (es E:List (List AV)),bL sz es ip=some E->E.length=es.length:=by
   intro ip
   induction ip with
   | nil=>intro es E h;simp[bL] at h;rw[h]
   | cons q ip ih =>
    intro es E h
    obtain⟨i,v⟩:=q
    simp only[bL] at h
    split at h
    ·cases h
    ·obtain⟨_,h⟩:=ab h
     rw[ih _ _ h];simp
  rw[this _ _ _ he];simp
 have cm:(Instr.buildSlice t len (parts.map fun p=>(p.1,a.eval p.2))).run P w=.ok (.slice (some ⟨w.heap.size,0,none⟩) len len) (w.alloc (.cells C' e)):=by
  by_cases h0:len*sz=0
  ·have aaM:len=0:=by rcases Nat.mul_eq_zero.1 h0 with h|h<;>omega
   subst aaM
   have hE:ps=[]:=by
    cases hps:ps with
    | nil=>rfl
    | cons q r =>
     rw[hps] at he
     simp only[aiU,bL,List.replicate_zero,aiR] at he
     split at he
     ·cases he
     ·obtain⟨h,_⟩:=ab he
      simp[ajb] at h
   have ux:parts.toList=[]:=by
    have:parts.toList.length=0:=by rw[hl,hE];rfl
    exact akv.1 this
   have hpa:parts=#[]:=by simpa using ux
   subst hpa
   have F9:Array.range 0=#[]:=rfl
   have I' : C'=#[]:=by simpa [Instr.fill,F9] using hf.symm
   subst I'
   simp[Instr.buildSlice,run_underlying hu,sizeOf,typeInfo,hi,Instr.fill,newRow,F9]
  ·exact run_buildSlice w t e len _ C' i zv hu hi L5 (by rw[LN];omega) (by rw[LN];exact h0) (by rw[LN];exact hf)
 exact⟨C',cm,cy,tO⟩
theorem FJ(hW:aG G base s.H gh w)(hF:FR L nt gh w a s){o:Oper}{t e:TypeId}{len sz:Nat}{parts:Array (Nat × Operand)}{z:List AV}{E:List (List AV)}{ps:List (Nat × ak)}{isB:Bool}
  (ho:o.op=.buildSlice t len parts) (hu:P.underlying t=some (.slice e)) (hs:da P e=some sz) (hz:fD P e=some z) (hp:jo nt parts.toList=some ps)
  (pn:ji isB E=true) (LO:isB=true->e=fP) (Ad:len*sz<=16777216) (Q3:z.length=sz) (xA:0<sz)
  (he:bL sz (List.replicate len (z.map AV.drop)) (ps.map fun p=>(p.1,(p.2.eval G s.T).drop))=some E) (hd:∀ k,o.dst=some k->k<nt) :
  ∃ v' aF w',qM P a o w v' w'/\Out G base nt L gh w a s o.dst (.slice E true) s v' aF w':=by
 obtain⟨C',cm,cy,tO⟩:=tV (P:=P) hW hF hu hs hz hp Ad Q3 xA he
 have kW:=dv.alloc w (.cells C' e)
 have cU:=mo o.dst
 have DN:=cy.slice (gh:=gh) rfl kW (p:=Kl o.dst) hW.l7 (fun j _=>rfl) (q:=fun _=>True) (fun _ _=>trivial) E.length (aiK _)
 have hv:VR (gh.alloc w.heap.size (Kl o.dst) fun _=>True) s.H.length (w.alloc (.cells C' e)) (.slice (some ⟨w.heap.size,0,none⟩) E.length E.length) (.slice E true):=.full _ _ _ DN (fun ad ha _=>by injection ha with ha;subst ha;simp)
 rw[tO] at hv
 have st:=fO hW kW cU (fun _=>True) s.H.length
 have Cl:FR L nt (gh.alloc w.heap.size (Kl o.dst) fun _=>True) (w.alloc (.cells C' e)) a s:=hF.grown (H':=s.H) (lo':=s.lo) st (fun i=>⟨id,id,fun _=>id⟩) (aiK _)
 have j6:=hW.alloc kW cU (fun _=>True) (fun k m _ hc=>by
  rw[cell_of_row _ _ k _ _ _ kW.new] at hc
  have hk:k<E.length*sz:=by rw[<- cy.1];exact (aiN.1 hc).1
  have:=l6 cy pn LO hk hc
  subst this
  exact⟨C',(0,0),kW.new⟩)
 refine⟨.slice (some ⟨w.heap.size,0,none⟩) len len,_,_,.inl ?_,j6,Cl.OI (gen':=s.gen) (aiK _) (fun b hb=>j6.bw b hb) o.dst hd (.inl rfl) (fun k hk=>?_),lf hW kW cU _ _⟩
 ·have:(parts.map fun x=>(x.1,a.eval x.2))=parts.map fun p=>(p.1,a.eval p.2):=rfl
  simp[execOp,ho,cm]
 ·exact Pt (.inl hv)
end
end
end Go.Abs
