/-
  A part of the proof of SyntaxTokens: AbsOps2, AbsOps3, AbsOps4, AbsOps5, AbsOps6, AbsStep, AbsOps7, AbsOps8.
-/
import Derived.Great.BuildSlice
import Derived.Test.YtbdhkgiakaegdaaGreatDoorP01
set_option linter.unusedSimpArgs false
set_option linter.unusedVariables false
set_option linter.defProp false
namespace Go.Abs
section
section
variable {P:Program}{G:Nat->List AV}{base nt:Nat}{L:List Nat}{gh:Gh}{w:World}{a:Act}{s:AS}
theorem zw(hF:FR L nt gh w a s){v:Value}{z:AV}(hv:mP gh s.H.length nt w s.T s.gen (gv a) v z)(hl:aQ s z=true) :
  ∃ b o,v=.pointer (some ⟨b,o,none⟩):=by
 cases z<;>simp only[aQ,apo] at hl
 case eptr cs =>
  have hp:=VR.uT (hv:VR gh s.H.length w v (.eptr cs))
  cases hp;exact⟨_,_,rfl⟩
 case ref loc off=>exact⟨_,_,(VR.lV (hv:VR gh s.H.length w v (.ref loc off))).2⟩
 case lref b g off =>
  obtain⟨hb,hg,hr⟩:=(hv:_/\_/\_)
  split at hl
  ·rename_i g' cs hT
   have D4:g=g':=by simpa [gI] using hl
   obtain⟨k,hk,_⟩:=vj hF hb hT
   exact⟨_,_,hr (by rw[hT,D4];rfl) k hk⟩
  ·cases hl
 case eref b g i zz off =>
  obtain⟨hb,hg,hr⟩:=(hv:_/\_/\_)
  split at hl
  ·rename_i g' e hT
   obtain⟨h1,h2⟩:=by simpa [gI,aoE] using hl
   obtain⟨ad,cap,tW,cb⟩:=nH hF hb hT
   rcases cb with ⟨rfl,_⟩|⟨k,_,_,_,_,rfl,_⟩
   ·simp at h2
   ·exact⟨_,_,hr (by rw[hT,h1];rfl) k _ _ tW⟩
  ·cases hl
theorem Gl(hW:bc G base s.H gh w)(hF:FR L nt gh w a s){o:Oper}{x:Operand}{y:aC}(ho:o.op=.nilCheck x)(hc:au nt x=some y)(hl:aQ s (y.addr G s.T)=true) :
  ∃ v,(execOp a.eval o).run P w=.ok (.value v) w/\mP gh s.H.length nt w s.T s.gen (gv a) v (y.addr G s.T):=by
 have hv:=arg_val hW hF hc
 have hd:(y.addr G s.T).drop=y.addr G s.T:=by cases hz:y.addr G s.T<;>rw[hz] at hl<;>first|rfl|(simp[aQ] at hl)
 rw[hd] at hv
 obtain⟨b,of,hp⟩:=zw hF hv hl
 refine⟨a.eval x,?_,hv⟩
 simp[execOp,ho,hp]
theorem LD(hF:FR L nt gh w a s){v:Value}{z z' : AV}(hv:mP gh s.H.length nt w s.T s.gen (gv a) v z)(hl:aQ s z=true){off:Nat}(ho:bF off z=some z') :
  ∃ b o,v=.pointer (some ⟨b,o,none⟩)/\mP gh s.H.length nt w s.T s.gen (gv a) (.pointer (some ⟨b,o+off,none⟩)) z':=by
 cases z<;>simp only[bF,anV,reduceCtorEq] at ho<;>subst ho
 case eptr cs =>
  have hp:=VR.uT (hv:VR gh s.H.length w v (.eptr cs))
  cases hp with
  | eptr b o _ f dw de =>
   refine⟨b,o,rfl,.dO (.plain _ _ (.eptr b (o+off) _ (fun j=>f (off+j)) ?_ ?_))⟩
   ·intro j x hx
    rw[aoS] at hx
    have:=dw (off+j) x hx
    rw[apR]
    exact this
   ·intro j x hx
    rw[aoS] at hx
    exact de (off+j) x hx
 case ref loc of =>
  obtain⟨bA,rfl⟩:=VR.lV (hv:VR gh s.H.length w v (.ref loc of))
  exact⟨_,_,rfl,.dO (.ref loc (of+off) bA)⟩
 case lref b g of =>
  obtain⟨k,o,rfl⟩:=zw hF hv hl
  obtain⟨hb,hg,hr⟩:=(hv:_/\_/\_)
  refine⟨k,o,rfl,hb,hg,fun h1 b' h2=>?_⟩
  have:=hr h1 b' h2
  injection this with this;injection this with this;injection this with e1 e2
  rw[e1,e2]
 case eref b g i zz of =>
  obtain⟨k,o,rfl⟩:=zw hF hv hl
  obtain⟨hb,hg,hr⟩:=(hv:_/\_/\_)
  refine⟨k,o,rfl,hb,hg,fun h1 b' c1 c2 h2=>?_⟩
  have:=hr h1 b' c1 c2 h2
  injection this with this;injection this with this;injection this with e1 e2
  rw[e1,e2,apR]
theorem BL{z:AV}(hl:aQ s z=true):z.drop=z:=by cases z<;>first|rfl|(simp[aQ] at hl)
theorem CW(hW:bc G base s.H gh w)(hF:FR L nt gh w a s){o:Oper}{t:TypeId}{x:Operand}{f:Nat}{y:aC}{fs:Array Go.Field}{q:Go.Field}{sz:Nat}{z:AV}
  (ho:o.op=.fieldAddr t x f) (hc:au nt x=some y) (hu:P.underlying t=some (.struct fs)) (hq:fs[f]?=some q) (hs:fz P q.type=some sz) (h0:0<sz)
  (hl:aQ s (y.addr G s.T)=true) (he:bF q.offset (y.addr G s.T)=some z) :
  ∃ v,(execOp a.eval o).run P w=.ok (.value v) w/\mP gh s.H.length nt w s.T s.gen (gv a) v z:=by
 have hv:=arg_val hW hF hc
 rw[BL hl] at hv
 obtain⟨b,of,hp,tW⟩:=LD hF hv hl he
 refine⟨_,?_,tW⟩
 have ff:¬ sz=0:=by omega
 simp[execOp,ho,hp,Instr.fieldAt,run_underlying hu,hq,Instr.sureAddr,fieldPlace,fy hs,ff,addr_add]
theorem Pc(hW:bc G base s.H gh w)(hF:FR L nt gh w a s){o:Oper}{t e:TypeId}{x i:Operand}{n sz k:Nat}{y yi:aC}{z:AV}
  (ho:o.op=.indexAddr t x i) (hc:au nt x=some y) (hi:au nt i=some yi) (hu:P.underlying t=some (.array n e)) (hs:fz P e=some sz)
  (hk:asNat (yi.eval G s.T)=some k) (hkn:k<n) (hl:aQ s (y.addr G s.T)=true) (he:bF (k*sz) (y.addr G s.T)=some z) :
  ∃ v,(execOp a.eval o).run P w=.ok (.value v) w/\mP gh s.H.length nt w s.T s.gen (gv a) v z:=by
 have hv:=arg_val hW hF hc
 rw[BL hl] at hv
 obtain⟨b,of,hp,tW⟩:=LD hF hv hl he
 obtain⟨kd,MV⟩:=kJ hW hF hi hk
 refine⟨_,?_,tW⟩
 have h1:k<n:=hkn
 simp[execOp,ho,hp,MV,Instr.indexAt,asIntOf,run_underlying hu,Instr.sureAddr,fy hs,h1,addr_add]
theorem TO(hW:bc G base s.H gh w)(hF:FR L nt gh w a s){o:Oper}{t e:TypeId}{x i:Operand}{sz k:Nat}{y yi:aC}{el:List (List AV)}{own:Bool}{r:List AV}
  (ho:o.op=.indexAddr t x i) (hc:au nt x=some y) (hi:au nt i=some yi) (hu:P.underlying t=some (.slice e)) (hs:fz P e=some sz)
  (hk:asNat (yi.eval G s.T)=some k) (hy:y.addr G s.T=.slice el own) (hr:el[k]?=some r) (Ih:r.length=sz) :
  ∃ v,(execOp a.eval o).run P w=.ok (.value v) w/\mP gh s.H.length nt w s.T s.gen (gv a) v (.eptr r):=by
 have hv:=VR.iU (nV hW hF hc hy rfl)
 obtain⟨kd,MV⟩:=kJ hW hF hi hk
 generalize hA:a.eval x=V at hv
 cases hv with
 | dM=>simp at hr
 | slice b of n cap jC _ f hn j4 cb dw de =>
  have og:k<el.length:=(an2.1 hr).1
  have iF:jC=sz:=by rw[<- Ih,cb k r hr]
  subst iF
  refine⟨.pointer (some ⟨b,of+k*jC,none⟩),?_,.dO (.plain _ _ (.eptr b (of+k*jC) r (f k) (fun j x hx=>dw k j r x hr hx) (fun j x hx=>de k j r x hr hx)))⟩
  have h1:k<n:=by omega
  simp[execOp,ho,hA,MV,Instr.indexAt,asIntOf,run_underlying hu,fy hs,h1,addr_add]
theorem MC(hW:bc G base s.H gh w)(hF:FR L nt gh w a s){o:Oper}{t e:TypeId}{x i:Operand}{sz k l of m zz:Nat}{y yi:aC}
  (ho:o.op=.indexAddr t x i) (hc:au nt x=some y) (hi:au nt i=some yi) (hu:P.underlying t=some (.slice e)) (hs:fz P e=some sz)
  (hk:asNat (yi.eval G s.T)=some k) (hy:y.addr G s.T=.sref l of m zz) (hkm:k<m) :
  ∃ v,(execOp a.eval o).run P w=.ok (.value v) w/\mP gh s.H.length nt w s.T s.gen (gv a) v (.ref l (of+k*sz)):=by
 obtain⟨bA,cap,_,_,hA⟩:=VR.jN (nV hW hF hc hy rfl)
 obtain⟨kd,MV⟩:=kJ hW hF hi hk
 refine⟨.pointer (some ⟨gh.ρ l,of+k*sz,none⟩),?_,.dO (.ref l (of+k*sz) bA)⟩
 simp[execOp,ho,hA,MV,Instr.indexAt,asIntOf,run_underlying hu,fy hs,hkm,addr_add]
theorem Pd(hW:bc G base s.H gh w)(hF:FR L nt gh w a s){o:Oper}{t e:TypeId}{x i:Operand}{sz k b g:Nat}{y yi:aC}{el:List (List AV)}{r:List AV}
  (ho:o.op=.indexAddr t x i) (hc:au nt x=some y) (hi:au nt i=some yi) (hu:P.underlying t=some (.slice e)) (hs:fz P e=some sz)
  (hk:asNat (yi.eval G s.T)=some k) (hy:y.addr G s.T=.lsr b g) (hT:s.T b=.lsl g el) (hr:el[k]?=some r) (Ih:r.length=sz) :
  ∃ v,(execOp a.eval o).run P w=.ok (.value v) w/\mP gh s.H.length nt w s.T s.gen (gv a) v (.eref b g k sz 0):=by
 have hv:=arg_val hW hF hc
 rw[hy] at hv
 obtain⟨hb,hg,hrr⟩:=(hv:_/\_/\_)
 obtain⟨kd,MV⟩:=kJ hW hF hi hk
 have qh:=hrr (by rw[hT];rfl)
 have og:k<el.length:=(an2.1 hr).1
 obtain⟨ad,cap,tW,cb⟩:=nH hF hb hT
 rcases cb with ⟨rfl,_⟩|⟨c,C,ty,jC,_,rfl,hκ,hS,N5,hC,hl,hrw,ia⟩
 ·simp at hr
 ·have h1:k<el.length:=og
  refine⟨.pointer (some ⟨c,k*sz,none⟩),?_,hb,hg,fun _ b' c1 c2 h2=>?_⟩
  ·simp[execOp,ho,qh,tW,MV,Instr.indexAt,asIntOf,run_underlying hu,fy hs,h1,addr_add]
  ·rw[tW] at h2
   injection h2 with h2 _ _
   injection h2 with h2
   injection h2 with h2
   subst h2;simp
theorem TU(hW:bc G base s.H gh w)(hF:FR L nt gh w a s){o:Oper}{c x y:Operand}{ic ix iy:aC}{t:Bool}
  (ho:o.op=.pick c x y) (hc:au nt c=some ic) (hx:au nt x=some ix) (hy:au nt y=some iy) (ht:ic.eval G s.T=.bool t) :
  ∃ v,(execOp a.eval o).run P w=.ok (.value v) w/\mP gh s.H.length nt w s.T s.gen (gv a) v (cond t (ix.addr G s.T).drop (iy.addr G s.T).drop):=by
 have hb:=(cY hW hF hc ht rfl).jM
 have h1:=arg_val hW hF hx
 have h2:=arg_val hW hF hy
 cases t
 ·exact⟨_,by simp[execOp,ho,hb,asBool],h2⟩
 ·exact⟨_,by simp[execOp,ho,hb,asBool],h1⟩
theorem aeg(hW:bc G base s.H gh w)(hF:FR L nt gh w a s){o:Oper}{op:UnOp}{t:TypeId}{x:Operand}{ix:aC}{z:AV}
  (ho:o.op=.unOp op t x) (hc:au nt x=some ix) (he:gk op (ix.eval G s.T)=some z) :
  ∃ v,(execOp a.eval o).run P w=.ok (.value v) w/\mP gh s.H.length nt w s.T s.gen (gv a) v z:=by
 generalize hz:ix.eval G s.T=X at he
 unfold gk at he
 split at he<;>first|(injection he with he;subst he)|cases he
 ·have hv:=(cY hW hF hc hz rfl).ju
  exact⟨_,by simp[execOp,ho,hv,Op.unary,Op.intArith],.dO (.plain _ _ (.int _ _))⟩
 ·have hv:=(cY hW hF hc hz rfl).jM
  exact⟨_,by simp[execOp,ho,hv,Op.unary],.dO (.plain _ _ (.bool _))⟩
theorem Ph(hW:bc G base s.H gh w)(hF:FR L nt gh w a s){o:Oper}{st dt:TypeId}{x:Operand}{ix:aC}{k k' : IntKind}{z:AV}
  (ho:o.op=.convert st dt x) (hc:au nt x=some ix) (hs:P.underlying st=some (.int k')) (hd:P.underlying dt=some (.int k)) (he:cm (.toInt k) (ix.eval G s.T)=some z) :
  ∃ v,(execOp a.eval o).run P w=.ok (.value v) w/\mP gh s.H.length nt w s.T s.gen (gv a) v z:=by
 generalize hz:ix.eval G s.T=X at he
 cases X<;>simp[cm] at he
 subst he
 have hv:=(cY hW hF hc hz rfl).ju
 exact⟨_,by simp[execOp,ho,hv,convert,run_underlying hs,run_underlying hd,Conv.intToInt],.dO (.plain _ _ (.int _ _))⟩
theorem Jh(hW:bc G base s.H gh w)(hF:FR L nt gh w a s){o:Oper}{st dt:TypeId}{x:Operand}{ix:aC}{z:AV}
  (ho:o.op=.convert st dt x) (hc:au nt x=some ix) (hs:P.underlying st=some .string) (hd:P.underlying dt=some .string) (he:cm .DU (ix.eval G s.T)=some z) :
  ∃ v,(execOp a.eval o).run P w=.ok (.value v) w/\mP gh s.H.length nt w s.T s.gen (gv a) v z:=by
 generalize hz:ix.eval G s.T=X at he
 cases X<;>simp[cm] at he
 subst he
 obtain⟨b,hv,hl⟩:=(cY hW hF hc hz rfl).jv
 exact⟨_,by simp[execOp,ho,hv,convert,run_underlying hs,run_underlying hd],.dO (.plain _ _ (.str _ _ hl))⟩
theorem foldl_push(ns:List Int):∀ s:ByteArray,(ns.foldl (fun r n=>r.push (UInt8.ofNat n.toNat)) s).data.toList=s.data.toList++ns.map fun n=>UInt8.ofNat n.toNat:=by
 induction ns with
 | nil=>intro s;simp
 | cons n ns ih=>intro s;rw[aqx,ih];simp[ByteArray.push]
theorem wE:∀ {e:List (List AV)} {l:List UInt8},bytesOf e=some l->∃ ns:List Int,e=ns.map (fun n=>[AV.int .u8 n])/\l=ns.map fun n=>UInt8.ofNat n.toNat
 | [],l,h=>by simp[bytesOf] at h;exact⟨[],rfl,by simp[h]⟩
 | r :: e,l,h=>by
  unfold bytesOf at h
  split at h
  ·rename_i hh;cases hh
  ·rename_i n r' heq
   injection heq with h1 h2
   subst h1 h2
   simp only[anT] at h
   obtain⟨l',Ak,rfl⟩:=h
   obtain⟨ns,rfl,rfl⟩:=wE Ak
   exact⟨n :: ns,rfl,rfl⟩
  ·cases h
theorem ND{n0:Nat}{V:Value}{ns:List Int}(hv:PR gh.S w V (.slice (ns.map fun n=>[AV.int .u8 n]) false)) :
  ∃ q:ByteArray,(Conv.bytesToString V).run P w=.ok (.string q) w/\q.data.toList=ns.map (fun n=>UInt8.ofNat n.toNat)/\∃ b c d,V=.slice b c d:=by
 generalize hE:(ns.map fun n=>[AV.int .u8 n])=E at hv
 cases hv with
 | dM =>
  have:ns=[]:=by simpa using hE
  subst this
  exact⟨ByteArray.empty,by simp[Conv.bytesToString],rfl,_,_,_,rfl⟩
 | slice b of n cap jC _ f hn j4 cb dw de =>
  subst hE
  have hlen:n=ns.length:=by rw[<- hn];simp
  have aeV:(loadCells ⟨b,of,none⟩ n).run P w=.ok (ns.map (Value.int .u8)).toArray w:=by
   have:=run_loadCells_list (P:=P) w ⟨b,of,none⟩ (ns.map (Value.int .u8)) (fun j v hj=>by
    simp only[aol,anT] at hj
    obtain⟨m,hm,rfl⟩:=hj
    have hr:(ns.map fun n=>[AV.int .u8 n])[j]?=some [AV.int .u8 m]:=by simp[hm]
    have AQ:jC=1:=by rw[<- cb j _ hr];rfl
    subst AQ
    obtain⟨_,h1,_⟩:=dw j 0 _ _ hr rfl
    have h2:=de j 0 _ _ hr rfl
    have h3:f j 0=.int .u8 m:=by generalize f j 0=F at h2;cases h2;rfl
    rw[addr_add,<- h3,<- h1];simp)
   rw[aoI,<- hlen] at this
   exact this
  refine⟨_,run_bytesToString w _ n cap ns aeV,?_,_,_,_,rfl⟩
  rw[foldl_push];simp[ByteArray.empty,ByteArray.emptyWithCapacity];rfl
theorem Gi(hW:bc G base s.H gh w)(hF:FR L nt gh w a s){o:Oper}{st dt e:TypeId}{x:Operand}{ix:aC}{z:AV}
  (ho:o.op=.convert st dt x) (hc:au nt x=some ix) (hs:P.underlying st=some (.slice e)) (hE:P.underlying e=some (.int .u8)) (hd:P.underlying dt=some .string) (he:cm .qz (ix.eval G s.T)=some z) :
  ∃ v,(execOp a.eval o).run P w=.ok (.value v) w/\mP gh s.H.length nt w s.T s.gen (gv a) v z:=by
 generalize hz:ix.eval G s.T=X at he
 cases X<;>simp only[cm,reduceCtorEq,anT] at he
 obtain⟨l,hl,rfl⟩:=he
 obtain⟨ns,rfl,rfl⟩:=wE hl
 have hv:=VR.iU (cY hW hF hc hz rfl)
 obtain⟨q,h1,h2,b,c,d,hV⟩:=ND (P:=P) (n0:=0) hv
 refine⟨.string q,?_,.dO (.plain _ _ (.str _ _ h2))⟩
 have h3:(convert st dt (a.eval x)).run P w=.ok (.string q) w:=by rw[hV] at h1 ⊢;rw[run_convert_bytes_string w st dt e b c d hs hE hd,h1]
 simp[execOp,ho,h3]
end
end
section
section
variable {P:Program}{G:Nat->List AV}{base nt:Nat}{L:List Nat}{gh:Gh}{w:World}{a:Act}{s:AS}
theorem RV{n:Nat}{agg:Bool}{sz off:Nat}{xs:List AV}{z:AV}(hl:ab false agg sz off xs=some z){t:TypeId}(hg:lW P t=some agg)(hs:fz P t=some sz)
  {cs:Array Value} (iF:cs.size=xs.length) (gT:∀ (j:Nat) (v:Value),cs[j]?=some v->v.oneCell'=true)
  (h:∀ (j:Nat) (v:Value) (x:AV),cs[j]?=some v->xs[j]?=some x->VR gh n w v x) :
  ∃ v,(part t cs off).run P w=.ok v w/\VR gh n w v z:=by
 unfold ab at hl
 cases agg
 ·simp only[anZ,anT] at hl
  obtain⟨x,hx,rfl⟩:=hl
  have hj:off<cs.size:=by rw[iF];exact (an2.1 hx).1
  have hv:cs[off]?=some cs[off]:=aok hj
  exact⟨cs[off],by simp[part,iN hg,hv],VR.dropped (h off _ x hv hx)⟩
 ·simp only[cond_true] at hl
  obtain⟨h0,h1⟩:=ag hl
  have Ud:off+sz<=xs.length:=by simpa [aoU] using h0
  injection h1 with h1
  subst h1
  refine⟨.agg (cs.extract off (off+sz)),by simp[part,iN hg,fy hs],.agg _ _ (by simp;omega) ?_ ?_⟩
  ·intro j v hj
   rw[aqn] at hj
   split at hj
   ·exact gT _ v hj
   ·cases hj
  ·intro j v x hj hx
   rw[aqn] at hj
   split at hj
   ·rename_i bA
    simp only[aol,anT] at hx
    obtain⟨y,hy,rfl⟩:=hx
    rw[aov,aoS] at hy
    split at hy
    ·exact VR.dropped (h _ v y hj hy)
    ·cases hy
   ·cases hj
theorem Pb(hW:bc G base s.H gh w)(hF:FR L nt gh w a s){o:Oper}{t e:TypeId}{x i:Operand}{n sz k:Nat}{ix ii:aC}{agg:Bool}{xs:List AV}{z:AV}
  (ho:o.op=.index t x i) (hc:au nt x=some ix) (hi:au nt i=some ii) (hu:P.underlying t=some (.array n e)) (hs:fz P e=some sz) (hg:lW P e=some agg)
  (hk:asNat (ii.eval G s.T)=some k) (hkn:k<n) (hz:ix.eval G s.T=.agg xs) (he:ab false agg sz (k*sz) xs=some z) :
  ∃ v,(execOp a.eval o).run P w=.ok (.value v) w/\mP gh s.H.length nt w s.T s.gen (gv a) v z:=by
 obtain⟨cs,hA,iF,gT,h⟩:=(cY hW hF hc hz rfl).ku
 obtain⟨kd,MV⟩:=kJ hW hF hi hk
 obtain⟨v,h1,h2⟩:=RV he hg hs iF gT h
 exact⟨v,by simp[execOp,ho,hA,MV,Instr.index,asIntOf,run_underlying hu,fy hs,hkn,h1],.dO h2⟩
theorem Gj(hW:bc G base s.H gh w)(hF:FR L nt gh w a s){o:Oper}{t:TypeId}{x i:Operand}{k:Nat}{ix ii:aC}{l:List UInt8}{b:UInt8}
  (ho:o.op=.index t x i) (hc:au nt x=some ix) (hi:au nt i=some ii) (hu:P.underlying t=some .string)
  (hk:asNat (ii.eval G s.T)=some k) (hz:ix.eval G s.T=.str l) (hb:l[k]?=some b) :
  ∃ v,(execOp a.eval o).run P w=.ok (.value v) w/\mP gh s.H.length nt w s.T s.gen (gv a) v (.int .u8 b.toNat):=by
 obtain⟨q,hA,hl⟩:=(cY hW hF hc hz rfl).jv
 obtain⟨kd,MV⟩:=kJ hW hF hi hk
 have hq:q[k]?=some b:=by
  obtain⟨⟨d⟩⟩:=q
  simp at hl;subst hl
  have og:=(an2.1 hb).1
  have gF:k<(ByteArray.mk ⟨d⟩).size:=og
  rw[ByteArray.getElem?_lt' _ _ gF]
  rw[an3 og] at hb
  exact hb
 exact⟨_,by simp[execOp,ho,hA,MV,Instr.index,asIntOf,run_underlying hu,hq],.dO (.plain _ _ (.int _ _))⟩
theorem VR.yF{n:Nat}{v:Value}{x:AV}(h:VR gh n w v x):VR gh n w v x.bU:=by
 cases x<;>try exact VR.dropped h
 obtain⟨cs,rfl,hs,gT,h⟩:=h.ku
 refine .agg _ _ (by simp[hs]) gT fun j v x hj hx=>?_
 simp only[aol,anT] at hx
 obtain⟨y,hy,rfl⟩:=hx
 exact VR.dropped (h j v y hj hy)
theorem Je(hW:bc G base s.H gh w)(hF:FR L nt gh w a s){o:Oper}{x:Operand}{i:Nat}{ix:aC}{vs:List AV}{z:AV}
  (ho:o.op=.extract x i) (hc:au nt x=some ix) (hz:ix.eval G s.T=.tuple vs) (hi:vs[i]?=some z) :
  ∃ v,(execOp a.eval o).run P w=.ok (.value v) w/\mP gh s.H.length nt w s.T s.gen (gv a) v z.bU:=by
 obtain⟨us,hA,iF,h⟩:=(cY hW hF hc hz rfl).rP
 have hj:i<us.size:=by rw[iF];exact (an2.1 hi).1
 have hv:us[i]?=some us[i]:=aok hj
 exact⟨us[i],by simp[execOp,ho,hA,Instr.extract,hv],.dO (VR.yF (h i _ z hv hi))⟩
theorem TP{t:TypeId}{k:lR}{V:Value}{X z:AV}{n:Nat}(hv:VR gh n w V X.drop)(ht:match k with|.str=>P.underlying t=some .string|.sl=>∃ e,P.underlying t=some (.slice e)|.arr m=>∃ e,P.underlying t=some (.array m e))
  (he:cQ k X=some z) (ty:TypeId):∃ v,(Builtin.len_ #[t] ty #[V]).run P w=.ok v w/\VR gh n w v z:=by
 cases k<;>cases X<;>simp only[cQ,anV,reduceCtorEq] at he<;>subst he
 case str.str l =>
  obtain⟨q,rfl,rfl⟩:=hv.jv
  refine⟨.int .i64 q.size,by simp[Builtin.len_,run_underlying ht,goInt],?_⟩
  exact .plain _ _ (by rw[show (q.data.toList.length:Int)=(q.size:Int) by simp];exact .int _ _)
 case sl.slice el own =>
  obtain⟨e,ht⟩:=ht
  have hp:=hv.iU
  cases hp with
  | dM=>exact⟨.int .i64 0,by simp[Builtin.len_,run_underlying ht,goInt],.plain _ _ (.int _ _)⟩
  | slice b of m cap sz _ f hn j4 cb dw de=>exact⟨.int .i64 el.length,by simp[Builtin.len_,run_underlying ht,goInt,hn],.plain _ _ (.int _ _)⟩
 case sl.sref loc off m zz =>
  obtain⟨e,ht⟩:=ht
  obtain⟨_,cap,_,_,rfl⟩:=hv.jN
  exact⟨.int .i64 m,by simp[Builtin.len_,run_underlying ht,goInt],.plain _ _ (.int _ _)⟩
 case sl.af =>
  obtain⟨e,ht⟩:=ht
  have hp:=hv.lJ
  subst hp
  exact⟨.int .i64 0,by simp[Builtin.len_,run_underlying ht,goInt],.plain _ _ (.int _ _)⟩
 all_goals
  obtain⟨e,ht⟩:=ht
  exact⟨.int .i64 _,by simp[Builtin.len_,run_underlying ht,goInt],.plain _ _ (.int _ _)⟩
theorem kZ:∀ {xs:List Operand} {ys:List aC},jE nt xs=some ys->xs.length=ys.length/\∀ (j:Nat) (x:Operand) (y:aC),xs[j]?=some x->ys[j]?=some y->au nt x=some y
 | [],ys,h=>by simp[jE] at h;subst h;exact⟨rfl,fun j x y h=>by simp at h⟩
 | x :: r,ys,h=>by
  simp only[jE,anU,anT] at h
  obtain⟨y,hy,zs,hz,rfl⟩:=h
  obtain⟨h1,h2⟩:=kZ hz
  refine⟨by simp[h1],fun j u v hu hv=>?_⟩
  cases j with
  | zero=>simp at hu hv;subst hu hv;exact hy
  | succ j=>exact h2 j u v (by simpa using hu) (by simpa using hv)
theorem Cj(hW:bc G base s.H gh w)(hF:FR L nt gh w a s){xs:List Operand}{ys:List aC}(hc:jE nt xs=some ys)(hf:(ys.map fun y=>y.addr G s.T).all aH=true) :
  ∀ (j:Nat) (v:Value) (x:AV),(xs.map a.eval)[j]?=some v->(ys.map fun y=>(y.addr G s.T).drop)[j]?=some x->VR gh s.H.length w v x:=by
 obtain⟨hl,h⟩:=kZ hc
 intro j v x hj hx
 simp only[aol,anT] at hj hx
 obtain⟨o,ho,rfl⟩:=hj
 obtain⟨y,hy,rfl⟩:=hx
 have hfy:aH (y.addr G s.T)=true:=an'.1 hf _ (aoD.2 ⟨y,aoh hy,rfl⟩)
 exact nV hW hF (h j o y ho hy) rfl hfy
theorem MD(hW:bc G base s.H gh w)(hF:FR L nt gh w a s){o:Oper}{f:Fn}{fs cs:Array Operand}{ifs ics:List aC}
  (ho:o.op=.makeFunc f fs cs) (h1:jE nt fs.toList=some ifs) (h2:jE nt cs.toList=some ics)
  (Te:(ifs.map fun y=>y.addr G s.T).all aH=true) (hf2:(ics.map fun y=>y.addr G s.T).all aH=true) :
  ∃ v,(execOp a.eval o).run P w=.ok (.value v) w/\mP gh s.H.length nt w s.T s.gen (gv a) v (.func f (ifs.map fun y=>(y.addr G s.T).drop) (ics.map fun y=>(y.addr G s.T).drop)):=by
 refine⟨.func f (fs.map a.eval) (cs.map a.eval),by simp[execOp,ho,Instr.makeFunc],.dO (.func _ _ _ _ _ ?_ ?_ ?_ ?_)⟩
 ·simpa using (kZ h1).1
 ·simpa using (kZ h2).1
 ·intro j v x hj hx
  exact Cj hW hF h1 Te j v x (by simpa using hj) hx
 ·intro j v x hj hx
  exact Cj hW hF h2 hf2 j v x (by simpa using hj) hx
end
end
section
section
variable {P:Program}{G:Nat->List AV}{base nt:Nat}{L:List Nat}{gh:Gh}{w:World}{a:Act}{s:AS}
theorem jX(hW:bc G base s.H gh w)(hF:FR L nt gh w a s){x:Option Operand}{ix:Option aC}(hc:il nt x=some ix){d gU n:Nat}(hb:bound d (ix.map (·.eval G s.T)) gU=some n) :
  (x.map a.eval=none/\ix=none/\n=d)\/(ix.isSome=true/\n<=gU/\∃ k,x.map a.eval=some (.int k (n:Int))):=by
 cases x with
 | none=>simp[il] at hc;subst hc;simp[bound] at hb;exact .inl ⟨rfl,rfl,hb.symm⟩
 | some x =>
  simp only[il,anT] at hc
  obtain⟨y,hy,rfl⟩:=hc
  simp only[bound,aoi,anU] at hb
  obtain⟨m,hm,hb⟩:=hb
  obtain⟨h1,h2⟩:=ag hb
  injection h2 with h2
  subst h2
  obtain⟨k,hk⟩:=kJ hW hF hy hm
  exact .inr ⟨rfl,by simpa [aoU] using h1,k,by simp[hk]⟩
theorem pZ{isSlice:Bool}{len cap l h m:Nat}{lo hi mx:Option Value}
  (hm:(mx=none/\m=cap)\/(m<=cap/\∃ k,mx=some (.int k (m:Int)))) (hh:(hi=none/\h=len/\mx=none)\/(h<=m/\∃ k,hi=some (.int k (h:Int))))
  (hl:(lo=none/\l=0)\/(l<=h/\∃ k,lo=some (.int k (l:Int)))) :
  (Instr.sliceBounds isSlice len cap lo hi mx).run P w=.ok (l,h,m) w:=by
 have sb:∀ (k:IntKind) (n y:Nat) (code:BoundsCode),n<=y->(Instr.sliceBound (.int k (n:Int)) y code).run P w=.ok n w:=by
  intro k n y code hn
  rw[run_sliceBound w k n y code (by omega) (by omega)];simp
 rcases hm with ⟨rfl,rfl⟩|⟨hm,km,rfl⟩<;>rcases hh with ⟨rfl,rfl,hx⟩|⟨hh,kh,rfl⟩<;>rcases hl with ⟨rfl,rfl⟩|⟨hl,kl,rfl⟩ <;>
  first|(cases hx;done)|simp[Instr.sliceBounds,sb, *]
theorem C1(hW:bc G base s.H gh w)(hF:FR L nt gh w a s){o:Oper}{t:TypeId}{x:Operand}{lo hi mx:Option Operand}{ix:aC}{M6 Ii BH:Option aC}{z:AV}
  (ho:o.op=.slice t x lo hi mx) (hc:au nt x=some ix) (h1:il nt lo=some M6) (h2:il nt hi=some Ii) (h3:il nt mx=some BH) (hu:P.underlying t=some .string)
  (he:bH .str (ix.eval G s.T) (M6.map (·.eval G s.T)) (Ii.map (·.eval G s.T)) (BH.map (·.eval G s.T))=some z) :
  ∃ v,(execOp a.eval o).run P w=.ok (.value v) w/\mP gh s.H.length nt w s.T s.gen (gv a) v z:=by
 generalize hz:ix.eval G s.T=X at he
 cases X<;>simp only[bH,reduceCtorEq,anU] at he
 rename_i l
 obtain⟨h,hh,l0,hl,he⟩:=he
 obtain⟨hn,he⟩:=ag he
 injection he with he
 subst he
 obtain⟨q,hA,hq⟩:=(cY hW hF hc hz rfl).jv
 have iF:q.size=l.length:=by rw[<- hq];simp
 have hmn:mx.map a.eval=none/\BH=none:=by
  cases mx with
  | none=>simp[il] at h3;subst h3;exact⟨rfl,rfl⟩
  | some m=>simp only[il,anT] at h3;obtain⟨_,_,rfl⟩:=h3;simp at hn
 have bh:=jX hW hF h2 hh
 have bl:=jX hW hF h1 hl
 have hb:(Instr.sliceBounds false q.size q.size (lo.map a.eval) (hi.map a.eval) none).run P w=.ok (l0,h,q.size) w:=by
  refine pZ (.inl ⟨rfl,rfl⟩) ?_ ?_
  ·rcases bh with ⟨e1,_,e2⟩|⟨_,e1,k,e2⟩
   ·exact .inl ⟨e1,by omega,rfl⟩
   ·exact .inr ⟨by omega,k,e2⟩
  ·rcases bl with ⟨e1,_,e2⟩|⟨_,e1,k,e2⟩
   ·exact .inl ⟨e1,e2⟩
   ·exact .inr ⟨e1,k,e2⟩
 refine⟨.string (q.extract l0 h),?_,.dO (.plain _ _ (.str _ _ ?_))⟩
 ·have hA':=hA
  have tV:(Instr.slice t (.string q) (lo.map a.eval) (hi.map a.eval) none).run P w=.ok (.string (q.extract l0 h)) w:=by
   simp[Instr.slice,run_underlying hu,hb]
  simp only[execOp,ho,hA',hmn.1,Sem.run_bind,run_sliceAt_string w t (.string q) _ _ _ hu,tV,Result.andThen_ok,Sem.run_pure]
 ·rw[<- hq]
  rw[ByteArray.data_extract,Array.toList_extract,List.extract_eq_take_drop,List.drop_take]
theorem zb{sz jC:Nat}{e:List (List AV)}(h:iB sz e=true)(hr:∀ (i:Nat) (r:List AV),e[i]?=some r->r.length=jC)(ff:e≠[]):jC=sz:=by
 cases e with
 | nil=>exact absurd rfl ff
 | cons r e =>
  simp[iB,gI] at h
  rw[<- hr 0 r rfl,h]
theorem PR.part{S:Nat->Nat->Prop}{b o n cap:Nat}{e:List (List AV)}(hv:PR S w (.slice (some ⟨b,o,none⟩) n cap) (.slice e false)){sz:Nat}(iF:e≠[]->∀ (i:Nat) (r:List AV),e[i]?=some r->r.length=sz)
  {l h c:Nat} (hl:l<=h) (hh:h<=n) (hc:h-l<=c):PR S w (.slice (some ⟨b,o+l*sz,none⟩) (h-l) c) (.slice ((e.take h).drop l) false):=by
 cases hv with
 | slice _ _ _ _ jC _ f hn j4 cb dw de =>
  have idx:∀ (i:Nat) (r:List AV),((e.take h).drop l)[i]?=some r->e[l+i]?=some r:=by
   intro i r hi
   rw[aoS,aov] at hi
   split at hi
   ·exact hi
   ·cases hi
  have hz:∀ (i:Nat) (r:List AV),e[i]?=some r->jC=sz:=by
   intro i r hi
   have ff:e≠[]:=by rintro rfl;simp at hi
   rw[<- cb i r hi,iF ff i r hi]
  refine .slice b (o+l*sz) (h-l) c sz _ (fun i j=>f (l+i) j) (by simp;omega) hc ?_ ?_ ?_
  ·intro i r hi
   rw[cb _ r (idx i r hi),hz _ r (idx i r hi)]
  ·intro i j r x hi hj
   have h1:=dw (l+i) j r x (idx i r hi) hj
   rw[hz _ r (idx i r hi)] at h1
   rw[show o+l*sz+i*sz+j=o+(l+i)*sz+j by rw[aoM];omega]
   exact h1
  ·intro i j r x hi hj
   exact de (l+i) j r x (idx i r hi) hj
theorem PR.BR{S:Nat->Nat->Prop}{b o c:Nat}{e:List (List AV)}{l h:Nat}(hl:h<=l):PR S w (.slice (some ⟨b,o,none⟩) 0 c) (.slice ((e.take h).drop l) false):=by
 have:(e.take h).drop l=[]:=by simp;omega
 rw[this]
 exact .slice b o 0 c 0 [] (fun _ _=>undef) rfl (aoW _) (fun i r h=>by simp at h) (fun i j r x h=>by simp at h) (fun i j r x h=>by simp at h)
theorem AI(hW:bc G base s.H gh w)(hF:FR L nt gh w a s){o:Oper}{t e0:TypeId}{x:Operand}{lo hi mx:Option Operand}{ix:aC}{M6 Ii BH:Option aC}{sz:Nat}{z:AV}
  (ho:o.op=.slice t x lo hi mx) (hc:au nt x=some ix) (h1:il nt lo=some M6) (h2:il nt hi=some Ii) (h3:il nt mx=some BH) (hu:P.underlying t=some (.slice e0)) (hs:fz P e0=some sz)
  {ll o0 n zz:Nat} (hz:ix.eval G s.T=.sref ll o0 n zz) (he:∃ h,bound n (Ii.map (·.eval G s.T)) n=some h/\∃ l0,bound 0 (M6.map (·.eval G s.T)) h=some l0 /\
   cond ((BH.map (·.eval G s.T)).isNone&&Nat.beq zz sz) (some (cond (Nat.blt l0 n) (.sref ll (o0+l0*zz) (h-l0) zz) (.slice [] false))) none=some z) :
  ∃ v,(execOp a.eval o).run P w=.ok (.value v) w/\mP gh s.H.length nt w s.T s.gen (gv a) v z:=by
 obtain⟨h,hh,l0,hl,he⟩:=he
 obtain⟨hn,qi⟩:=ag he
 clear he
 simp only[an7,apT,Option.map_eq_none_iff,gI,aoq] at hn
 obtain⟨rfl,rfl⟩:=hn
 have hmx:mx.map a.eval=none:=by
  cases mx with
  | none=>rfl
  | some m=>simp only[il,anT,reduceCtorEq,aqv,aqA] at h3
 obtain⟨bA,cap,hk,ahK,hA⟩:=(cY hW hF hc hz rfl).jN
 have bh:=jX hW hF h2 hh
 have bl:=jX hW hF h1 hl
 have hhn:h<=n:=by rcases bh with ⟨_,_,e⟩|⟨_,e,_⟩<;>omega
 have hlh:l0<=h:=by rcases bl with ⟨_,_,e⟩|⟨_,e,_⟩<;>omega
 have hb:(Instr.sliceBounds true n cap (lo.map a.eval) (hi.map a.eval) (mx.map a.eval)).run P w=.ok (l0,h,cap) w:=by
  refine pZ (.inl ⟨hmx,rfl⟩) ?_ ?_
  ·rcases bh with ⟨e1,e2,e3⟩|⟨_,e1,k,e2⟩
   ·exact .inl ⟨e1,by omega,hmx⟩
   ·exact .inr ⟨by omega,k,e2⟩
  ·rcases bl with ⟨e1,_,e2⟩|⟨_,e1,k,e2⟩
   ·exact .inl ⟨e1,e2⟩
   ·exact .inr ⟨e1,k,e2⟩
 have hr:(Instr.sliceAt t (a.eval x) (lo.map a.eval) (hi.map a.eval) (mx.map a.eval)).run P w=.ok (.slice (if cap=l0 then some ⟨gh.ρ ll,o0,none⟩ else (some (⟨gh.ρ ll,o0,none⟩:Addr)).map (·.add (l0*zz))) (h-l0) (cap-l0)) w:=by
  rw[hA]
  simp[Instr.sliceAt,run_underlying hu,Instr.slice,hb,fy hs]
 refine⟨_,by simp only[execOp,ho,Sem.run_bind,hr,Result.andThen_ok,Sem.run_pure];rfl,?_⟩
 injection qi with qi
 subst qi
 cases hq:Nat.blt l0 n with
 | true =>
  have hq' : l0<n:=by simpa [aoE] using hq
  rw[if_neg (by omega),aoi,addr_add]
  refine .dO (.sref ll (o0+l0*zz) (h-l0) (cap-l0) zz bA (by omega) (fun h0=>?_))
  obtain⟨ty,hbl⟩:=ahK h0
  refine⟨ty,?_⟩
  have:o0+l0*zz+(cap-l0)*zz=o0+cap*zz:=by
   have h3:(l0+(cap-l0))*zz=l0*zz+(cap-l0)*zz:=aoM _ _ _
   rw[show l0+(cap-l0)=cap by omega] at h3
   omega
  rw[this];exact hbl
 | false =>
  have hq' : ¬ l0<n:=fun h=>by rw[<- aoE] at h;rw[h] at hq;cases hq
  have e0:h-l0=0:=by omega
  rw[e0]
  have hp:∀ (b of c:Nat),PR gh.S w (.slice (some ⟨b,of,none⟩) 0 c) (.slice [] false):=fun b of c=>.slice b of 0 c 0 [] (fun _ _=>undef) rfl (aoW _) (fun i r h=>by simp at h) (fun i j r x h=>by simp at h) (fun i j r x h=>by simp at h)
  split
  ·exact .dO (.plain _ _ (hp _ _ _))
  ·rw[aoi,addr_add];exact .dO (.plain _ _ (hp _ _ _))
theorem Gm(hW:bc G base s.H gh w)(hF:FR L nt gh w a s){o:Oper}{t e0:TypeId}{x:Operand}{lo hi mx:Option Operand}{ix:aC}{M6 Ii BH:Option aC}{sz:Nat}{z:AV}
  (ho:o.op=.slice t x lo hi mx) (hc:au nt x=some ix) (h1:il nt lo=some M6) (h2:il nt hi=some Ii) (h3:il nt mx=some BH) (hu:P.underlying t=some (.slice e0)) (hs:fz P e0=some sz)
  (he:bH (.sl sz) (ix.eval G s.T) (M6.map (·.eval G s.T)) (Ii.map (·.eval G s.T)) (BH.map (·.eval G s.T))=some z) :
  ∃ v,(execOp a.eval o).run P w=.ok (.value v) w/\mP gh s.H.length nt w s.T s.gen (gv a) v z:=by
 generalize hz:ix.eval G s.T=X at he
 cases X<;>simp only[bH,reduceCtorEq,anU] at he
 case sref=>exact AI hW hF ho hc h1 h2 h3 hu hs hz he
 rename_i e own
 obtain⟨m,hm,h,hh,l0,hl,he⟩:=he
 obtain⟨hn,he⟩:=ag he
 injection he with he
 subst he
 have hp:=VR.iU (cY hW hF hc hz rfl)
 have bm:=jX hW hF h3 hm
 have bh:=jX hW hF h2 hh
 have bl:=jX hW hF h1 hl
 have hmx:BH=none->mx.map a.eval=none:=by
  rintro rfl
  cases mx with
  | none=>rfl
  | some m=>simp only[il,anT,reduceCtorEq,aqv,aqA] at h3
 have wX:lo.map a.eval=none->l0=0:=by
  intro wX
  rcases bl with ⟨_,_,e2⟩|⟨_,_,k,e2⟩
  ·exact e2
  ·rw[wX] at e2;cases e2
 simp only[an7,apZ,apT,Option.map_eq_none_iff] at hn
 obtain⟨MY,hn2⟩:=hn
 have hlh:l0<=h:=by rcases bl with ⟨_,_,e⟩|⟨_,e,_⟩<;>omega
 have hhm:h<=m:=by
  rcases bh with ⟨_,e1,e2⟩|⟨_,e,_⟩
  ·subst e1
   rcases MY with rfl|hx
   ·simp[bound] at hm;omega
   ·simp at hx
  ·exact e
 have YU:m<=e.length:=by rcases bm with ⟨_,_,e⟩|⟨_,e,_⟩<;>omega
 have key:∀ len cap:Nat,len=e.length->len<=cap->∀ ad,∃ m',(m'=if BH=none then cap else m) /\
   (Instr.slice t (.slice ad len cap) (lo.map a.eval) (hi.map a.eval) (mx.map a.eval)).run P w=.ok (.slice (if m'=l0 then ad else ad.map (·.add (l0*sz))) (h-l0) (m' - l0)) w:=by
  intro len cap hlen j4 ad
  refine⟨_,rfl,?_⟩
  have hb:(Instr.sliceBounds true len cap (lo.map a.eval) (hi.map a.eval) (mx.map a.eval)).run P w=.ok (l0,h,if BH=none then cap else m) w:=by
   refine pZ ?_ ?_ ?_
   ·rcases bm with ⟨e1,e2,_⟩|⟨e1,e2,k,e3⟩
    ·exact .inl ⟨e1,by rw[if_pos e2]⟩
    ·have ff:BH≠none:=by rintro rfl;cases e1
     rw[if_neg ff]
     exact .inr ⟨by omega,k,e3⟩
   ·rcases bh with ⟨e1,e2,e3⟩|⟨_,e1,k,e2⟩
    ·refine .inl ⟨e1,by omega,?_⟩
     subst e2
     rcases MY with hx|hx
     ·exact hmx hx
     ·simp at hx
    ·refine .inr ⟨?_,k,e2⟩
     split<;>omega
   ·rcases bl with ⟨e1,_,e2⟩|⟨_,e1,k,e2⟩
    ·exact .inl ⟨e1,e2⟩
    ·exact .inr ⟨e1,k,e2⟩
  simp[Instr.slice,run_underlying hu,hb,fy hs]
 have fin:∀ {V:Value} {R:Value},a.eval x=V->(Instr.slice t V (lo.map a.eval) (hi.map a.eval) (mx.map a.eval)).run P w=.ok R w->(∃ ad n c,V=.slice ad n c) ->
   (execOp a.eval o).run P w=.ok (.value R) w:=by
  rintro V R hA hR ⟨ad,n,c,rfl⟩
  have:(Instr.sliceAt t (.slice ad n c) (lo.map a.eval) (hi.map a.eval) (mx.map a.eval)).run P w=.ok R w:=by simp[Instr.sliceAt,run_underlying hu,hR]
  simp only[execOp,ho,hA,Sem.run_bind,this,Result.andThen_ok,Sem.run_pure]
 generalize hA:a.eval x=V at hp
 have Th:=hp
 cases hp with
 | dM =>
  have hlen:([]:List (List AV)).length=0:=rfl
  simp only[an1] at YU
  have e1:m=0:=by omega
  have e2:h=0:=by omega
  have e3:l0=0:=by omega
  subst e1 e2 e3
  obtain⟨m',YT,hr⟩:=key 0 0 rfl (an4 _) none
  have:m'=0:=by rw[YT];split<;>rfl
  subst this
  refine⟨_,fin hA hr ⟨_,_,_,rfl⟩,.dO ?_⟩
  simp
  generalize BH.isSome=q
  cases q
  ·exact .plain _ _ .dM
  ·exact .full none 0 [] .dM trivial
 | slice b of n cap jC _ f hn' j4 cb dw de =>
  obtain⟨m',YT,hr⟩:=key n cap hn'.symm j4 (some ⟨b,of,none⟩)
  refine⟨_,fin hA hr ⟨_,_,_,rfl⟩,.dO ?_⟩
  have alO:h<=m':=by rw[YT];split<;>omega
  have l9:PR gh.S w (.slice (if m'=l0 then some ⟨b,of,none⟩ else (some (⟨b,of,none⟩:Addr)).map (·.add (l0*sz))) (h-l0) (m' - l0)) (.slice ((e.take h).drop l0) false):=by
   by_cases aeX:m'=l0
   ·rw[if_pos aeX]
    have:h-l0=0:=by omega
    rw[this]
    exact PR.BR (by omega)
   ·rw[if_neg aeX,aoi,addr_add]
    by_cases aeP:l0=0
    ·have:=PR.part Th (sz:=jC) (fun _=>cb) hlh (c:=m' - l0) (by omega) (by omega)
     rw[aeP,aqj] at this ⊢
     exact this
    ·refine PR.part Th (fun ff i r hi=>?_) hlh (by omega) (by omega)
     have ah8:¬ (M6=none):=by
      rintro rfl
      rcases bl with ⟨_,_,e2⟩|⟨e1,_⟩
      ·exact aeP e2
      ·cases e1
     have:=zb (hn2.resolve_left ah8) cb ff
     rw[cb i r hi,this]
  generalize hq:((Option.map (fun x=>aC.eval G s.T x) BH).isSome&&m.beq h)=q
  cases q
  ·exact .plain _ _ l9
  ·simp only[an7,Option.isSome_map,gI,aoq] at hq
   have ff:BH≠none:=by rintro rfl;simp at hq
   have:m'=h:=by rw[YT,if_neg ff];exact hq.2
   subst this
   exact .full _ _ _ l9 trivial
theorem pG(sz:Nat):∀ (n:Nat) (l:List AV) (i:Nat),(chunks sz n l)[i]?=if i<n then some ((l.drop (i*sz)).take sz) else none
 | 0,l,i=>by simp[chunks]
 | n+1,l,0=>by simp[chunks]
 | n+1,l,i+1=>by
  simp only[chunks,api,pG sz n,aqk,Nat.add_lt_add_iff_right]
  congr 3
  rw[aoM,apU,aqz]
theorem yq(sz:Nat):∀ (n:Nat) (l:List AV),(chunks sz n l).length=n
 | 0,l=>rfl
 | n+1,l=>by simp[chunks,yq sz n]
theorem PR.chunks{S:Nat->Nat->Prop}{b o n sz:Nat}{cs:List AV}(hv:PR S w (.pointer (some ⟨b,o,none⟩)) (.eptr cs))(hl:cs.length=n*sz) :
  PR S w (.slice (some ⟨b,o,none⟩) n n) (.slice (chunks sz n cs) false):=by
 cases hv with
 | eptr _ _ _ f dw de =>
  have idx:∀ (i j:Nat) (r:List AV) (x:AV),(Abs.chunks sz n cs)[i]?=some r->r[j]?=some x->cs[i*sz+j]?=some x:=by
   intro i j r x hi hj
   rw[pG] at hi
   split at hi
   ·injection hi with hi
    subst hi
    rw[aov,aoS] at hj
    split at hj
    ·exact hj
    ·cases hj
   ·cases hi
  refine .slice b o n n sz _ (fun i j=>f (i*sz+j)) (yq sz n cs) (an4 _) ?_ ?_ ?_
  ·intro i r hi
   rw[pG] at hi
   split at hi
   ·rename_i bA
    injection hi with hi
    subst hi
    have:(i+1)*sz<=n*sz:=aoo _ bA
    rw[aoM] at this
    simp;omega
   ·cases hi
  ·intro i j r x hi hj
   rw[apR]
   exact dw _ x (idx i j r x hi hj)
  ·intro i j r x hi hj
   exact de _ x (idx i j r x hi hj)
theorem CZ(hW:bc G base s.H gh w)(hF:FR L nt gh w a s){o:Oper}{t e0:TypeId}{x:Operand}{lo hi mx:Option Operand}{ix:aC}{M6 Ii BH:Option aC}{n sz:Nat}{z:AV}
  (ho:o.op=.slice t x lo hi mx) (hc:au nt x=some ix) (h1:il nt lo=some M6) (h2:il nt hi=some Ii) (h3:il nt mx=some BH) (hu:P.underlying t=some (.array n e0)) (hs:fz P e0=some sz) (h0:0<sz)
  (he:bH (.arr n sz) (ix.eval G s.T) (M6.map (·.eval G s.T)) (Ii.map (·.eval G s.T)) (BH.map (·.eval G s.T))=some z) :
  ∃ v,(execOp a.eval o).run P w=.ok (.value v) w/\mP gh s.H.length nt w s.T s.gen (gv a) v z:=by
 generalize hz:ix.eval G s.T=X at he
 cases X<;>simp only[bH,reduceCtorEq] at he
 rename_i cs
 obtain⟨hlen,he⟩:=ag he
 simp only[anU] at he
 obtain⟨h,hh,l0,hl,he⟩:=he
 obtain⟨hn,he⟩:=ag he
 injection he with he
 subst he
 have Bx:cs.length=n*sz:=by simpa [gI] using hlen
 have hp:=VR.uT (cY hW hF hc hz rfl)
 have hmn:mx.map a.eval=none:=by
  cases mx with
  | none=>rfl
  | some m=>simp only[il,anT] at h3;obtain⟨_,_,rfl⟩:=h3;simp at hn
 have bh:=jX hW hF h2 hh
 have bl:=jX hW hF h1 hl
 have hlh:l0<=h:=by rcases bl with ⟨_,_,e⟩|⟨_,e,_⟩<;>omega
 have hhn:h<=n:=by rcases bh with ⟨_,_,e⟩|⟨_,e,_⟩<;>omega
 have hb:(Instr.sliceBounds false n n (lo.map a.eval) (hi.map a.eval) none).run P w=.ok (l0,h,n) w:=by
  refine pZ (.inl ⟨rfl,rfl⟩) ?_ ?_
  ·rcases bh with ⟨e1,_,e2⟩|⟨_,e1,k,e2⟩
   ·exact .inl ⟨e1,by omega,rfl⟩
   ·exact .inr ⟨by omega,k,e2⟩
  ·rcases bl with ⟨e1,_,e2⟩|⟨_,e1,k,e2⟩
   ·exact .inl ⟨e1,e2⟩
   ·exact .inr ⟨e1,k,e2⟩
 generalize hA:a.eval x=V at hp
 have Th:=hp
 cases hp with
 | eptr b of _ f dw de =>
  refine⟨.slice (some (if n=l0 then ⟨b,of,none⟩ else (⟨b,of,none⟩:Addr).add (l0*sz))) (h-l0) (n-l0),?_,.dO (.plain _ _ ?_)⟩
  ·simp[execOp,ho,hA,hmn,Instr.sliceAt,run_underlying hu,Instr.sureAddr,hb,fy hs]
  ·have hc:=PR.chunks (sz:=sz) Th Bx
   by_cases qk:n=l0
   ·have:h-l0=0:=by omega
    rw[this]
    simp only[qk,apu]
    rw[<- qk]
    exact PR.BR (by omega)
   ·rw[if_neg qk,addr_add]
    refine PR.part hc (fun _ i r hi=>?_) hlh hhn (by omega)
    cases hc with
    | slice _ _ _ _ jC _ f' hn' j4 cb ahM akb =>
     rw[pG] at hi
     split at hi
     ·rename_i bA
      injection hi with hi
      subst hi
      have:(i+1)*sz<=n*sz:=aoo _ bA
      rw[aoM] at this
      simp;omega
     ·cases hi
end
end
section
section
variable {P:Program}{G:Nat->List AV}{base nt:Nat}{L:List Nat}{gh:Gh}{w:World}{a:Act}{s:AS}
theorem fY{op:BinOp}{t:TypeId}{x y:Operand}{u v:Value}(h1:∀ c,u≠.agg c)(h2:u≠.nilIface\/v≠.nilIface):(eqGuard op t x y u v).run P w=.ok () w:=by
 have key:∀ (op:BinOp),op=.eql\/op=.neq\/(eqGuard op t x y u v)=pure ():=by
  intro op
  cases op<;>first|exact .inl rfl|exact .inr (.inl rfl)|exact .inr (.inr rfl)
 have k2:∀ op,op=BinOp.eql\/op=.neq->(eqGuard op t x y u v).run P w=.ok () w:=by
  rintro op (rfl|rfl)<;>simp only[eqGuard,aoe,apo,aqd] <;>
   (cases u<;>first|rfl|exact absurd rfl (h1 _)|skip)<;>(cases v<;>first|rfl|(simp at h2))
 rcases key op with h|h|h
 ·exact k2 op (.inl h)
 ·exact k2 op (.inr h)
 ·rw[h];rfl
theorem IE{op:BinOp}{k:IntKind}{m n:Int}{z:AV}(h:aa op k m n=some z)(t:TypeId):∃ v,(binOp op t (.int k m) (.int k n)).run P w=.ok v w/\PR gh.S w v z:=by
 unfold aa at h
 cases op<;>simp only[reduceCtorEq,anV] at h
 case quo =>
  rcases ao4 (decide (n=0)) with hb|hb<;>rw[hb] at h<;>simp at h
  subst h
  have hn:¬ n=0:=by simpa using hb
  exact⟨_,by simp[binOp,Op.intDiv,hn],.int _ _⟩
 case rem =>
  rcases ao4 (decide (n=0)) with hb|hb<;>rw[hb] at h<;>simp at h
  subst h
  have hn:¬ n=0:=by simpa using hb
  exact⟨_,by simp[binOp,Op.intDiv,hn],.int _ _⟩
 all_goals
  subst h
  first
   | exact⟨_,by simp[binOp,Op.intArith],.int _ _⟩
   | exact⟨_,by simp[binOp,Op.intCmp],.bool _⟩
theorem IF{op:BinOp}{x y:ByteArray}{z:AV}(h:cj op x.data.toList y.data.toList=some z)(t:TypeId):∃ v,(binOp op t (.string x) (.string y)).run P w=.ok v w/\PR gh.S w v z:=by
 have hx:=ByteArray.toList_eq x
 have hy:=ByteArray.toList_eq y
 unfold cj at h
 cases op<;>simp only[reduceCtorEq,anV] at h
 case add =>
  obtain⟨h1,h2⟩:=ag h
  injection h2 with h2
  subst h2
  have Pu:x.size+y.size<=4611686018427387904:=by simpa using h1
  have h3:¬ (((x.size+y.size:Nat):Int)>IntKind.i64.max):=by
   have:IntKind.i64.max=9223372036854775807:=by decide
   rw[this];omega
  exact⟨.string (x++y),by simp only[binOp,Op.stringOp];rw[if_neg h3];rfl,.str _ _ (by simp)⟩
 all_goals
  subst h
  exact⟨_,by simp[binOp,Op.stringOp,hx,hy],.bool _⟩
theorem sC:∀ (k ks:List CK) (X Y:List AV) (b:Bool),cG (k++ks) X Y=some b ->
  ∃ b1 b2,cG k X Y=some b1/\cG ks (X.drop k.length) (Y.drop k.length)=some b2/\b=(b1&&b2)
 | [],ks,X,Y,b,h=>⟨true,b,rfl,by simpa using h,by simp⟩
 | c :: k,ks,X,Y,b,h=>by
  have step:∀ (e:Bool) (X' Y' : List AV),(cG (k++ks) X' Y').map (e&&·)=some b->∃ b1 b2,(cG k X' Y').map (e&&·)=some b1/\cG ks (X'.drop k.length) (Y'.drop k.length)=some b2/\b=(b1&&b2):=by
   intro e X' Y' h
   simp only[anT] at h
   obtain⟨b',gO,rfl⟩:=h
   obtain⟨b1,b2,h1,h2,rfl⟩:=sC k ks X' Y' b' gO
   exact⟨e&&b1,b2,by simp[h1],h2,by rw[Bool.and_assoc]⟩
  cases c<;>cases X<;>try (cases h;done)
  all_goals (rename_i x X';cases x<;>try (cases h;done))
  all_goals (cases Y<;>try (cases h;done))
  all_goals (rename_i y Y';cases y<;>try (cases h;done))
  ·exact step _ _ _ h
  ·simp only[apm,cG] at h
   obtain⟨h0,h⟩:=ag h
   obtain⟨b1,b2,h1,h2,h3⟩:=step _ _ _ h
   exact⟨b1,b2,by simp only[cG];rw[h0];exact h1,h2,h3⟩
  ·exact step _ _ _ h
theorem n9:∀ (k:List CK) (X Y:List AV) (n:Nat),k.length<=n->cG k (X.take n) (Y.take n)=cG k X Y
 | [],X,Y,n,_=>rfl
 | c :: k,[],Y,n,h=>by rw[List.take_nil];cases c<;>rfl
 | c :: k,x :: X,[],n,h=>by
  obtain⟨m,rfl⟩:∃ m,n=m+1:=⟨n-1,by simp at h;omega⟩
  rw[List.take_nil,apj];cases c<;>cases x<;>rfl
 | c :: k,x :: X,y :: Y,n,h=>by
  obtain⟨m,rfl⟩:∃ m,n=m+1:=⟨n-1,by simp at h;omega⟩
  have ih:=n9 k X Y m (by simp at h;omega)
  rw[apj,apj]
  cases c<;>cases x<;>first|rfl|(cases y<;>first|rfl|simp only[cG,ih])
def Row(gh:Gh)(n:Nat)(w:World)(cs:Array Value)(X:List AV):Prop :=
 cs.size=X.length/\∀ (j:Nat) (v:Value) (x:AV),cs[j]?=some v->X[j]?=some x->VR gh n w v x
theorem Row.extract{n:Nat}{cs:Array Value}{X:List AV}(h:Row gh n w cs X)(o k:Nat):Row gh n w (cs.extract o (o+k)) ((X.drop o).take k):=by
 refine⟨by have:=h.1;simp;omega,fun j v x hj hx=>?_⟩
 rw[aqn] at hj
 rw[aov,aoS] at hx
 split at hj
 ·split at hx
  ·exact h.2 _ v x hj hx
  ·cases hx
 ·cases hj
theorem lX{t:TypeId}{d:TypeDesc}(h:P.underlying t=some d)(hd:(match d with|.struct _=>true|.array _ _=>true|_=>false)=false):lW P t=some false:=by
 unfold lW;rw[h];simp[hd];cases d<;>simp_all
theorem qN{n:Nat}{c:CK}{t:TypeId}{D o:Nat}{cs ds:Array Value}{X Y:List AV}{b:Bool}(hX:Row gh n w cs X)(hY:Row gh n w ds Y)(hD:1<=D)
  (ht:match c with|.b=>P.underlying t=some .bool|.i=>∃ k,P.underlying t=some (.int k)|.s=>P.underlying t=some .string)
  (h:cG [c] (X.drop o) (Y.drop o)=some b):∃ u v,(part t cs o).run P w=.ok u w/\(part t ds o).run P w=.ok v w/\(Op.equalIn D t u v).run P w=.ok b w:=by
 obtain⟨D,rfl⟩:∃ m,D=m+1:=⟨D-1,by omega⟩
 have hg:lW P t=some false:=by cases c<;>first|exact lX ht rfl|(obtain⟨k,ht⟩:=ht;exact lX ht rfl)
 have get:∀ {cs:Array Value} {X:List AV} {x:AV} {X' : List AV},Row gh n w cs X->X.drop o=x :: X'->∃ u,(part t cs o).run P w=.ok u w/\VR gh n w u x:=by
  intro cs X x X' hR hd
  have hx:X[o]?=some x:=by
   have:(X.drop o)[0]?=some x:=by rw[hd];rfl
   rw[aoS] at this;simpa using this
  have bA:o<cs.size:=by rw[hR.1];exact (an2.1 hx).1
  have hv:cs[o]?=some cs[o]:=aok bA
  exact⟨cs[o],by simp[part,iN hg,hv],hR.2 o _ x hv hx⟩
 generalize hXd:X.drop o=Xd at h
 generalize hYd:Y.drop o=Yd at h
 cases c<;>cases Xd<;>try (cases h;done)
 all_goals (rename_i x X';cases x<;>try (cases h;done))
 all_goals (cases Yd<;>try (cases h;done))
 all_goals (rename_i y Y';cases y<;>try (cases h;done))
 all_goals
  obtain⟨u,Tk,hu2⟩:=get hX hXd
  obtain⟨v,Ut,Uu⟩:=get hY hYd
 ·obtain rfl:=hu2.jM
  obtain rfl:=Uu.jM
  simp[cG] at h
  exact⟨_,_,Tk,Ut,by rw[run_equalIn_bool' w D t _ _ ht,h]⟩
 ·obtain rfl:=hu2.ju
  obtain rfl:=Uu.ju
  obtain⟨k,ht⟩:=ht
  simp only[cG] at h
  obtain⟨h0,h'⟩:=ag h
  simp at h' h0
  exact⟨_,_,Tk,Ut,by rw[h0,run_equalIn_int w D t _ _ _ _ ht,h']⟩
 ·obtain⟨p,rfl,rfl⟩:=hu2.jv
  obtain⟨q,rfl,rfl⟩:=Uu.jv
  simp[cG] at h
  refine⟨_,_,Tk,Ut,?_⟩
  rw[run_equalIn_string w D t _ _ ht,ByteArray.toList_eq,ByteArray.toList_eq,<- h]
  simp
def B'(P:Program)(gh:Gh)(w:World)(d:Nat):Prop :=
 ∀ (t:TypeId) (k:List CK),mC P d t=some k->∀ (n D o:Nat) (cs ds:Array Value) (X Y:List AV) (b:Bool),Row gh n w cs X->Row gh n w ds Y->d<=D ->
  cG k (X.drop o) (Y.drop o)=some b->∃ u v,(part t cs o).run P w=.ok u w/\(part t ds o).run P w=.ok v w/\(Op.equalIn D t u v).run P w=.ok b w
theorem Jk{d:Nat}(hd:B' P gh w d){n D:Nat}(hD:d<=D){cs ds:Array Value}{X Y:List AV}(hX:Row gh n w cs X)(hY:Row gh n w ds Y) :
  ∀ (fs:List Go.Field) (q:Nat) (ks:List CK) (b:Bool),oe (mC P d) fs q=some ks->cG ks (X.drop q) (Y.drop q)=some b->(Op.eqFields D cs ds fs).run P w=.ok b w:=by
 intro fs
 induction fs with
 | nil=>intro q ks b h1 h2;simp[oe] at h1;subst h1;simp[cG] at h2;subst h2;rfl
 | cons f fs ih =>
  intro q ks b h1 h2
  unfold oe at h1
  obtain⟨h3,h1⟩:=ag h1
  simp only[anU,anT] at h1
  obtain⟨kf,hkf,kr,hkr,rfl⟩:=h1
  simp only[an7,gI,aoq,bne_iff_ne] at h3
  obtain⟨hof,Bz⟩:=h3
  obtain⟨b1,b2,e1,e2,rfl⟩:=sC kf kr _ _ b h2
  rw[aqk,aqk] at e2
  obtain⟨u,v,p1,p2,p3⟩:=hd f.type kf hkf n D q cs ds X Y b1 hX hY hD e1
  have hr:=ih (q+kf.length) kr b2 hkr e2
  unfold Op.eqFields
  rw[if_pos Bz,hof]
  simp only[Sem.run_bind,p1,p2,p3,Result.andThen_ok]
  cases b1
  ·simp
  ·simp only[aoe,apo,aqd,hr,aon]
theorem p8{d:Nat}{t:TypeId}{k:List CK}{fs:Array Go.Field}(h:mC P (d+1) t=some k)(hu:P.underlying t=some (.struct fs)) :
  P.stoodInHeld t=false/\oe (mC P d) fs.toList 0=some k/\∃ sz,fz P t=some sz/\sz=k.length:=by
 unfold mC at h
 rw[hu] at h
 obtain⟨h1,h⟩:=ag h
 simp only[anU] at h
 obtain⟨ks,gF,h⟩:=h
 obtain⟨h2,h⟩:=ag h
 injection h with h
 subst h
 refine⟨by simpa using h1,gF,?_⟩
 cases hq:fz P t with
 | none=>rw[hq] at h2;cases h2
 | some m=>rw[hq] at h2;exact⟨m,rfl,by simpa [gI] using h2⟩
theorem tS{d:Nat}(hd:B' P gh w d){t:TypeId}{k:List CK}{fs:Array Go.Field}(h:mC P (d+1) t=some k)(hu:P.underlying t=some (.struct fs))
  {n D:Nat} (hD:d<=D) {cs ds:Array Value} {X Y:List AV} {b:Bool} (hX:Row gh n w cs X) (hY:Row gh n w ds Y) (he:cG k X Y=some b) :
  (Op.equalIn (D+1) t (.agg cs) (.agg ds)).run P w=.ok b w:=by
 obtain⟨nP,gF,_⟩:=p8 h hu
 have hf:P.fieldsOf t=fs:=by unfold Program.fieldsOf;rw[hu]
 rw[run_equalIn_struct w D t _ _ (by rw[hf];exact hu) nP,hf]
 exact Jk hd hD hX hY fs.toList 0 k b gF (by simpa using he)
theorem vO:∀ d:Nat,B' P gh w d
 | 0=>fun t k h=>by cases h
 | d+1=>by
  intro t k h n D o cs ds X Y b hX hY hD he
  have h0:=h
  unfold mC at h
  cases hu:P.underlying t with
  | none=>rw[hu] at h;cases h
  | some dd =>
   rw[hu] at h
   cases dd<;>try (cases h;done)
   case bool=>injection h with h;subst h;exact qN (c:=.b) hX hY (by omega) hu he
   case int kk=>injection h with h;subst h;exact qN (c:=.i) hX hY (by omega) ⟨kk,hu⟩ he
   case string=>injection h with h;subst h;exact qN (c:=.s) hX hY (by omega) hu he
   case struct fs =>
    obtain⟨_,_,sz,iF,hlen⟩:=p8 h0 hu
    have hg:lW P t=some true:=by unfold lW;rw[hu];rfl
    refine⟨.agg (cs.extract o (o+sz)),.agg (ds.extract o (o+sz)),by simp[part,iN hg,fy iF],by simp[part,iN hg,fy iF],?_⟩
    obtain⟨D,rfl⟩:∃ m,D=m+1:=⟨D-1,by omega⟩
    rw[<- n9 k _ _ sz (by omega)] at he
    exact tS (vO d) h0 hu (by omega) (hX.extract o sz) (hY.extract o sz) he
theorem Ki{op:BinOp}{b:Bool}{z:AV}(h:cn op b=some z):(op=.eql/\z=.bool b)\/(op=.neq/\z=.bool !b):=by
 cases op<;>simp[cn] at h
 ·exact .inl ⟨rfl,h.symm⟩
 ·exact .inr ⟨rfl,h.symm⟩
theorem mU{op:BinOp}{t:TypeId}{u v:Value}{b:Bool}{z:AV}(h:cn op b=some z)(hr:(Op.equal t u v).run P w=.ok b w)
  (h1:∀ q,(binOp .eql t u v)=q->q=(do pure (.bool (<- Op.equal t u v)))) (h2:(binOp .neq t u v)=(do pure (.bool (!(<- Op.equal t u v))))) :
  ∃ r,(binOp op t u v).run P w=.ok r w/\PR gh.S w r z:=by
 rcases Ki h with ⟨rfl,rfl⟩|⟨rfl,rfl⟩
 ·exact⟨.bool b,by rw[h1 _ rfl];simp[hr],.bool _⟩
 ·exact⟨.bool !b,by rw[h2];simp[hr],.bool _⟩
theorem aaa(hW:bc G base s.H gh w)(hF:FR L nt gh w a s){o:Oper}{op:BinOp}{t u:TypeId}{x y:Operand}{ix iy:aC}{z:AV}
  (ho:o.op=.binOp op t x y u) (hx:au nt x=some ix) (hy:au nt y=some iy)
  (he:yh op (nn P t) (dj ix || dj iy) (ix.eval G s.T) (iy.eval G s.T)=some z) :
  ∃ v,(execOp a.eval o).run P w=.ok (.value v) w/\mP gh s.H.length nt w s.T s.gen (gv a) v z:=by
 generalize hX:ix.eval G s.T=X at he
 generalize hY:iy.eval G s.T=Y at he
 have fin:∀ {U V:Value},a.eval x=U->a.eval y=V->(eqGuard op t x y U V).run P w=.ok () w->(∃ r,(binOp op t U V).run P w=.ok r w/\PR gh.S w r z) ->
   ∃ v,(execOp a.eval o).run P w=.ok (.value v) w/\mP gh s.H.length nt w s.T s.gen (gv a) v z:=by
  rintro U V hU hV hg ⟨r,hr,hp⟩
  exact⟨r,by simp[execOp,ho,hU,hV,hg,hr],.dO (.plain _ _ hp)⟩
 have ZP:(dj ix || dj iy)=true->(∃ v,x=.const v)\/(∃ v,y=.const v):=by
  intro h
  rcases Bool.or_eq_true_iff.1 h with h|h
  ·left
   cases x<;>simp only[au] at hx
   ·have:=(ag hx).2;injection this with this;subst this;cases h
   ·exact⟨_,rfl⟩
   ·injection hx with hx;subst hx;cases h
   ·injection hx with hx;subst hx;cases h
  ·right
   cases y<;>simp only[au] at hy
   ·have:=(ag hy).2;injection this with this;subst this;cases h
   ·exact⟨_,rfl⟩
   ·injection hy with hy;subst hy;cases h
   ·injection hy with hy;subst hy;cases h
 unfold yh at he
 split at he
 ·
  obtain⟨h0,D3⟩:=ag he
  have hk:=of_decide_eq_true h0
  have h1:=(cY hW hF hx hX rfl).ju
  have h2:=(cY hW hF hy hY rfl).ju
  rw[<- hk] at h2
  exact fin h1 h2 (fY (by intro c;simp) (.inl (by simp))) (IE D3 t)
 ·
  obtain⟨p,h1,hp⟩:=(cY hW hF hx hX rfl).jv
  obtain⟨q,h2,hq⟩:=(cY hW hF hy hY rfl).jv
  subst hp hq
  exact fin h1 h2 (fY (by intro c;simp) (.inl (by simp))) (IF he t)
 ·
  rename_i p q
  have h1:=(cY hW hF hx hX rfl).jM
  have h2:=(cY hW hF hy hY rfl).jM
  generalize hQ:nn P t=Q at he
  cases Q<;>simp only[reduceCtorEq] at he
  have ht:P.underlying t=some .bool:=by
   unfold nn at hQ
   split at hQ<;>first|assumption|(cases hQ)|skip
   cases hb:(!P.eqGuardType P.depth t)<;>rw[hb] at hQ<;>simp at hQ
   split at hQ<;>cases hQ
  exact fin h1 h2 (fY (by intro c;simp) (.inl (by simp))) (mU he (run_equal_bool w t p q ht) (by rintro _ rfl;rfl) rfl)
 ·
  rename_i xs ys
  obtain⟨cs,h1,AQ,_,hr1⟩:=(cY hW hF hx hX rfl).ku
  obtain⟨ds,h2,Ti,_,hr2⟩:=(cY hW hF hy hY rfl).ku
  generalize hQ:nn P t=Q at he
  cases Q<;>simp only[reduceCtorEq,anU] at he
  rename_i ks
  obtain⟨b,hb,he⟩:=he
  obtain⟨hg,hk⟩:P.eqGuardType P.depth t=false/\mC P 8 t=some ks:=by
   unfold nn at hQ
   split at hQ<;>first|(cases hQ;done)|skip
   cases hb:(P.eqGuardType P.depth t)<;>rw[hb] at hQ<;>simp at hQ
   split at hQ<;>first|(cases hQ;done)|skip
   injection hQ with hQ
   subst hQ
   exact⟨rfl,by assumption⟩
  obtain⟨fs,hu⟩:∃ fs,P.underlying t=some (.struct fs):=by
   unfold nn at hQ
   cases hu:P.underlying t with
   | none=>rw[hu] at hQ;cases hQ
   | some d =>
    rw[hu] at hQ
    cases d<;>simp only[reduceCtorEq] at hQ
    exact⟨_,rfl⟩
  have dm:(Op.equal t (.agg cs) (.agg ds)).run P w=.ok b w :=
   tS (vO 7) hk hu (D:=9999) (by omega) (n:=s.H.length) ⟨AQ,hr1⟩ ⟨Ti,hr2⟩ hb
  exact fin h1 h2 (run_eqGuard_agg w op t x y cs ds hg) (mU he dm (by rintro _ rfl;rfl) rfl)
 ·
  obtain⟨h0,he⟩:=ag he
  obtain⟨ahP,hq⟩:=aqN.1 h0
  simp only[anU] at he
  obtain⟨b,hb,he⟩:=he
  have ht:∃ m,P.underlying t=some (.interface m):=by
   generalize hQ:nn P t=Q at hq
   cases Q<;>simp only[reduceCtorEq] at hq
   unfold nn at hQ
   split at hQ<;>first|exact⟨_,by assumption⟩|(cases hQ;done)|skip
   cases hb:(!P.eqGuardType P.depth t)<;>rw[hb] at hQ<;>simp at hQ
   split at hQ<;>cases hQ
  obtain⟨m,ht⟩:=ht
  have h2:=(cY hW hF hy hY rfl).uU
  split at hb
  ·injection hb with hb
   subst hb
   have h1:=(cY hW hF hx hX rfl).uU
   have hr:(Op.equal t .nilIface .nilIface).run P w=.ok true w:=(fun d=>(by simp[Op.equalIn,run_underlying ht]:(Op.equalIn (d+1) t .nilIface .nilIface).run P w=.ok true w)) 9999
   refine fin h1 h2 ?_ (mU he hr (by rintro _ rfl;rfl) rfl)
   rcases ZP ahP with ⟨v,rfl⟩|⟨v,rfl⟩
   ·cases op<;>simp[eqGuard]
   ·cases op<;>simp[eqGuard]
  ·injection hb with hb
   subst hb
   obtain⟨q,h1⟩:=(cY hW hF hx hX rfl).M8
   have hr:∀ ti,(Op.equal t (.iface ti q) .nilIface).run P w=.ok false w:=fun ti=>(fun d=>(by simp[Op.equalIn,run_underlying ht]:(Op.equalIn (d+1) t (.iface ti q) .nilIface).run P w=.ok false w)) 9999
   exact fin h1 h2 (fY (by intro c;simp) (.inl (by simp))) (mU he (hr _) (by rintro _ rfl;rfl) rfl)
  ·cases hb
 ·
  obtain⟨h0,he⟩:=ag he
  simp only[anU] at he
  obtain⟨b,hb,he⟩:=he
  have ht:∃ p q r,P.underlying t=some (.func p q r):=by
   generalize hQ:nn P t=Q at h0
   cases Q<;>simp only[reduceCtorEq] at h0
   unfold nn at hQ
   split at hQ<;>first|exact⟨_,_,_,by assumption⟩|(cases hQ;done)|skip
   cases hb:(!P.eqGuardType P.depth t)<;>rw[hb] at hQ<;>simp at hQ
   split at hQ<;>cases hQ
  obtain⟨p,q,r,ht⟩:=ht
  have h2:=(cY hW hF hy hY rfl).wZ
  split at hb
  ·injection hb with hb
   subst hb
   have h1:=(cY hW hF hx hX rfl).wZ
   have hr:(Op.equal t .nilFunc .nilFunc).run P w=.ok true w:=(fun d=>(by simp[Op.equalIn,run_underlying ht]:(Op.equalIn (d+1) t .nilFunc .nilFunc).run P w=.ok true w)) 9999
   exact fin h1 h2 (fY (by intro c;simp) (.inl (by simp))) (mU he hr (by rintro _ rfl;rfl) rfl)
  ·injection hb with hb
   subst hb
   obtain⟨fs,cs,h1,_⟩:=(cY hW hF hx hX rfl).ra
   have hr:∀ f,(Op.equal t (.func f fs cs) .nilFunc).run P w=.ok false w:=fun f=>(fun d=>(by simp[Op.equalIn,run_underlying ht]:(Op.equalIn (d+1) t (.func f fs cs) .nilFunc).run P w=.ok false w)) 9999
   exact fin h1 h2 (fY (by intro c;simp) (.inl (by simp))) (mU he (hr _) (by rintro _ rfl;rfl) rfl)
  ·cases hb
 ·cases he
end
end
section
section
variable {P:Program}{G:Nat->List AV}{base nt:Nat}{L:List Nat}{gh:Gh}{w:World}{a:Act}{s:AS}
def pz(gh:Gh)(n:Nat)(w:World)(C:Array Value)(X:List AV):Prop :=
 C.size=X.length/\∀ (j:Nat) (v:Value) (x:AV),C[j]?=some v->X[j]?=some x->VR gh n w v x/\v.oneCell'=true
theorem VR.fR{n:Nat}{v:Value}{x:AV}(h:VR gh n w v x)(hx:∀ cs,x≠.agg cs)(oI:∀ cs,x≠.tuple cs):v.oneCell'=true:=by
 cases h with
 | plain _ _ h=>exact h.fR
 | full=>rfl
 | ref=>rfl
 | sref=>rfl
 | mref=>rfl
 | func=>rfl
 | iface=>rfl
 | agg _ xs=>exact absurd rfl (hx xs)
 | tuple _ xs=>exact absurd rfl (oI xs)
theorem rE{n:Nat}{v:Value}{x:AV}{cs:List AV}(h:VR gh n w v x)(hc:x.cells=some cs):pz gh n w v.cells cs:=by
 have single:x.cells=some [x]->(∀ cs,x≠.agg cs)->(∀ cs,x≠.tuple cs)->pz gh n w v.cells cs:=by
  intro h1 h2 h3
  rw[h1] at hc
  injection hc with hc
  subst hc
  have gT:=h.fR h2 h3
  have:v.cells=#[v]:=by cases v<;>first|rfl|(simp[Value.oneCell'] at gT)
  rw[this]
  refine⟨rfl,fun j u y hu hy=>?_⟩
  cases j with
  | zero=>simp at hu hy;subst hu hy;exact⟨h,gT⟩
  | succ j=>simp at hu
 cases x
 case agg xs =>
  obtain⟨C,rfl,hs,gT,h⟩:=h.ku
  injection hc with hc
  subst hc
  exact⟨hs,fun j v x hv hx=>⟨h j v x hv hx,gT j v hv⟩⟩
 case any=>cases hc
 case tuple=>cases hc
 case lbox=>cases hc
 case lref=>cases hc
 case lsl=>cases hc
 case lsr=>cases hc
 case eref=>cases hc
 case iter=>cases hc
 all_goals exact single rfl (by intro cs h;cases h) (by intro cs h;cases h)
theorem pz.dropped{n:Nat}{C:Array Value}{X:List AV}(h:pz gh n w C X):pz gh n w C (X.map AV.drop):=by
 refine⟨by simp[h.1],fun j v x hv hx=>?_⟩
 simp only[aol,anT] at hx
 obtain⟨y,hy,rfl⟩:=hx
 exact⟨VR.dropped (h.2 j v y hv hy).1,(h.2 j v y hv hy).2⟩
theorem oC:∀ (l:List Value) (off k:Nat) (C:Array Value) (j:Nat),off+k+l.length<=C.size ->
  ((l.zipIdx k).foldl (fun cs (c,i)=>cs.setIfInBounds (off+i) c) C)[j]?=if off+k<=j/\j<off+k+l.length then l[j-(off+k)]? else C[j]?
 | [],off,k,C,j,h=>by simp;omega
 | v :: l,off,k,C,j,h=>by
  have h' : off+(k+1)+l.length<=(C.setIfInBounds (off+k) v).size:=by simp at h ⊢;omega
  rw[List.zipIdx_cons,aqx,oC l off (k+1) _ j h']
  by_cases h1:j=off+k
  ·subst h1
   have bA:off+k<C.size:=by simp at h;omega
   rw[if_neg (by omega),if_pos (by simp)]
   simp[bA]
  ·by_cases h2:off+(k+1)<=j/\j<off+(k+1)+l.length
   ·rw[if_pos h2,if_pos (by simp;omega)]
    have:j-(off+k)=j-(off+(k+1))+1:=by omega
    rw[this,api]
   ·rw[if_neg h2,if_neg (by simp;omega),aqw (by omega)]
theorem nx:∀ (l:List (Value × Nat)) (off:Nat) (C:Array Value),(l.foldl (fun cs (c,i)=>cs.setIfInBounds (off+i) c) C).size=C.size
 | [],off,C=>rfl
 | v :: l,off,C=>by rw[aqx,nx l off];simp
theorem rV{l cs:List AV}{off:Nat}(h:off+cs.length<=l.length)(j:Nat):(putAt l off cs)[j]?=if off<=j/\j<off+cs.length then cs[j-off]? else l[j]?:=by
 have aaY:min off l.length=off:=by omega
 unfold putAt
 simp only[apa,aod,ao2,aaY,aov,aoS]
 by_cases h1:j<off
 ·have e1:j<off+cs.length:=by omega
  rw[if_pos e1,if_pos h1,if_pos h1,if_neg (by omega)]
 ·by_cases h2:j<off+cs.length
  ·rw[if_pos h2,if_neg h1,if_pos ⟨by omega,h2⟩]
  ·rw[if_neg h2,if_neg (by omega)]
   congr 1;omega
theorem pk{l cs:List AV}{off:Nat}(h:off+cs.length<=l.length):(putAt l off cs).length=l.length:=by
 unfold putAt;simp;omega
theorem pz.put{n:Nat}{C D:Array Value}{X Y:List AV}(h:pz gh n w C X)(hd:pz gh n w D Y){off:Nat}(hl:off+Y.length<=X.length) :
  pz gh n w (D.zipIdx.foldl (fun cs (c,i)=>cs.setIfInBounds (off+i) c) C) (putAt X off Y):=by
 have e:D.zipIdx.foldl (fun cs (c,i)=>cs.setIfInBounds (off+i) c) C=(D.toList.zipIdx 0).foldl (fun cs (c,i)=>cs.setIfInBounds (off+i) c) C:=by
  rw[<- Array.foldl_toList,Array.toList_zipIdx]
 rw[e]
 refine⟨by rw[nx,pk hl,h.1],fun j v x hv hx=>?_⟩
 have hD:D.toList.length=Y.length:=by simpa using hd.1
 rw[oC _ _ _ _ _ (by rw[hD,h.1];omega)] at hv
 rw[rV hl] at hx
 simp only[aos,hD] at hv
 by_cases hc:off<=j/\j<off+Y.length
 ·rw[if_pos hc] at hv hx
  exact hd.2 _ v x (by simpa using hv) hx
 ·rw[if_neg hc] at hv hx
  exact h.2 j v x hv hx
theorem yT{n:Nat}{place:Nat->Option (Nat × Nat)} : ∀ (parts:List (Nat × Value)) (ip:List (Nat × Nat × AV)) (C:Array Value) (Z Z' : List AV),pz gh n w C Z->cF Z ip=some Z'->parts.length=ip.length ->
  (∀ (j:Nat) (p:Nat × Value) (q:Nat × Nat × AV),parts[j]?=some p->ip[j]?=some q->place p.1=some (q.1,q.2.1)/\(∀ cs,q.2.2.cells=some cs->pz gh n w p.2.cells cs)) ->
  ∃ C',Instr.fill place C parts=some C'/\pz gh n w C' Z'
 | [],[],C,Z,Z',h,hb,_,_=>by simp[cF] at hb;subst hb;exact⟨C,rfl,h⟩
 | p :: parts,q :: ip,C,Z,Z',h,hb,hl,hp=>by
  obtain⟨h1,h2⟩:=hp 0 p q rfl rfl
  obtain⟨i,v⟩:=p
  obtain⟨off,sz,x⟩:=q
  simp only[cF] at hb
  split at hb
  ·cases hb
  ·rename_i cs ia
   obtain⟨h3,gO⟩:=ag hb
   simp only[an7,gI,aoq,aoU] at h3
   have hr:=h2 cs ia
   have iF:v.cells.size=sz:=by rw[hr.1];exact h3.1
   have hlen:(cs.map AV.drop).length=cs.length:=by simp
   obtain⟨C',hf,cb⟩:=yT parts ip _ _ Z' (h.put hr.dropped (off:=off) (by rw[hlen];exact h3.2)) gO (by simpa using hl) (fun j p q mI hq'=>hp (j+1) p q (by simpa using mI) (by simpa using hq'))
   refine⟨C',?_,cb⟩
   simp only at h1
   unfold Instr.fill
   rw[h1]
   have nN:¬ (decide (v.cells.size≠sz) || decide (off+v.cells.size>C.size))=true:=by
    have:=hr.1;have:=h.1
    simp;omega
   simp only
   rw[if_neg nN]
   exact hf
 | [],_ :: _,_,_,_,_,_,hl,_=>by simp at hl
 | _ :: _,[],_,_,_,_,_,hl,_=>by simp at hl
theorem H6{n:Nat}{t:TypeId}{z:List AV}(h:gR P t=some z):∃ i zv,P.info? t=some i/\i.zero=some zv/\pz gh n w zv.cells z:=by
 simp only[gR,anU] at h
 obtain⟨zv,⟨i,hi,hz⟩,hc⟩:=h
 obtain⟨h1,h2⟩:=kg (gh:=gh) (n:=n) (w:=w) hc
 exact⟨i,zv,hi,hz,by simpa using h1,fun j v x hv hx=>h2 j v x (by simpa using hv) hx⟩
theorem Bh{n:Nat}{v:Value}{x:AV}(h:j2 v=some x):VR gh n w v (mD x):=by
 have hv:VR gh n w v x:=um h
 unfold mD
 split
 ·unfold j2 at h
  split at h<;>first|(cases h;done)|(injection h with h;cases h;done)|exact .plain _ _ .af
 ·exact hv
theorem Cz{n:Nat}{v:Value}{x:AV}(h:qE v=some x):VR gh n w v (mD x):=by
 have h0:=jG (gh:=gh) (n:=n) (w:=w) h
 unfold qE at h
 split at h
 ·simp only[anT] at h
  obtain⟨l,_,rfl⟩:=h
  exact h0
 ·exact Bh h
theorem qF:∀ {vs:List Value} {xs:List AV},ft vs=some xs->∀ (j:Nat) (v:Value) (x:AV),vs[j]?=some v->xs[j]?=some x->j2 v=some x
 | [],xs,h,j,v,x,hv,hx=>by simp at hv
 | u :: vs,xs,h,j,v,x,hv,hx=>by
  simp only[ft,anU,anT] at h
  obtain⟨y,hy,ys,P0,rfl⟩:=h
  cases j with
  | zero=>simp at hv hx;subst hv hx;exact hy
  | succ j=>exact qF P0 j v x (by simpa using hv) (by simpa using hx)
theorem pw{n:Nat}{t:TypeId}{b:Bool}{z:List AV}(h:(gR P t).map (fun z=>cond b (z.map mD) z)=some z):∃ i zv,P.info? t=some i/\i.zero=some zv/\pz gh n w zv.cells z:=by
 simp only[anT] at h
 obtain⟨z0,h0,rfl⟩:=h
 obtain⟨i,zv,h1,h2,h3⟩:=H6 (gh:=gh) (n:=n) (w:=w) h0
 refine⟨i,zv,h1,h2,?_⟩
 cases b with
 | false=>exact h3
 | true =>
  refine⟨by simpa using h3.1,fun j v x hv hx=>?_⟩
  simp only[cond_true,aol,anT] at hx
  obtain⟨y,hy,rfl⟩:=hx
  simp only[gR,anU] at h0
  obtain⟨zv',⟨i',mn,Tl⟩,hc⟩:=h0
  rw[h1] at mn
  injection mn with mn
  subst mn
  rw[h2] at Tl
  injection Tl with Tl
  subst Tl
  exact⟨Bh (qF hc j v y (by simpa using hv) hy),(h3.2 j v y hv hy).2⟩
theorem ph(hW:bc G base s.H gh w)(hF:FR L nt gh w a s){x:Operand}{y:aC}(hc:au nt x=some y):∀ cs,(y.eval G s.T).drop.cells=some cs->pz gh s.H.length w (a.eval x).cells cs:=by
 intro cs ia
 have hf:aH (y.eval G s.T)=true:=by
  rw[<- jJ]
  generalize (y.eval G s.T).drop=Y at ia
  cases Y<;>first|rfl|cases ia
 exact rE (cY hW hF hc rfl hf) ia
theorem xu(hW:bc G base s.H gh w)(hF:FR L nt gh w a s){o:Oper}{t:TypeId}{parts:Array (Nat × Operand)}{fs:Array Go.Field}{z Z:List AV}{ps:List (Nat × Nat × aC)}
  (ho:o.op=.build t parts) {kp:Bool} (hz:(gR P t).map (fun z=>cond kp (z.map mD) z)=some z) (hu:P.underlying t=some (.struct fs)) (hp:mS P nt fs.toList parts.toList=some ps)
  (fH:∃ pl,fs.toList.mapM (fun f=>(P.info? f.type).map fun i=>(f.offset,i.size))=some pl)
  (he:cF z (ps.map fun p=>(p.1,p.2.1,(p.2.2.eval G s.T).drop))=some Z) :
  ∃ v,(execOp a.eval o).run P w=.ok (.value v) w/\mP gh s.H.length nt w s.T s.gen (gv a) v (.agg Z):=by
 obtain⟨i,zv,hi,M5,cb⟩:=pw (gh:=gh) (n:=s.H.length) (w:=w) hz
 obtain⟨pl,vo⟩:=fH
 have inv:∀ (l:List (Nat × Operand)) (ps:List (Nat × Nat × aC)),mS P nt fs.toList l=some ps->l.length=ps.length /\
   ∀ (j:Nat) (p:Nat × Operand) (q:Nat × Nat × aC),l[j]?=some p->ps[j]?=some q->(∃ f,fs.toList[p.1]?=some f/\fz P f.type=some q.2.1/\f.offset=q.1)/\au nt p.2=some q.2.2:=by
  intro l
  induction l with
  | nil=>intro ps h;simp[mS] at h;subst h;exact⟨rfl,fun j p q h=>by simp at h⟩
  | cons p l ih =>
   intro ps h
   obtain⟨k,x⟩:=p
   simp only[mS,anU,anT] at h
   obtain⟨f,hf,sz,iF,y,hy,rest,hr,rfl⟩:=h
   obtain⟨h1,h2⟩:=ih rest hr
   refine⟨by simp[h1],fun j p q hp hq=>?_⟩
   cases j with
   | zero=>simp at hp hq;subst hp hq;exact⟨⟨f,hf,iF,rfl⟩,hy⟩
   | succ j=>exact h2 j p q (by simpa using hp) (by simpa using hq)
 obtain⟨hl,hinv⟩:=inv _ _ hp
 have aa' : ∀ (k:Nat) (f:Go.Field) (sz:Nat),fs.toList[k]?=some f->fz P f.type=some sz->pl.toArray[k]?=some (f.offset,sz):=by
  have gen:∀ (l:List Go.Field) (pl:List (Nat × Nat)),l.mapM (fun f=>(P.info? f.type).map fun i=>(f.offset,i.size))=some pl->∀ (k:Nat) (f:Go.Field) (sz:Nat),l[k]?=some f->fz P f.type=some sz->pl[k]?=some (f.offset,sz):=by
   intro l
   induction l with
   | nil=>intro pl _ k f sz h;simp at h
   | cons g l ih =>
    intro pl h k f sz hk hs
    simp only[List.mapM_cons,Option.bind_eq_bind,Option.pure_def,anU,anT] at h
    obtain⟨q,⟨ii,MU,rfl⟩,rest,hr,h⟩:=h
    injection h with h
    subst h
    cases k with
    | zero =>
     simp at hk;subst hk
     obtain⟨i',mn,rO⟩:=mJ hs
     rw[mn] at MU;injection MU with MU;subst MU;simp[rO]
    | succ k=>simpa using ih rest hr k f sz (by simpa using hk) hs
  intro k f sz hk hs
  simpa using gen _ _ vo k f sz hk hs
 obtain⟨C',hf,uQ⟩:=yT (gh:=gh) (w:=w) (n:=s.H.length) (place:=fun x=>pl.toArray[x]?) ((parts.map fun p=>(p.1,a.eval p.2)).toList) (ps.map fun p=>(p.1,p.2.1,(p.2.2.eval G s.T).drop)) zv.cells z Z cb he (by simpa using hl) (by
  intro j p q hp hq
  simp only[aqr,aol,anT] at hp hq
  obtain⟨p0,Th,rfl⟩:=hp
  obtain⟨q0,hq0,rfl⟩:=hq
  obtain⟨⟨f,hf,hs,rN⟩,hc⟩:=hinv j p0 q0 Th hq0
  exact⟨by rw[aa' _ f _ hf hs,rN],ph hW hF hc⟩)
 have hb:P.built t (parts.map fun p=>(p.1,a.eval p.2)).toList=some C':=by
  unfold Program.built
  rw[hi,hu]
  simp only[M5,vo]
  exact hf
 refine⟨.agg C',by simp[execOp,ho,run_build w t _ C' hb],.dO (.agg _ _ uQ.1 (fun j v hj=>?_) (fun j v x hv hx=>(uQ.2 j v x hv hx).1))⟩
 have bA:j<Z.length:=by rw[<- uQ.1];exact (aob.1 hj).1
 exact (uQ.2 j v _ hj (an3 bA)).2
end
end
section
section
variable {G:Nat->List AV}{base nt:Nat}{L:List Nat}{gh:Gh}{w w' : World}{a:Act}{s:AS}{H:ai}
def Gh.alloc(gh:Gh)(b:Nat)(p:bM)(q:Nat->Prop):Gh:={ S:=fun b' o=>gh.S b' o\/(b'=b/\q o),κ:=fun b'=>if b'=b then p else gh.κ b',ρ:=gh.ρ }
structure fI (w w' : World) (o:Obj):Prop where
 heap:w'.heap=w.heap.push o
 os:w'.os=w.os
 tape:w'.tape=w.tape
 output:w'.output=w.output
theorem fI.alloc(w:World)(o:Obj):fI w (w.alloc o) o:=⟨rfl,rfl,rfl,rfl⟩
theorem fI.drew(w:World)(o:Obj):fI w (w.drew.alloc o) o:=⟨rfl,rfl,rfl,rfl⟩
theorem fI.old{o:Obj}(h:fI w w' o)(b:Nat)(hb:b<w.heap.size):w'.heap[b]?=w.heap[b]?:=by
 rw[h.heap,apM,if_neg (by omega)]
theorem fI.new{o:Obj}(h:fI w w' o):w'.heap[w.heap.size]?=some o:=by
 rw[h.heap,apM,if_pos rfl]
theorem fI.size{o:Obj}(h:fI w w' o):w'.heap.size=w.heap.size+1:=by rw[h.heap];simp
theorem cell_of_heap{b o:Nat}(h:w'.heap[b]?=w.heap[b]?):w'.cell? ⟨b,o,none⟩=w.cell? ⟨b,o,none⟩:=by simp[World.cell?,h]
theorem bc.cB(hW:bc G base H gh w)(b:Nat)(hb:w.heap.size<=b):gh.κ b≠.outer:=by rw[hW.fresh b hb];simp
theorem iK(hW:bc G base H gh w){o:Obj}(hp:fI w w' o){p:bM}(ff:p≠.outer)(q:Nat->Prop)(n:Nat):Step (fun _=>False) n gh w (gh.alloc w.heap.size p q) w':=by
 refine⟨fun b o h=>.inl h,fun b o h=>cell_of_heap (hp.old b (hW.nT b o h)),by rw[hp.size];omega,hp.os,hp.tape,hp.output,?_,?_,fun _ _=>rfl,fun b ty m hb=>by
  obtain⟨C,fr,h1,h2⟩:=hb
  exact⟨C,fr,by rw[hp.old b (aob.1 h1).1];exact h1,h2⟩,fun b E ck hs hb=>by rw[hp.old b (hW.nT b 0 hs)];exact hb⟩
 ·intro b hb _
  have AO:b≠w.heap.size:=by omega
  refine⟨.inl (hp.old b hb),by simp[Gh.alloc,AO],fun o ho=>?_⟩
  rcases ho with ho|⟨e,_⟩
  ·exact ho
  ·exact absurd e AO
 ·intro b hb
  show (if b=w.heap.size then p else gh.κ b)≠.outer
  split
  ·exact ff
  ·exact hW.cB b hb
theorem mQ(hW:bc G base H gh w){o:Obj}(hp:fI w w' o){p:bM}(ff:p≠.outer)(q:Nat->Prop)(n:Nat):Ext n gh w (gh.alloc w.heap.size p q) w':=by
 refine⟨(iK hW hp ff q n).mono (fun _ h=>h.elim),fun b hb=>?_⟩
 have gO:(if b=w.heap.size then p else gh.κ b)=.outer:=hb
 split at gO
 ·exact absurd gO ff
 ·exact gO
theorem bc.step{touch:bM->Prop}{aX:Gh}(hW:bc G base H gh w)(st:Step touch H.length gh w aX w')(ht:∀ l,¬ touch (.hb l)/\∀ j,¬ touch (.hs l j))
  (hs:∀ b o,aX.S b o->b<w'.heap.size) (hk:∀ b,aX.κ b≠.none->base<=b/\b<w'.heap.size)
  (lG:∀ b o m,aX.S b o->gh.S b o\/(w'.cell? ⟨b,o,none⟩=some (.int .u8 m)->∃ C fr,w'.heap[b]?=some (.cells C jc fr))):bc G base H aX w':=by
 refine⟨apk hW.size st.size,hs,hk,fun g j x hx=>?_,fun loc ty cs hl=>?_,hW.refs,fun g hg=>(hW.xE g hg).imp fun ty h=>st.len g ty _ h,hW.kB st lG,fun loc o hl=>?_,fun loc ty cs hl=>?_⟩
 ·obtain⟨v,h1,h2,h3⟩:=hW.aZ g j x hx
  exact⟨v,(st.cell g j h3).trans h1,h2.mono st.S st.cell st.mp,st.S g j h3⟩
 ·have bA:loc<H.length:=(an2.1 hl).1
  have h:=(hW.boxes loc ty cs hl).mono st (an4 _) (ht loc).1 (ht loc).2
  rw[st.ρ loc bA];exact h
 ·rw[st.ρ loc (an2.1 hl).1]
  exact (hW.more loc o hl).mono st (an4 _) (ht loc).1 (ht loc).2
 ·rw[st.ρ loc (an2.1 hl).1]
  exact fun hf=>st.len _ _ _ (hW.types loc ty cs hl hf)
theorem bc.alloc(hW:bc G base H gh w){o:Obj}(hp:fI w w' o){p:bM}(ff:p≠.outer)(q:Nat->Prop)
  (hq:∀ k m,q k->w'.cell? ⟨w.heap.size,k,none⟩=some (.int .u8 m)->∃ C fr,w'.heap[w.heap.size]?=some (.cells C jc fr)):bc G base H (gh.alloc w.heap.size p q) w':=by
 refine hW.step (iK hW hp ff q H.length) (fun l=>⟨id,fun _=>id⟩) ?_ ?_ (fun b k m h=>h.elim .inl (fun ⟨e,hk⟩=>.inr (by subst e;exact hq k m hk)))
 ·intro b o ho
  rw[hp.size]
  rcases ho with ho|⟨rfl,_⟩
  ·have:=hW.nT b o ho;omega
  ·omega
 ·intro b hb
  rw[hp.size]
  have gO:(if b=w.heap.size then p else gh.κ b)≠.none:=hb
  split at gO
  ·rename_i e
   have:=hW.size
   omega
  ·have:=hW.pR b gO;omega
def Gh.oY(gh:Gh)(b:Nat)(p:bM):Gh:={ gh with κ:=fun b'=>if b'=b then p else gh.κ b' }
theorem kP(hW:bc G base H gh w){b:Nat}(hb:b<w.heap.size)(p:bM)(n:Nat):Step (fun r=>r=gh.κ b) n gh w (gh.oY b p) w:=by
 refine⟨fun _ _ h=>h,fun _ _ _=>rfl,an4 _,rfl,rfl,rfl,fun b' gO hn=>⟨.inl rfl,?_,fun _ h=>h⟩,fun b' gO=>?_,fun _ _=>rfl,fun _ _ _ h=>h,fun _ _ _ _ h=>h⟩
 ·have ff:b'≠b:=by rintro rfl;exact hn rfl
  simp[Gh.oY,ff]
 ·have ff:b'≠b:=by omega
  simp only[Gh.oY,if_neg ff]
  exact hW.cB b' gO
theorem uI(hW:bc G base H gh w){b:Nat}(hb:b<w.heap.size){p:bM}(hp:p≠.outer)(h0:gh.κ b≠.none)(h1:gh.κ b≠.outer)(n:Nat):Ext n gh w (gh.oY b p) w:=by
 refine⟨(kP hW hb p n).mono (fun r h=>by rw[h];exact⟨h0,h1⟩),fun b' gO=>?_⟩
 have lT:(if b'=b then p else gh.κ b')=.outer:=gO
 split at lT
 ·exact absurd lT hp
 ·exact lT
theorem Jz(hW:bc G base H gh w){b:Nat}(hb:b<w.heap.size)(p:bM)(h0:gh.κ b≠.none)(ht:∀ l,gh.κ b≠.hb l/\∀ j,gh.κ b≠.hs l j):bc G base H (gh.oY b p) w:=by
 refine hW.step (kP hW hb p H.length) (fun l=>⟨fun h=>(ht l).1 h.symm,fun j h=>(ht l).2 j h.symm⟩) hW.nT ?_ (fun _ _ _ h=>.inl h)
 intro b' gO
 have lT:(if b'=b then p else gh.κ b')≠.none:=gO
 split at lT
 ·rename_i e;rw[e];exact hW.pR b h0
 ·exact hW.pR b' lT
theorem pq(hW:bc G base H gh w){b:Nat}{C C' : Array Value}{ty:TypeId}{fr:Nat × Nat}(hb:w.heap[b]?=some (.cells C ty fr))(iF:C'.size=C.size)(q:Nat->Prop)
  (dw:∀ o,gh.S b o->C'[o]?=C[o]?) (p:bM) (n:Nat) :
  Step (fun r=>r=gh.κ b) n gh w { gh with S:=fun b' o=>gh.S b' o\/(b'=b/\q o),κ:=fun b'=>if b'=b then p else gh.κ b' } (w.setRow b C'):=by
 have bA:b<w.heap.size:=(aob.1 hb).1
 refine⟨fun b o h=>.inl h,fun b' o h=>?_,by simp,rfl,rfl,rfl,fun b' gO hn=>?_,fun b' gO=>?_,fun _ _=>rfl,fun b' me m hm=>by
  obtain⟨D,fr',h1,h2⟩:=hm
  by_cases e:b'=b
  ·subst e
   rw[hb] at h1
   injection h1 with h1
   injection h1 with h1 h3 h4
   subst h1 h3
   exact⟨C',fr,setRow_heap w b' C C' ty fr hb,by rw[iF,h2]⟩
  ·exact⟨D,fr',by rw[setRow_other w b b' C' e];exact h1,h2⟩,fun b' E ck hs hm=>by
  have e:b'≠b:=by rintro rfl;rw[hb] at hm;cases hm
  rw[setRow_other w b b' C' e];exact hm⟩
 ·by_cases e:b'=b
  ·subst e
   rw[cell_setRow_same w b' o C C' ty fr hb,dw o h]
   simp[World.cell?,hb]
  ·exact cell_of_heap (setRow_other w b b' C' e)
 ·have ff:b'≠b:=by rintro rfl;exact hn rfl
  refine⟨.inl (setRow_other w b b' C' ff),by simp[ff],fun o ho=>?_⟩
  rcases ho with ho|⟨e,_⟩
  ·exact ho
  ·exact absurd e ff
 ·have ff:b'≠b:=by omega
  simp only[if_neg ff]
  exact hW.cB b' gO
theorem xU(hW:bc G base H gh w){b:Nat}{C C' : Array Value}{ty:TypeId}{fr:Nat × Nat}(hb:w.heap[b]?=some (.cells C ty fr))(iF:C'.size=C.size)(q:Nat->Prop)
  (dw:∀ o,gh.S b o->C'[o]?=C[o]?) {p:bM} (hp:p≠.outer) (h0:gh.κ b≠.none) (h1:gh.κ b≠.outer) (n:Nat) :
  Ext n gh w { gh with S:=fun b' o=>gh.S b' o\/(b'=b/\q o),κ:=fun b'=>if b'=b then p else gh.κ b' } (w.setRow b C'):=by
 refine⟨(pq hW hb iF q dw p n).mono (fun r h=>by rw[h];exact⟨h0,h1⟩),fun b' gO=>?_⟩
 have lT:(if b'=b then p else gh.κ b')=.outer:=gO
 split at lT
 ·exact absurd lT hp
 ·exact lT
theorem LK(hW:bc G base H gh w){b:Nat}{C C' : Array Value}{ty:TypeId}{fr:Nat × Nat}(hb:w.heap[b]?=some (.cells C ty fr))(iF:C'.size=C.size)(q:Nat->Prop)
  (dw:∀ o,gh.S b o->C'[o]?=C[o]?) (hq:∀ k m,q k->C'[k]?=some (.int .u8 m)->ty=jc) (p:bM) (h0:gh.κ b≠.none) (ht:∀ l,gh.κ b≠.hb l/\∀ j,gh.κ b≠.hs l j) :
  bc G base H { gh with S:=fun b' o=>gh.S b' o\/(b'=b/\q o),κ:=fun b'=>if b'=b then p else gh.κ b' } (w.setRow b C'):=by
 have bA:b<w.heap.size:=(aob.1 hb).1
 refine hW.step (pq hW hb iF q dw p H.length) (fun l=>⟨fun h=>(ht l).1 h.symm,fun j h=>(ht l).2 j h.symm⟩) ?_ ?_ (fun b' k m h=>h.elim .inl (fun ⟨e,hk⟩=>.inr (fun hc=>by
   subst e
   rw[cell_setRow_same w b' k C C' ty fr hb] at hc
   have:=hq k m hk hc
   subst this
   exact⟨C',fr,setRow_heap w b' C C' _ fr hb⟩)))
 ·intro b' o ho
  simp
  rcases ho with ho|⟨rfl,_⟩
  ·exact hW.nT b' o ho
  ·exact bA
 ·intro b' gO
  simp
  have lT:(if b'=b then p else gh.κ b')≠.none:=gO
  split at lT
  ·rename_i e;rw[e];exact hW.pR b h0
  ·exact hW.pR b' lT
theorem FR.cy{aX:Gh}{touch:bM->Prop}(h:FR L nt gh w a s)(st:Step touch s.H.length gh w aX w'){t:Nat}{X:AV}{H' : ai}{lo' : Nat}(hH:s.H.length<=H'.length)
  (ht:∀ i,i≠t->¬ touch (.bx i)/\¬ touch (.sl i)/\∀ j,¬ touch (.sc i j))
  (hX:(t<nt/\bB X=bB (s.T t))\/bB X=none) (hsr:t<nt->SR aX H'.length nt w' s.T s.gen (gv a) t (gv a t) X) :
  FR L nt aX w' a (({ s with H:=H',lo:=lo' } : AS).cy t X):=by
 refine h.update st h.defers h.size hH (an4 _) (fun i=>i=t) ?_ ?_ ?_
 ·intro i hi
  exact⟨by simp[AS.cy,iZ,hi],fun _=>⟨rfl,ht i hi⟩⟩
 ·rintro i rfl
  simp only[AS.cy,iZ,apu]
  rcases hX with ⟨h1,h2⟩|h1
  ·exact .inl ⟨h1,h2,trivial⟩
  ·exact .inr (.inl h1)
 ·rintro i rfl hi
  simp only[AS.cy,iZ,apu]
  refine SR.mono (touch:=fun _=>False) (n:=H'.length) (gh:=aX) (w:=w') (Step.refl _ _ _ _ (fun b hb=>st.fresh b (apk st.size hb))) (an4 _) (an4 _) id id (fun _=>id) ?_ (hsr hi)
  intro k hk
  by_cases N6:k=i
  ·subst N6
   rcases hX with ⟨h1,h2⟩|h1
   ·exact .inl (by rw[iZ,if_pos rfl];exact⟨h2,rfl⟩)
   ·exact .inr (.inl (by simp[iZ,h1]))
  ·exact .inl ⟨by simp[iZ,N6],rfl⟩
theorem FR.R0(h:FR L nt gh w a s){gen' : Nat}(hg:s.gen<=gen')(gm:∀ b,w.heap.size<=b->gh.κ b≠.outer)(d:Option Nat)(hd:∀ k,d=some k->k<nt){v:Value}{x:AV}
  (hx:bB x=none\/((∃ g,s.gen<=g/\bB x=some g)/\∀ k,d=some k->k∈L))
  (hv:∀ k,d=some k->SR gh s.H.length nt w s.T gen' (gv a) k v x):FR L nt gh w (a.put d v) (({ s with gen:=gen' } : AS).bW d x):=by
 have st:Step (fun _=>False) s.H.length gh w gh w:=Step.refl _ _ _ _ gm
 cases d with
 | none=>exact h.update st h.defers h.size (an4 _) hg (fun _=>False) (fun i _=>⟨rfl,fun _=>⟨rfl,id,id,fun _=>id⟩⟩) (fun _ h=>h.elim) (fun _ h=>h.elim)
 | some d =>
  have bA:=hd d rfl
  have iF:d<a.tmps.size:=by rw[h.size];exact bA
  refine h.update (s':=({ s with gen:=gen' } : AS).bW (some d) x) st ((xb a (some d) v).trans h.defers) ((HD a (some d) v).trans h.size) (an4 _) hg (fun i=>i=d) ?_ ?_ ?_
  ·intro i hi
   exact⟨by simp[AS.bW,AS.cy,iZ,hi],fun _=>⟨by rw[ou a d v i iF,if_neg hi],id,id,fun _=>id⟩⟩
  ·rintro i rfl
   simp only[AS.bW,AS.cy,iZ,apu]
   rcases hx with hx|⟨⟨g,hg1,hg2⟩,hl⟩
   ·exact .inr (.inl hx)
   ·exact .inr (.inr ⟨hl i rfl,g,hg1,hg2⟩)
  ·rintro i rfl hi
   simp only[AS.bW,AS.cy,iZ,apu]
   rw[ou a i v i iF,if_pos rfl]
   have tW:=hv i rfl
   cases x
   case lref b g off =>
    obtain⟨h1,h2,h3⟩:=tW
    refine⟨h1,h2,fun sf b' gO=>?_⟩
    by_cases Ah:b=i
    ·subst Ah;simp[iZ,bB] at sf
    ·simp only[iZ,if_neg Ah] at sf
     rw[ou a i v b iF,if_neg Ah] at gO
     exact h3 sf b' gO
   case lsr b g =>
    obtain⟨h1,h2,h3⟩:=tW
    refine⟨h1,h2,fun sf=>?_⟩
    by_cases Ah:b=i
    ·subst Ah;simp[iZ,bB] at sf
    ·simp only[iZ,if_neg Ah] at sf
     rw[ou a i v b iF,if_neg Ah]
     exact h3 sf
   case eref b g r z off =>
    obtain⟨h1,h2,h3⟩:=tW
    refine⟨h1,h2,fun sf b' k cap gO=>?_⟩
    by_cases Ah:b=i
    ·subst Ah;simp[iZ,bB] at sf
    ·simp only[iZ,if_neg Ah] at sf
     rw[ou a i v b iF,if_neg Ah] at gO
     exact h3 sf b' k cap gO
   all_goals exact tW
end
end
section
section
variable {P:Program}{G:Nat->List AV}{base nt:Nat}{L:List Nat}{gh:Gh}{w:World}{a:Act}{s:AS}
structure Out (G:Nat->List AV) (base nt:Nat) (L:List Nat) (gh:Gh) (w:World) (a:Act) (s:AS) (d:Option Nat) (x:AV) (s' : AS) (v' : Value) (aX:Gh) (w' : World):Prop where
 W:bc G base s'.H aX w'
 F:FR L nt aX w' (a.put d v') (s'.bW d x)
 E:Ext s.H.length gh w aX w'
def sQ(P:Program)(a:Act)(o:Oper)(w:World)(v' : Value)(w' : World):Prop :=
 (execOp a.eval o).run P w=.ok (.value v') w'\/((execOp a.eval o).run P w=.ok .skip w'/\v'=undef)
theorem sQ.wp{o:Oper}{v' : Value}{w' : World}{K:Act->World->Prop}{Q:Exit->Act->World->Prop}(h:sQ P a o w v' w')(hK:K (a.put o.dst v') w'):o.wp P a w K Q:=by
 unfold Oper.wp
 rcases h with h|⟨h,rfl⟩
 ·rw[h];exact hK
 ·rw[h];exact hK
theorem Out.pure(hW:bc G base s.H gh w)(hF:FR L nt gh w a s){d:Option Nat}(hd:∀ k,d=some k->k<nt){v:Value}{x:AV}(hv:mP gh s.H.length nt w s.T s.gen (gv a) v x) :
  Out G base nt L gh w a s d x s v gh w:=by
 refine⟨hW,?_,Ext.refl _ _ _ (fun b hb=>hW.cB b hb)⟩
 have:=hF.put (touch:=fun _=>False) (H':=s.H) (lo':=s.lo) (Step.refl _ _ _ _ (fun b hb=>hW.cB b hb)) (fun i=>⟨id,id,fun _=>id⟩) (an4 _) d hd hv
 exact this
theorem SL{n:Nat}{T:aU}{gen:Nat}{tm:Nat->Value}{i:Nat}{v:Value}{e:List (List AV)}{own:Bool}(h:CR gh n w (.sl i) v (.slice e own)):SR gh n nt w T gen tm i v (.slice e own):=h
def iS(S:Nat->Nat->Prop)(w:World)(sz:Nat)(C:Array Value)(E:List (List AV)):Prop :=
 C.size=E.length*sz/\(∀ (i:Nat) (r:List AV),E[i]?=some r->r.length=sz) /\
  ∀ (i j:Nat) (r:List AV) (x:AV),E[i]?=some r->r[j]?=some x->∃ v,C[i*sz+j]?=some v/\PR S w v x
theorem VR.ko{n:Nat}{v:Value}{x:AV}(h:VR gh n w v x)(hp:x.plain=true):PR gh.S w v x:=by
 cases h with
 | plain _ _ h=>exact h
 | full=>simp[AV.plain] at hp
 | ref=>simp[AV.plain] at hp
 | sref=>simp[AV.plain] at hp
 | mref=>simp[AV.plain] at hp
 | func f fs cs xs ys hf hc h1 h2 =>
  cases xs<;>cases ys<;>simp[AV.plain] at hp
  have e1:fs=#[]:=apY hf
  have e2:cs=#[]:=apY hc
  subst e1 e2
  exact .func f
 | iface t v x h =>
  cases x<;>simp[AV.plain] at hp
  all_goals
   cases h with
   | plain _ _ h=>exact .iface _ _ _ h
 | agg=>simp[AV.plain] at hp
 | tuple=>simp[AV.plain] at hp
theorem OV{n:Nat}{v:Value}{x:AV}{sz:Nat}{cs:List AV}(hx:∀ ds,x.cells=some ds->pz gh n w v.cells ds)(he:x.elem sz=some cs) :
  v.cells.size=sz/\cs.length=sz/\∀ (j:Nat) (y:AV),cs[j]?=some y->∃ u,v.cells[j]?=some u/\PR gh.S w u y:=by
 unfold AV.elem at he
 split at he
 ·cases he
 ·rename_i ds hds
  obtain⟨h1,h2⟩:=ag he
  injection h2 with h2
  subst h2
  simp only[an7,gI,aoq] at h1
  have hr:=(hx ds hds).dropped
  refine⟨by rw[hr.1];exact h1.1,h1.1,fun j y hy=>?_⟩
  have hj:j<v.cells.size:=by rw[hr.1];exact (an2.1 hy).1
  have hv:v.cells[j]?=some v.cells[j]:=aok hj
  exact⟨_,hv,((hr.2 j _ y hv hy).1).ko (an'.1 h1.2 y (aoh hy))⟩
theorem tN{i n sz j:Nat}(hi:i<n)(hj:j<sz):i*sz+j<n*sz:=by
 have:(i+1)*sz<=n*sz:=aoo _ hi
 rw[aoM] at this
 omega
theorem iS.put{S:Nat->Nat->Prop}{sz:Nat}{C D:Array Value}{E:List (List AV)}{cs:List AV}{i:Nat}(h:iS S w sz C E)(hi:i<E.length)(hD:D.size=sz)(ia:cs.length=sz)
  (de:∀ (j:Nat) (y:AV),cs[j]?=some y->∃ u,D[j]?=some u/\PR S w u y):iS S w sz (D.zipIdx.foldl (fun q (c,k)=>q.setIfInBounds (i*sz+k) c) C) (E.set i cs):=by
 have e:D.zipIdx.foldl (fun q (c,k)=>q.setIfInBounds (i*sz+k) c) C=(D.toList.zipIdx 0).foldl (fun q (c,k)=>q.setIfInBounds (i*sz+k) c) C:=by
  rw[<- Array.foldl_toList,Array.toList_zipIdx]
 have hDl:D.toList.length=sz:=by simpa using hD
 have hle:i*sz+sz<=C.size:=by
  have:(i+1)*sz<=E.length*sz:=aoo _ hi
  rw[aoM] at this
  rw[h.1];omega
 rw[e]
 refine⟨by rw[nx,h.1];simp,fun k r hk=>?_,fun k j r x hk hj=>?_⟩
 ·rw[ao8] at hk
  split at hk
  ·rename_i N6
   subst N6
   injection hk with hk;subst hk;exact ia
  ·exact h.2.1 k r hk
 ·rw[oC _ _ _ _ _ (by rw[hDl];omega)]
  simp only[aos,hDl]
  rw[ao8] at hk
  split at hk
  ·rename_i N6
   subst N6
   ·injection hk with hk
    subst hk
    have vS:j<sz:=by rw[<- ia];exact (an2.1 hj).1
    rw[if_pos ⟨by omega,by omega⟩]
    obtain⟨u,hu,hp⟩:=de j x hj
    refine⟨u,?_,hp⟩
    rw[show i*sz+j-i*sz=j by omega]
    simpa using hu
  ·rename_i N6
   have vS:j<sz:=by rw[<- h.2.1 k r hk];exact (an2.1 hj).1
   have nN:¬ (i*sz<=k*sz+j/\k*sz+j<i*sz+sz):=by
    rintro ⟨c1,c2⟩
    have:i=k:=by
     rcases aqm i k with h'|h'|h'
     ·have:(i+1)*sz<=k*sz:=aoo _ h'
      rw[aoM] at this;omega
     ·exact h'
     ·have:(k+1)*sz<=i*sz:=aoo _ h'
      rw[aoM] at this;omega
    exact N6 this
   rw[if_neg nN]
   exact h.2.2 k j r x hk hj
theorem Bp{S:Nat->Nat->Prop}{sz:Nat} : ∀ (parts:List (Nat × Value)) (ip:List (Nat × AV)) (C:Array Value) (E E' : List (List AV)),iS S w sz C E->dp sz E ip=some E'->parts.length=ip.length ->
  (∀ (j:Nat) (p:Nat × Value) (q:Nat × AV),parts[j]?=some p->ip[j]?=some q->p.1=q.1/\∀ cs,q.2.elem sz=some cs->p.2.cells.size=sz/\cs.length=sz/\∀ (j:Nat) (y:AV),cs[j]?=some y->∃ u,p.2.cells[j]?=some u/\PR S w u y) ->
  ∃ C',Instr.fill (fun i=>some (i*sz,sz)) C parts=some C'/\iS S w sz C' E'
 | [],[],C,E,E',h,hb,_,_=>by simp[dp] at hb;subst hb;exact⟨C,rfl,h⟩
 | p :: parts,q :: ip,C,E,E',h,hb,hl,hp=>by
  obtain⟨h1,h2⟩:=hp 0 p q rfl rfl
  obtain⟨i,v⟩:=p
  obtain⟨i',x⟩:=q
  simp only at h1
  subst h1
  simp only[dp] at hb
  split at hb
  ·cases hb
  ·rename_i cs ia
   obtain⟨h3,gO⟩:=ag hb
   have hi:i<E.length:=by simpa [aoE] using h3
   obtain⟨c1,c2,c3⟩:=h2 cs ia
   obtain⟨C',hf,cb⟩:=Bp parts ip _ _ E' (h.put hi c1 c2 c3) gO (by simpa using hl) (fun j p q mI hq'=>hp (j+1) p q (by simpa using mI) (by simpa using hq'))
   refine⟨C',?_,cb⟩
   unfold Instr.fill
   simp only
   have hle:i*sz+sz<=C.size:=by
    have:(i+1)*sz<=E.length*sz:=aoo _ hi
    rw[aoM] at this
    rw[h.1];omega
   have nN:¬ (decide (v.cells.size≠sz) || decide (i*sz+v.cells.size>C.size))=true:=by
    simp at c1;simp;omega
   rw[if_neg nN]
   exact hf
 | [],_ :: _,_,_,_,_,_,hl,_=>by simp at hl
 | _ :: _,[],_,_,_,_,_,hl,_=>by simp at hl
theorem iS.slice{S:Nat->Nat->Prop}{sz:Nat}{C:Array Value}{E:List (List AV)}{w' : World}{ty:TypeId}(h:iS S w sz C E){gh:Gh}(hS:gh.S=S){C' : Array Value}{p:bM}(hp:fI w w' (.cells C' ty))
  (hW:∀ b o,S b o->b<w.heap.size) (hC:∀ j,j<C.size->C'[j]?=C[j]?) {q:Nat->Prop} (hq:∀ j,j<E.length*sz->q j) (cap:Nat) (j4:E.length<=cap) :
  PR (gh.alloc w.heap.size p q).S w' (.slice (some ⟨w.heap.size,0,none⟩) E.length cap) (.slice E false):=by
 subst hS
 have key:∀ (i j:Nat) (r:List AV) (x:AV),E[i]?=some r->r[j]?=some x->∃ v,C[i*sz+j]?=some v/\PR gh.S w v x/\i*sz+j<E.length*sz:=by
  intro i j r x hi hj
  obtain⟨v,hv,l9⟩:=h.2.2 i j r x hi hj
  exact⟨v,hv,l9,by rw[<- h.1];exact (aob.1 hv).1⟩
 refine .slice w.heap.size 0 E.length cap sz E (fun i j=>C.getD (i*sz+j) undef) rfl j4 h.2.1 ?_ ?_
 ·intro i j r x hi hj
  obtain⟨v,hv,l9,bA⟩:=key i j r x hi hj
  have nO:i*sz+j<C.size:=by rw[h.1];exact bA
  have hg:C.getD (i*sz+j) undef=v:=by
   rw[aok nO] at hv
   injection hv with hv
   simp[nO,hv]
  refine⟨.inr ⟨rfl,by simpa using hq _ bA⟩,?_,by rw[hg];exact l9.fR⟩
  rw[hg,Nat.zero_add]
  simp only[World.cell?,hp.new]
  simpa [hC _ nO] using hv
 ·intro i j r x hi hj
  obtain⟨v,hv,l9,bA⟩:=key i j r x hi hj
  have nO:i*sz+j<C.size:=by rw[h.1];exact bA
  have hg:C.getD (i*sz+j) undef=v:=by
   rw[aok nO] at hv
   injection hv with hv
   simp[nO,hv]
  rw[hg]
  exact l9.mono (fun b o ho=>.inl ho) (fun b o ho=>cell_of_heap (hp.old b (hW b o ho))) (fun b E ck hs hb=>by rw[hp.old b (hW b 0 hs)];exact hb)
end
end
section
section
variable {P:Program}{G:Nat->List AV}{base nt:Nat}{L:List Nat}{gh:Gh}{w w' : World}{a:Act}{s:AS}{H:ai}
def Oa:Option Nat->bM
 | some d=>.sl d
 | none=>.none
def H9:Option Nat->bM
 | some d=>.bx d
 | none=>.none
theorem ot(d:Option Nat):Oa d≠.outer:=by cases d<;>simp[Oa]
theorem ua(d:Option Nat):H9 d≠.outer:=by cases d<;>simp[H9]
theorem FR.grown{aX:Gh}{touch:bM->Prop}(h:FR L nt gh w a s)(st:Step touch s.H.length gh w aX w')(ht:∀ i,¬ touch (.bx i)/\¬ touch (.sl i)/\∀ j,¬ touch (.sc i j))
  {H' : ai} {lo' : Nat} (hH:s.H.length<=H'.length):FR L nt aX w' a { s with H:=H',lo:=lo' } :=
 h.update st h.defers h.size hH (an4 _) (fun _=>False) (fun i _=>⟨rfl,fun _=>⟨rfl,ht i⟩⟩) (fun _ h=>h.elim) (fun _ h=>h.elim)
def Gh.bL(gh:Gh)(b n:Nat):Gh:={ gh.alloc b (.hb n) (fun _=>False) with ρ:=fun l=>if l=n then b else gh.ρ l }
theorem gG(hW:bc G base H gh w){o:Obj}(hp:fI w w' o):Step (fun _=>False) H.length gh w (gh.bL w.heap.size H.length) w':=by
 have h:=iK hW hp (p:=.hb H.length) (by simp) (fun _=>False) H.length
 refine⟨h.S,h.cell,h.size,h.os,h.tape,h.output,h.Ap,h.fresh,fun loc hl=>?_,h.len,h.mp⟩
 show (if loc=H.length then _ else _)=_
 rw[if_neg (by omega)]
theorem jQ(hW:bc G base H gh w){o:Obj}(hp:fI w w' o):Ext H.length gh w (gh.bL w.heap.size H.length) w':=by
 refine⟨(gG hW hp).mono (fun _ h=>h.elim),fun b hb=>?_⟩
 have gO:(if b=w.heap.size then bM.hb H.length else gh.κ b)=.outer:=hb
 split at gO
 ·cases gO
 ·exact gO
theorem bc.bL(hW:bc G base H gh w){C:Array Value}{ty:TypeId}(hp:fI w w' (.cells C ty)){cs:List AV}(cb:pz gh H.length w C cs)(hr:cs.all (bD H.length)=true) :
  bc G base (H++[.box ty cs]) (gh.bL w.heap.size H.length) w':=by
 have st:=gG hW hp
 refine⟨apk hW.size st.size,?_,?_,fun g j x hx=>?_,fun loc me ds hl=>?_,fun loc me ds hl=>?_,fun g hg=>(hW.xE g hg).imp fun ty h=>st.len g ty _ h,hW.kB st (fun b o m h=>h.elim .inl (fun h=>h.2.elim)),fun loc o hl=>?_,fun loc me ds hl=>?_⟩
 ·intro b o ho
  rw[hp.size]
  rcases ho with ho|⟨_,ho⟩
  ·have:=hW.nT b o ho;omega
  ·exact ho.elim
 ·intro b hb
  rw[hp.size]
  have gO:(if b=w.heap.size then bM.hb H.length else gh.κ b)≠.none:=hb
  split at gO
  ·rename_i e
   have:=hW.size
   omega
  ·have:=hW.pR b gO;omega
 ·obtain⟨v,h1,h2,h3⟩:=hW.aZ g j x hx
  exact⟨v,(st.cell g j h3).trans h1,h2.mono st.S st.cell st.mp,st.S g j h3⟩
 ·rw[aod,apr]
  by_cases bA:loc<H.length
  ·rw[aot bA] at hl
   have h:=(hW.boxes loc me ds hl).mono st (n':=H.length+1) (ao6 _) id (fun _=>id)
   rw[st.ρ loc bA];exact h
  ·rw[aou (by omega)] at hl
   have hz:loc=H.length:=by
    have:=(an2.1 hl).1
    simp at this;omega
   subst hz
   simp only[ap7,aor,anV,cJ.box.injEq] at hl
   obtain⟨rfl,rfl⟩:=hl
   have hρ:(gh.bL w.heap.size H.length).ρ H.length=w.heap.size:=by simp[Gh.bL]
   rw[hρ]
   refine⟨by simp[Gh.bL,Gh.alloc],?_,C,ty,hp.new,apy cb.1.symm,fun j v x hv hx=>?_⟩
   ·rintro o (ho|⟨_,ho⟩)
    ·have:=hW.nT _ o ho;omega
    ·exact ho
   ·obtain⟨h1,h2⟩:=cb.2 j v x hv hx
    exact⟨h2,.inl (h1.mono st (ao6 _))⟩
 ·by_cases bA:loc<H.length
  ·rw[aot bA] at hl
   exact hW.refs loc me ds hl
  ·rw[aou (by omega)] at hl
   have hz:loc=H.length:=by
    have:=(an2.1 hl).1
    simp at this;omega
   subst hz
   simp only[ap7,aor,anV,cJ.box.injEq] at hl
   obtain⟨rfl,rfl⟩:=hl
   exact hr
 ·rw[aod,apr]
  by_cases bA:loc<H.length
  ·rw[aot bA] at hl
   rw[st.ρ loc bA]
   exact (hW.more loc o hl).mono st (ao6 _) id (fun _=>id)
  ·rw[aou (by omega)] at hl
   have hz:loc=H.length:=by
    have:=(an2.1 hl).1
    simp at this;omega
   subst hz
   simp only[ap7,aor,anV] at hl
   subst hl
   trivial
 ·by_cases bA:loc<H.length
  ·rw[aot bA] at hl
   rw[st.ρ loc bA]
   exact fun hf=>st.len _ _ _ (hW.types loc me ds hl hf)
  ·rw[aou (by omega)] at hl
   have hz:loc=H.length:=by
    have:=(an2.1 hl).1
    simp at this;omega
   subst hz
   simp only[ap7,aor,anV,cJ.box.injEq] at hl
   obtain⟨rfl,rfl⟩:=hl
   have hρ:(gh.bL w.heap.size H.length).ρ H.length=w.heap.size:=by simp[Gh.bL]
   rw[hρ]
   exact fun _=>⟨C,(0,0),hp.new,cb.1⟩
theorem Out.bL(hW:bc G base s.H gh w)(hF:FR L nt gh w a s){d:Option Nat}(hd:∀ k,d=some k->k<nt){C:Array Value}{ty:TypeId}(hp:fI w w' (.cells C ty)){cs:List AV}(cb:pz gh s.H.length w C cs)
  (hr:cs.all (bD s.H.length)=true) :
  Out G base nt L gh w a s d (.ref s.H.length 0) (s.gL ⟨s.H++[.box ty cs],s.H.length⟩) (.pointer (some ⟨w.heap.size,0,none⟩)) (gh.bL w.heap.size s.H.length) w':=by
 have hρ:(gh.bL w.heap.size s.H.length).ρ s.H.length=w.heap.size:=by simp[Gh.bL]
 have hv:VR (gh.bL w.heap.size s.H.length) (s.H++[cJ.box ty cs]).length w' (.pointer (some ⟨w.heap.size,0,none⟩)) (.ref s.H.length 0):=by
  have:=VR.ref (gh:=gh.bL w.heap.size s.H.length) (w:=w') (n:=(s.H++[cJ.box ty cs]).length) s.H.length 0 (by simp)
  rw[hρ] at this;exact this
 exact⟨hW.bL hp cb hr,hF.put (gG hW hp) (fun i=>⟨id,id,fun _=>id⟩) (by simp) d hd (.dO hv),jQ hW hp⟩
theorem Aw{v:Value}{x:AV}(h:j2 v=some x):x.drop.plain=true:=by
 unfold j2 at h
 split at h<;>first|(injection h with h;subst h;rfl)|cases h
theorem ng:∀ {vs:List Value} {xs:List AV},ft vs=some xs->∀ x,x∈xs->x.drop.plain=true
 | [],xs,h=>by simp[ft] at h;subst h;simp
 | v :: r,xs,h=>by
  simp only[ft,anU,anT] at h
  obtain⟨x,hx,ys,hy,rfl⟩:=h
  intro z hz
  rcases aoH.1 hz with rfl|hz
  ·exact Aw hx
  ·exact ng hy z hz
theorem wy{t:TypeId}{z:List AV}(h:gR P t=some z):∀ x,x∈z->x.drop.plain=true:=by
 simp only[gR,anU] at h
 obtain⟨zv,_,hc⟩:=h
 exact ng hc
theorem uN{loc:Nat}{x:AV}(h:x.drop.plain=true):bD loc x=true:=by
 cases x<;>first|exact h|(simp[AV.drop,AV.plain] at h;done)|skip
 rename_i f fs cs
 cases fs<;>cases cs<;>first|rfl|(simp[AV.drop,AV.plain] at h)
theorem oD{loc:Nat}{x:AV}(h:bD loc x=true):bD loc x.drop=true:=by
 cases x<;>exact h
theorem wm{t:TypeId}{i:TypeInfo}{zv:Value}(hi:P.info? t=some i)(hz:i.zero=some zv)(w:World) :
  (Instr.alloc t true (.tuple #[])).run P w=.ok (.pointer (some ⟨w.heap.size,0,none⟩)) (w.alloc (.cells zv.cells t)):=by
 simp[Instr.alloc,zeroValue,typeInfo,hi,hz,newVar,newRow]
theorem NY{t:TypeId}{kp:Bool}{z:List AV}(h:(gR P t).map (fun z=>cond kp (z.map mD) z)=some z):∀ x,x∈z->x.drop.plain=true:=by
 simp only[anT] at h
 obtain⟨z0,h0,rfl⟩:=h
 cases kp with
 | false=>exact wy h0
 | true =>
  intro x hx
  obtain⟨y,hy,rfl⟩:=aoD.1 hx
  have:=wy h0 y hy
  unfold mD
  split
  ·rfl
  ·exact this
theorem My(hW:bc G base s.H gh w)(hF:FR L nt gh w a s){o:Oper}{t:TypeId}{z:List AV}(ho:o.op=.alloc t){kp:Bool}(hz:(gR P t).map (fun z=>cond kp (z.map mD) z)=some z)(hd:∀ k,o.dst=some k->k<nt) :
  ∃ v' aX w',sQ P a o w v' w'/\Out G base nt L gh w a s o.dst (.ref s.H.length 0) (s.gL ⟨s.H++[.box t z],s.H.length⟩) v' aX w':=by
 obtain⟨i,zv,hi,M5,cb⟩:=pw (gh:=gh) (n:=s.H.length) (w:=w) hz
 refine⟨_,_,_,.inl ?_,Out.bL hW hF hd (.alloc w (.cells zv.cells t)) cb ?_⟩
 ·simp[execOp,ho,wm hi M5]
 ·exact an'.2 fun x hx=>uN (NY hz x hx)
theorem aab(hW:bc G base s.H gh w)(hF:FR L nt gh w a s){o:Oper}{t:TypeId}{x:Operand}{y:aC}{cs:List AV}(ho:o.op=.box t x)(hc:au nt x=some y)(ia:(y.eval G s.T).drop.cells=some cs)
  (fH:cs.all (bD s.H.length)=true) (hd:∀ k,o.dst=some k->k<nt) :
  ∃ v' aX w',sQ P a o w v' w'/\Out G base nt L gh w a s o.dst (.ref s.H.length 0) (s.gL ⟨s.H++[.box t (cs.map AV.drop)],s.H.length⟩) v' aX w':=by
 have cb:=(ph hW hF hc cs ia).dropped
 refine⟨_,_,_,.inl ?_,Out.bL hW hF hd (.alloc w (.cells (a.eval x).cells t)) cb ?_⟩
 ·simp[execOp,ho,Instr.box,newVar,newRow]
 ·refine an'.2 fun x hx=>?_
  obtain⟨y,hy,rfl⟩:=aoD.1 hx
  exact oD (an'.1 fH y hy)
theorem Mz(hW:bc G base s.H gh w)(hF:FR L nt gh w a s){o:Oper}{t:TypeId}{z:List AV}(ho:o.op=.alloc t){kp:Bool}(hz:(gR P t).map (fun z=>cond kp (z.map mD) z)=some z)(hd:∀ k,o.dst=some k->k<nt/\k∈L) :
  ∃ v' aX w',sQ P a o w v' w'/\Out G base nt L gh w a s o.dst (.lbox s.gen z) { s with gen:=s.gen+1 } v' aX w':=by
 obtain⟨i,zv,hi,M5,cb⟩:=pw (gh:=gh) (n:=s.H.length) (w:=w) hz
 have hp:=fI.alloc w (.cells zv.cells t)
 have ff:=ua o.dst
 have st:=iK hW hp ff (fun _=>False) s.H.length
 have GC:FR L nt (gh.alloc w.heap.size (H9 o.dst) fun _=>False) (w.alloc (.cells zv.cells t)) a s:=hF.grown (H':=s.H) (lo':=s.lo) st (fun i=>⟨id,id,fun _=>id⟩) (an4 _)
 have mg:=hW.alloc hp ff (fun _=>False) (fun _ _ h=>h.elim)
 refine⟨.pointer (some ⟨w.heap.size,0,none⟩),_,_,.inl ?_,mg,GC.R0 (gen':=s.gen+1) (ao6 _) (fun b hb=>mg.cB b hb) o.dst (fun k hk=>(hd k hk).1) (.inr ⟨⟨s.gen,an4 _,rfl⟩,fun k hk=>(hd k hk).2⟩) ?_,mQ hW hp ff _ _⟩
 ·simp[execOp,ho,wm hi M5]
 ·intro k hk
  refine⟨aqc _,w.heap.size,rfl,?_⟩
  rw[hk] at st ⊢
  refine⟨by simp[Gh.alloc,H9],?_,zv.cells,t,hp.new,apy cb.1.symm,fun j v x hv hx=>?_⟩
  ·rintro o (ho|⟨_,ho⟩)
   ·have:=hW.nT _ o ho;omega
   ·exact ho
  ·obtain⟨h1,h2⟩:=cb.2 j v x hv hx
   exact⟨h2,.inl (h1.mono st (an4 _))⟩
theorem TL(hW:bc G base s.H gh w)(hF:FR L nt gh w a s){o:Oper}{t:TypeId}{x:Operand}{y:aC}{cs:List AV}(ho:o.op=.box t x)(hc:au nt x=some y)(ia:(y.eval G s.T).drop.cells=some cs)(hd:∀ k,o.dst=some k->k<nt/\k∈L) :
  ∃ v' aX w',sQ P a o w v' w'/\Out G base nt L gh w a s o.dst (.lbox s.gen (cs.map AV.drop)) { s with gen:=s.gen+1 } v' aX w':=by
 have cb:=(ph hW hF hc cs ia).dropped
 have hp:=fI.alloc w (.cells (a.eval x).cells t)
 have ff:=ua o.dst
 have st:=iK hW hp ff (fun _=>False) s.H.length
 have GC:FR L nt (gh.alloc w.heap.size (H9 o.dst) fun _=>False) (w.alloc (.cells (a.eval x).cells t)) a s:=hF.grown (H':=s.H) (lo':=s.lo) st (fun i=>⟨id,id,fun _=>id⟩) (an4 _)
 have mg:=hW.alloc hp ff (fun _=>False) (fun _ _ h=>h.elim)
 refine⟨.pointer (some ⟨w.heap.size,0,none⟩),_,_,.inl ?_,mg,GC.R0 (gen':=s.gen+1) (ao6 _) (fun b hb=>mg.cB b hb) o.dst (fun k hk=>(hd k hk).1) (.inr ⟨⟨s.gen,an4 _,rfl⟩,fun k hk=>(hd k hk).2⟩) ?_,mQ hW hp ff _ _⟩
 ·simp[execOp,ho,Instr.box,newVar,newRow]
 ·intro k hk
  refine⟨aqc _,w.heap.size,rfl,?_⟩
  rw[hk] at st ⊢
  refine⟨by simp[Gh.alloc,H9],?_,(a.eval x).cells,t,hp.new,apy cb.1.symm,fun j v x hv hx=>?_⟩
  ·rintro o (ho|⟨_,ho⟩)
   ·have:=hW.nT _ o ho;omega
   ·exact ho
  ·obtain⟨h1,h2⟩:=cb.2 j v x hv hx
   exact⟨h2,.inl (h1.mono st (an4 _))⟩
theorem yR(hW:bc G base s.H gh w)(hF:FR L nt gh w a s){o:Oper}{t e:TypeId}{n sz:Nat}{parts:Array (Nat × Operand)}{z Z:List AV}{ps:List (Nat × Nat × aC)}
  (ho:o.op=.build t parts) {kp:Bool} (hz:(gR P t).map (fun z=>cond kp (z.map mD) z)=some z) (hu:P.underlying t=some (.array n e)) (hs:fz P e=some sz) (hp:jZ nt sz parts.toList=some ps)
  (he:cF z (ps.map fun p=>(p.1,p.2.1,(p.2.2.eval G s.T).drop))=some Z) :
  ∃ v,(execOp a.eval o).run P w=.ok (.value v) w/\mP gh s.H.length nt w s.T s.gen (gv a) v (.agg Z):=by
 obtain⟨i,zv,hi,M5,cb⟩:=pw (gh:=gh) (n:=s.H.length) (w:=w) hz
 obtain⟨ie,hie,PK⟩:=mJ hs
 have inv:∀ (l:List (Nat × Operand)) (ps:List (Nat × Nat × aC)),jZ nt sz l=some ps->l.length=ps.length /\
   ∀ (j:Nat) (p:Nat × Operand) (q:Nat × Nat × aC),l[j]?=some p->ps[j]?=some q->q.1=p.1*sz/\q.2.1=sz/\au nt p.2=some q.2.2:=by
  intro l
  induction l with
  | nil=>intro ps h;simp[jZ] at h;subst h;exact⟨rfl,fun j p q h=>by simp at h⟩
  | cons p l ih =>
   intro ps h
   obtain⟨k,x⟩:=p
   simp only[jZ,anU,anT] at h
   obtain⟨y,hy,rest,hr,rfl⟩:=h
   obtain⟨h1,h2⟩:=ih rest hr
   refine⟨by simp[h1],fun j p q hp hq=>?_⟩
   cases j with
   | zero=>simp at hp hq;subst hp hq;exact⟨rfl,rfl,hy⟩
   | succ j=>exact h2 j p q (by simpa using hp) (by simpa using hq)
 obtain⟨hl,hinv⟩:=inv _ _ hp
 obtain⟨C',hf,uQ⟩:=yT (gh:=gh) (w:=w) (n:=s.H.length) (place:=fun i=>some (i*ie.size,ie.size)) ((parts.map fun p=>(p.1,a.eval p.2)).toList) (ps.map fun p=>(p.1,p.2.1,(p.2.2.eval G s.T).drop)) zv.cells z Z cb he (by simpa using hl) (by
  intro j p q hp hq
  simp only[aqr,aol,anT] at hp hq
  obtain⟨p0,Th,rfl⟩:=hp
  obtain⟨q0,hq0,rfl⟩:=hq
  obtain⟨h1,h2,hc⟩:=hinv j p0 q0 Th hq0
  exact⟨by simp[h1,h2,PK],ph hW hF hc⟩)
 have hb:P.built t (parts.map fun p=>(p.1,a.eval p.2)).toList=some C':=by
  unfold Program.built
  rw[hi,hu]
  simp only[M5,hie]
  exact hf
 refine⟨.agg C',by simp[execOp,ho,run_build w t _ C' hb],.dO (.agg _ _ uQ.1 (fun j v hj=>?_) (fun j v x hv hx=>(uQ.2 j v x hv hx).1))⟩
 have bA:j<Z.length:=by rw[<- uQ.1];exact (aob.1 hj).1
 exact (uQ.2 j v _ hj (an3 bA)).2
theorem NZ{t:TypeId}{z:List AV}{zv:Value}{sz len:Nat}(cb:pz gh H.length w zv.cells z)(fH:∀ x,x∈z->x.drop.plain=true)(hz:z.length=sz)(JJ:0<sz) :
  iS gh.S w sz ((Array.range (len*sz)).map (zv.cells[· % zv.cells.size]!)) (List.replicate len (z.map AV.drop)):=by
 have iF:zv.cells.size=sz:=by rw[cb.1,hz]
 refine⟨by simp,fun i r hi=>?_,fun i j r x hi hj=>?_⟩
 ·rw[aqK] at hi
  split at hi
  ·injection hi with hi;subst hi;simpa using hz
  ·cases hi
 ·rw[aqK] at hi
  split at hi
  ·rename_i bA
   injection hi with hi;subst hi
   simp only[aol,anT] at hj
   obtain⟨y,hy,rfl⟩:=hj
   have hj:j<sz:=by rw[<- hz];exact (an2.1 hy).1
   have xy:j<zv.cells.size:=by omega
   have aaZ:(i*sz+j) % zv.cells.size=j:=by rw[iF,Nat.mul_add_mod',Nat.mod_eq_of_lt hj]
   refine⟨zv.cells[j],?_,?_⟩
   ·have PN:i*sz+j<len*sz:=tN bA hj
    rw[Array.getElem?_map,aok (by simpa using PN)]
    simp only[Array.getElem_range,aoi,aaZ]
    congr 1
    exact getElem!_pos zv.cells j xy
   ·have hv:zv.cells[j]?=some zv.cells[j]:=aok xy
    exact (VR.dropped (cb.2 j _ y hv hy).1).ko (fH y (aoh hy))
  ·cases hi
theorem rA{k n sz:Nat}(h:k<n*sz):k / sz<n/\k % sz<sz/\k / sz*sz+k % sz=k:=by
 have iF:0<sz:=by
  rcases Nat.eq_zero_or_pos sz with h0|h0
  ·subst h0;simp at h
  ·exact h0
 refine⟨Nat.div_lt_of_lt_mul (by rw[aqi];exact h),Nat.mod_lt _ iF,?_⟩
 have:=Nat.div_add_mod k sz
 rw[aqi] at this
 exact this
theorem nG{S:Nat->Nat->Prop}{sz:Nat}{A:Array Value}{E:List (List AV)}{isB:Bool}{ty:TypeId}(h:iS S w sz A E)(lH:lO isB E=true)(hB:isB=true->ty=jc){k:Nat}{m:Int}(hk:k<E.length*sz)
  (hc:A[k]?=some (.int .u8 m)):ty=jc:=by
 cases isB with
 | true=>exact hB rfl
 | false =>
  exfalso
  obtain⟨h1,h2,h3⟩:=rA hk
  have hr:=an3 h1
  obtain⟨x,hx⟩:∃ x,E[k / sz][k % sz]?=some x:=⟨_,an3 (show k % sz<E[k / sz].length by rw[h.2.1 _ _ hr];exact h2)⟩
  obtain⟨v,hv,hp⟩:=h.2.2 _ _ _ _ hr hx
  rw[h3,hc] at hv
  injection hv with hv
  subst hv
  have hn:js E=true:=lH
  have h4:=an'.1 (an'.1 hn _ (aoh hr)) _ (aoh hx)
  cases hp<;>simp at h4
theorem w8(hW:bc G base s.H gh w)(hF:FR L nt gh w a s){t e:TypeId}{len sz:Nat}{parts:Array (Nat × Operand)}{z:List AV}{E:List (List AV)}{ps:List (Nat × aC)}
  (hu:P.underlying t=some (.slice e)) (hs:fz P e=some sz) (hz:gR P e=some z) (hp:kM nt parts.toList=some ps) (Da:len*sz<=16777216) (N8:z.length=sz) (JJ:0<sz)
  (he:dp sz (List.replicate len (z.map AV.drop)) (ps.map fun p=>(p.1,(p.2.eval G s.T).drop))=some E) :
  ∃ C',(Instr.buildSlice t len (parts.map fun p=>(p.1,a.eval p.2))).run P w=.ok (.slice (some ⟨w.heap.size,0,none⟩) len len) (w.alloc (.cells C' e))/\iS gh.S w sz C' E/\E.length=len:=by
 obtain⟨i,zv,hi,M5,cb⟩:=H6 (gh:=gh) (n:=s.H.length) (w:=w) hz
 obtain⟨ie,hie,PK⟩:=mJ hs
 rw[hi] at hie;injection hie with hie;subst hie
 have inv:∀ (l:List (Nat × Operand)) (ps:List (Nat × aC)),kM nt l=some ps->l.length=ps.length /\
   ∀ (j:Nat) (p:Nat × Operand) (q:Nat × aC),l[j]?=some p->ps[j]?=some q->q.1=p.1/\au nt p.2=some q.2:=by
  intro l
  induction l with
  | nil=>intro ps h;simp[kM] at h;subst h;exact⟨rfl,fun j p q h=>by simp at h⟩
  | cons p l ih =>
   intro ps h
   obtain⟨k,x⟩:=p
   simp only[kM,anU,anT] at h
   obtain⟨y,hy,rest,hr,rfl⟩:=h
   obtain⟨h1,h2⟩:=ih rest hr
   refine⟨by simp[h1],fun j p q hp hq=>?_⟩
   cases j with
   | zero=>simp at hp hq;subst hp hq;exact⟨rfl,hy⟩
   | succ j=>exact h2 j p q (by simpa using hp) (by simpa using hq)
 obtain⟨hl,hinv⟩:=inv _ _ hp
 obtain⟨C',hf,dH⟩:=Bp (w:=w) (S:=gh.S) (sz:=sz) ((parts.map fun p=>(p.1,a.eval p.2)).toList) (ps.map fun p=>(p.1,(p.2.eval G s.T).drop)) _ _ E (NZ (t:=e) (len:=len) cb (wy hz) N8 JJ) he (by simpa using hl) (by
  intro j p q hp hq
  simp only[aqr,aol,anT] at hp hq
  obtain⟨p0,Th,rfl⟩:=hp
  obtain⟨q0,hq0,rfl⟩:=hq
  obtain⟨h1,hc⟩:=hinv j p0 q0 Th hq0
  exact⟨h1.symm,fun cs ia=>OV (ph hW hF hc) ia⟩)
 have wW:E.length=len:=by
  have:∀ (ip:List (Nat × AV)) (es E:List (List AV)),dp sz es ip=some E->E.length=es.length:=by
   intro ip
   induction ip with
   | nil=>intro es E h;simp[dp] at h;rw[h]
   | cons q ip ih =>
    intro es E h
    obtain⟨i,v⟩:=q
    simp only[dp] at h
    split at h
    ·cases h
    ·obtain⟨_,h⟩:=ag h
     rw[ih _ _ h];simp
  rw[this _ _ _ he];simp
 have dm:(Instr.buildSlice t len (parts.map fun p=>(p.1,a.eval p.2))).run P w=.ok (.slice (some ⟨w.heap.size,0,none⟩) len len) (w.alloc (.cells C' e)):=by
  by_cases h0:len*sz=0
  ·have aeR:len=0:=by rcases Nat.mul_eq_zero.1 h0 with h|h<;>omega
   subst aeR
   have hE:ps=[]:=by
    cases hps:ps with
    | nil=>rfl
    | cons q r =>
     rw[hps] at he
     simp only[aoc,dp,List.replicate_zero,an1] at he
     split at he
     ·cases he
     ·obtain⟨h,_⟩:=ag he
      simp[aoE] at h
   have vo:parts.toList=[]:=by
    have:parts.toList.length=0:=by rw[hl,hE];rfl
    exact aoy.1 this
   have hpa:parts=#[]:=by simpa using vo
   subst hpa
   have Lr:Array.range 0=#[]:=rfl
   have MQ:C'=#[]:=by simpa [Instr.fill,Lr] using hf.symm
   subst MQ
   simp[Instr.buildSlice,run_underlying hu,sizeOf,typeInfo,hi,Instr.fill,newRow,Lr]
  ·exact run_buildSlice w t e len _ C' i zv hu hi M5 (by rw[PK];omega) (by rw[PK];exact h0) (by rw[PK];exact hf)
 exact⟨C',dm,dH,wW⟩
theorem Jg(hW:bc G base s.H gh w)(hF:FR L nt gh w a s){o:Oper}{t e:TypeId}{len sz:Nat}{parts:Array (Nat × Operand)}{z:List AV}{E:List (List AV)}{ps:List (Nat × aC)}{isB:Bool}
  (ho:o.op=.buildSlice t len parts) (hu:P.underlying t=some (.slice e)) (hs:fz P e=some sz) (hz:gR P e=some z) (hp:kM nt parts.toList=some ps)
  (lH:lO isB E=true) (PL:isB=true->e=jc) (Da:len*sz<=16777216) (N8:z.length=sz) (JJ:0<sz)
  (he:dp sz (List.replicate len (z.map AV.drop)) (ps.map fun p=>(p.1,(p.2.eval G s.T).drop))=some E) (hd:∀ k,o.dst=some k->k<nt) :
  ∃ v' aX w',sQ P a o w v' w'/\Out G base nt L gh w a s o.dst (.slice E true) s v' aX w':=by
 obtain⟨C',dm,dH,wW⟩:=w8 (P:=P) hW hF hu hs hz hp Da N8 JJ he
 have mI:=fI.alloc w (.cells C' e)
 have ff:=ot o.dst
 have Ib:=dH.slice (gh:=gh) rfl mI (p:=Oa o.dst) hW.nT (fun j _=>rfl) (q:=fun _=>True) (fun _ _=>trivial) E.length (an4 _)
 have hv:VR (gh.alloc w.heap.size (Oa o.dst) fun _=>True) s.H.length (w.alloc (.cells C' e)) (.slice (some ⟨w.heap.size,0,none⟩) E.length E.length) (.slice E true):=.full _ _ _ Ib trivial
 rw[wW] at hv
 have st:=iK hW mI ff (fun _=>True) s.H.length
 have GC:FR L nt (gh.alloc w.heap.size (Oa o.dst) fun _=>True) (w.alloc (.cells C' e)) a s:=hF.grown (H':=s.H) (lo':=s.lo) st (fun i=>⟨id,id,fun _=>id⟩) (an4 _)
 have mg:=hW.alloc mI ff (fun _=>True) (fun k m _ hc=>by
  rw[cell_of_row _ _ k _ _ _ mI.new] at hc
  have hk:k<E.length*sz:=by rw[<- dH.1];exact (aob.1 hc).1
  have:=nG dH lH PL hk hc
  subst this
  exact⟨C',(0,0),mI.new⟩)
 refine⟨.slice (some ⟨w.heap.size,0,none⟩) len len,_,_,.inl ?_,mg,GC.R0 (gen':=s.gen) (an4 _) (fun b hb=>mg.cB b hb) o.dst hd (.inl rfl) (fun k hk=>?_),mQ hW mI ff _ _⟩
 ·have:(parts.map fun x=>(x.1,a.eval x.2))=parts.map fun p=>(p.1,a.eval p.2):=rfl
  simp[execOp,ho,dm]
 ·exact SL (.inl hv)
end
end
end Go.Abs
