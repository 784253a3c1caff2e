/-
  A part of the proof of SyntaxLossless: AbsOps3, AbsOps4, AbsOps5, AbsOps6, AbsStep, AbsOps7, AbsOps8, AbsOps9.
-/
import Derived.Great.BuildSlice
import Derived.Test.YtkoebdjmmgckdaaGreatDoorQ02
set_option linter.unusedSimpArgs false
set_option linter.unusedVariables false
set_option linter.defProp false
noncomputable section
namespace Go.Abs
variable {s':AS}{parts:Array (Nat × Operand)}{fs:Array Go.Field}{C C' ds:Array Value}{op:BinOp}{agg isB kp own:Bool}{a8:Gh}{m:Int}{E e:List (List AV)}{ps:List (Nat × Nat × aI)}{X Y Z cs l xs z:List AV}{b cap gen gen' h i j k len loc off sz:Nat}{fr:Nat × Nat}{S:Nat->Nat->Prop}{tm:Nat->Value}{o:Oper}{x:Operand}{d:Option Nat}{hi lo mx:Option Operand}{IN PO R1:Option aI}{e0 ty:TypeId}{u v zv:Value}{ii ix y:aI}{T:az}{p:bF}{touch:bF->Prop}
section
section
variable {P:Program}{G:Nat->List AV}{base nt:Nat}{L:List Nat}{gh:Gh}{w:World}{a:Act}{s:AS}
theorem WQ{n:Nat}{z:AV}(hl:ah false agg sz off xs=some z){t:TypeId}(hg:og P t=some agg)(hs:fe P t=some sz)
  {cs:Array Value} (j7:cs.size=xs.length) (gV:∀ (j:Nat) (v:Value),cs[j]?=some v->v.oneCell'=true)
  (h:∀ (j:Nat) (v:Value) (x:AV),cs[j]?=some v->xs[j]?=some x->VR gh n w v x) :
  ∃ v,(part t cs off).run P w=.ok v w/\VR gh n w v z:=by
 unfold ah at hl;cases agg
 ·simp only[cond_false,aw0] at hl
  obtain⟨x,hx,rfl⟩:=hl;have hj:off<cs.size:=by rw[j7];exact (aw5.1 hx).1
  have hv:cs[off]?=some cs[off]:=axj hj;exact⟨cs[off],by simp[part,jh hg,hv],VR.dropped (h off _ x hv hx)⟩
 ·simp only[cond_true] at hl
  obtain⟨h0,h1⟩:=ay hl;have h0' : off+sz<=xs.length:=by simpa [axv] using h0
  injection h1 with h1
  subst h1;refine⟨.agg (cs.extract off (off+sz)),by simp[part,jh hg,fa hs],.agg _ _ df ?_ ?_⟩
  ·intro j v hj
   rw[azC] at hj
   grind
  ·grind [VR.dropped]
def Uu(hW:aY G base s.H gh w)(hF:FR L nt gh w a s){t e:TypeId}{i:Operand}{n:Nat}{z:AV}
  (ho:o.op=.index t x i) (hc:au nt x=some ix) (hi:au nt i=some ii) (hu:P.underlying t=some (.array n e)) (hs:fe P e=some sz) (hg:og P e=some agg)
  (hk:asNat (ii.eval G s.T)=some k) (RL:k<n) (hz:ix.eval G s.T=.agg xs) (he:ah false agg sz (k*sz) xs=some z) :
  ∃ v,(execOp a.eval o).run P w=.ok (.value v) w/\pn gh s.H.length nt w s.T s.gen (gv a) v z:=by
 obtain⟨cs,hA,j7,gV,h⟩:=(cO hW hF hc hz rfl).mo;obtain⟨kd,IG⟩:=mN hW hF hi hk;obtain⟨v,h1,h2⟩:=WQ he hg hs j7 gV h;exact⟨v,by simp[execOp,ho,hA,IG,Instr.index,asIntOf,run_underlying hu,fa hs,RL,h1],.dw h2⟩
def Kx(hW:aY G base s.H gh w)(hF:FR L nt gh w a s){t:TypeId}{i:Operand}{l:List UInt8}{b:UInt8}
  (ho:o.op=.index t x i) (hc:au nt x=some ix) (hi:au nt i=some ii) (hu:P.underlying t=some .string)
  (hk:asNat (ii.eval G s.T)=some k) (hz:ix.eval G s.T=.str l) (hb:l[k]?=some b) :
  ∃ v,(execOp a.eval o).run P w=.ok (.value v) w/\pn gh s.H.length nt w s.T s.gen (gv a) v (.int .u8 b.toNat):=by
 obtain⟨q,hA,hl⟩:=(cO hW hF hc hz rfl).ku;obtain⟨kd,IG⟩:=mN hW hF hi hk;have hq:q[k]?=some b:=by
  obtain⟨⟨d⟩⟩:=q;simp at hl;subst hl;have Gf:=(aw5.1 hb).1;have fU:k<(ByteArray.mk ⟨d⟩).size:=Gf;rw[ByteArray.getElem?_lt' _ _ fU];rw[aw3 Gf] at hb;exact hb
 exact⟨_,by simp[execOp,ho,hA,IG,Instr.index,asIntOf,run_underlying hu,hq],.dw (.plain _ _ (.int _ _))⟩
theorem VR.Dg{n:Nat}{x:AV}(h:VR gh n w v x):VR gh n w v x.cU:=by
 cases x<;>try exact VR.dropped h
 obtain⟨cs,rfl,hs,gV,h⟩:=h.mo;refine .agg _ _ (yd hs) gV fun j v x hj hx=>?_
 grind [VR.dropped]
def Nc(hW:aY G base s.H gh w)(hF:FR L nt gh w a s){vs:List AV}{z:AV}
  (ho:o.op=.extract x i) (hc:au nt x=some ix) (hz:ix.eval G s.T=.tuple vs) (hi:vs[i]?=some z) :
  ∃ v,(execOp a.eval o).run P w=.ok (.value v) w/\pn gh s.H.length nt w s.T s.gen (gv a) v z.cU:=by
 obtain⟨us,hA,j7,h⟩:=(cO hW hF hc hz rfl).vM;have hj:i<us.size:=by rw[j7];exact (aw5.1 hi).1
 have hv:us[i]?=some us[i]:=axj hj;exact⟨us[i],by simp[execOp,ho,hA,Instr.extract,hv],.dw (VR.Dg (h i _ z hv hi))⟩
def Y7{t:TypeId}{k:sO}{V:Value}{X z:AV}{n:Nat}(hv:VR gh n w V X.drop)(ht:match k with|.str=>P.underlying t=some .string|.sl=>∃ e,P.underlying t=some (.slice e)|.arr m=>∃ e,P.underlying t=some (.array m e))
  (he:ny k X=some z) (ty:TypeId):∃ v,(Builtin.len_ #[t] ty #[V]).run P w=.ok v w/\VR gh n w v z:=by
 cases k<;>cases X<;>simp only[ny,aw2,reduceCtorEq] at he<;>subst he
 case str.str l =>
  obtain⟨q,rfl,rfl⟩:=hv.ku;refine⟨.int .i64 q.size,by simp[Builtin.len_,run_underlying ht,goInt],?_⟩
  exact .plain _ _ (by rw[show (q.data.toList.length:Int)=(q.size:Int) by simp];exact .int _ _)
 case sl.slice el own =>
  obtain⟨e,ht⟩:=ht;have hp:=hv.jx;cases hp with
  | dr=>exact⟨.int .i64 0,by simp[Builtin.len_,run_underlying ht,goInt],.plain _ _ (.int _ _)⟩
  | slice b of m cap sz _ f hn kQ bQ cZ dh=>exact⟨.int .i64 el.length,by simp[Builtin.len_,run_underlying ht,goInt,hn],.plain _ _ (.int _ _)⟩
 case sl.sref loc off m zz =>
  obtain⟨e,ht⟩:=ht;obtain⟨_,cap,_,_,rfl⟩:=hv.kS;exact⟨.int .i64 m,by simp[Builtin.len_,run_underlying ht,goInt],.plain _ _ (.int _ _)⟩
 case sl.al =>
  obtain⟨e,ht⟩:=ht;have hp:=hv.mT;subst hp;exact⟨.int .i64 0,by simp[Builtin.len_,run_underlying ht,goInt],.plain _ _ (.int _ _)⟩
 all_goals
  obtain⟨e,ht⟩:=ht;exact⟨.int .i64 _,by simp[Builtin.len_,run_underlying ht,goInt],.plain _ _ (.int _ _)⟩
theorem nj:∀ {xs:List Operand} {ys:List aI},kJ nt xs=some ys->xs.length=ys.length/\∀ (j:Nat) (x:Operand) (y:aI),xs[j]?=some x->ys[j]?=some y->au nt x=some y
 | [],ys,h=>by simp[kJ] at h;subst h;exact⟨rfl,fun j x y h=>by simp at h⟩
 | x :: r,ys,h=>by
  simp only[kJ,aw1,aw0] at h;obtain⟨y,hy,zs,hz,rfl⟩:=h;obtain⟨h1,h2⟩:=nj hz
  grind
theorem Ic(hW:aY G base s.H gh w)(hF:FR L nt gh w a s){xs:List Operand}{ys:List aI}(hc:kJ nt xs=some ys)(hf:(ys.map fun y=>y.addr G s.T).all aO=true) :
  ∀ (j:Nat) (v:Value) (x:AV),(xs.map a.eval)[j]?=some v->(ys.map fun y=>(y.addr G s.T).drop)[j]?=some x->VR gh s.H.length w v x:=by
 grind [nj,qG]
def Rn(hW:aY G base s.H gh w)(hF:FR L nt gh w a s){f:Fn}{fs cs:Array Operand}{ifs ics:List aI}
  (ho:o.op=.makeFunc f fs cs) (h1:kJ nt fs.toList=some ifs) (h2:kJ nt cs.toList=some ics)
  (hf1:(ifs.map fun y=>y.addr G s.T).all aO=true) (Ns:(ics.map fun y=>y.addr G s.T).all aO=true) :
  ∃ v,(execOp a.eval o).run P w=.ok (.value v) w/\pn gh s.H.length nt w s.T s.gen (gv a) v (.func f (ifs.map fun y=>(y.addr G s.T).drop) (ics.map fun y=>(y.addr G s.T).drop)):=by
 refine⟨.func f (fs.map a.eval) (cs.map a.eval),by simp[execOp,ho,Instr.makeFunc],.dw (.func _ _ _ _ _ ?_ ?_ ?_ ?_)⟩
 ·simpa using (nj h1).1
 ·simpa using (nj h2).1
 ·intro j v x hj hx
  exact Ic hW hF h1 hf1 j v x (cJ hj) hx
 ·intro j v x hj hx
  exact Ic hW hF h2 Ns j v x (cJ hj) hx
end
end
section
section
variable {P:Program}{G:Nat->List AV}{base nt:Nat}{L:List Nat}{gh:Gh}{w:World}{a:Act}{s:AS}
def lE(hW:aY G base s.H gh w)(hF:FR L nt gh w a s){x:Option Operand}{ix:Option aI}(hc:iR nt x=some ix){d jA n:Nat}(hb:bound d (ix.map (·.eval G s.T)) jA=some n) :
  (x.map a.eval=none/\ix=none/\n=d)\/(ix.isSome=true/\n<=jA/\∃ k,x.map a.eval=some (.int k (n:Int))):=by
 cases x with
 | none=>simp[iR] at hc;subst hc;simp[bound] at hb;exact .inl ⟨rfl,rfl,hb.symm⟩
 | some x =>
  simp only[iR,aw0] at hc;obtain⟨y,hy,rfl⟩:=hc;simp only[bound,axa,aw1] at hb;obtain⟨m,hm,hb⟩:=hb;obtain⟨h1,h2⟩:=ay hb;injection h2 with h2
  subst h2;obtain⟨k,hk⟩:=mN hW hF hy hm
  simp_all
theorem tP{isSlice:Bool}{l m:Nat}{lo hi mx:Option Value}
  (hm:(mx=none/\m=cap)\/(m<=cap/\∃ k,mx=some (.int k (m:Int)))) (hh:(hi=none/\h=len/\mx=none)\/(h<=m/\∃ k,hi=some (.int k (h:Int))))
  (hl:(lo=none/\l=0)\/(l<=h/\∃ k,lo=some (.int k (l:Int)))) :
  (Instr.sliceBounds isSlice len cap lo hi mx).run P w=.ok (l,h,m) w:=by
 have sb:∀ (k:IntKind) (n y:Nat) (code:BoundsCode),n<=y->(Instr.sliceBound (.int k (n:Int)) y code).run P w=.ok n w:=by
  intro k n y code hn;rw[run_sliceBound w k n y code af af];simp
 rcases hm with ⟨rfl,rfl⟩|⟨hm,km,rfl⟩<;>rcases hh with ⟨rfl,rfl,hx⟩|⟨hh,kh,rfl⟩<;>rcases hl with ⟨rfl,rfl⟩|⟨hl,kl,rfl⟩ <;>
  first|(cases hx;done)|simp[Instr.sliceBounds, *]
theorem Iv(hW:aY G base s.H gh w)(hF:FR L nt gh w a s){t:TypeId}{z:AV}
  (ho:o.op=.slice t x lo hi mx) (hc:au nt x=some ix) (h1:iR nt lo=some R1) (h2:iR nt hi=some PO) (h3:iR nt mx=some IN) (hu:P.underlying t=some .string)
  (he:gX .str (ix.eval G s.T) (R1.map (·.eval G s.T)) (PO.map (·.eval G s.T)) (IN.map (·.eval G s.T))=some z) :
  ∃ v,(execOp a.eval o).run P w=.ok (.value v) w/\pn gh s.H.length nt w s.T s.gen (gv a) v z:=by
 generalize hz:ix.eval G s.T=X at he;cases X<;>simp only[gX,reduceCtorEq,aw1] at he
 rename_i l;obtain⟨h,hh,l0,hl,he⟩:=he;obtain⟨hn,he⟩:=ay he;injection he with he
 subst he;obtain⟨q,hA,hq⟩:=(cO hW hF hc hz rfl).ku;have j7:q.size=l.length:=by rw[<- hq];simp
 have hmn:mx.map a.eval=none/\IN=none:=by
  cases mx with
  | none=>simp[iR] at h3;subst h3;exact⟨rfl,rfl⟩
  | some m=>simp only[iR,aw0] at h3;obtain⟨_,_,rfl⟩:=h3;simp at hn
 have bh:=lE hW hF h2 hh;have bl:=lE hW hF h1 hl;have hb:(Instr.sliceBounds false q.size q.size (lo.map a.eval) (hi.map a.eval) none).run P w=.ok (l0,h,q.size) w:=by
  grind [tP]
 refine⟨.string (q.extract l0 h),?_,.dw (.plain _ _ (.str _ _ ?_))⟩
 ·have hA':=hA
  have qu:(Instr.slice t (.string q) (lo.map a.eval) (hi.map a.eval) none).run P w=.ok (.string (q.extract l0 h)) w:=by
   simp[Instr.slice,run_underlying hu,hb]
  simp only[execOp,ho,hA',hmn.1,Sem.run_bind,run_sliceAt_string w t (.string q) _ _ _ hu,qu,Result.andThen_ok,Sem.run_pure]
 ·rw[<- hq]
  rw[ByteArray.data_extract,Array.toList_extract,List.extract_eq_take_drop,List.drop_take]
def DB{lq:Nat}(h:fZ sz e=true)(hr:∀ (i:Nat) (r:List AV),e[i]?=some r->r.length=lq)(da:e≠[]):lq=sz:=by
 cases e with
 | nil=>exact absurd rfl da
 | cons r e =>
  simp[fZ,im] at h;rw[<- hr 0 r rfl,h]
theorem PR.part{o n:Nat}(hv:PR S w (.slice (some ⟨b,o,none⟩) n cap) (.slice e false))(j7:e≠[]->∀ (i:Nat) (r:List AV),e[i]?=some r->r.length=sz)
  {l h c:Nat} (hl:l<=h) (hh:h<=n) (hc:h-l<=c):PR S w (.slice (some ⟨b,o+l*sz,none⟩) (h-l) c) (.slice ((e.take h).drop l) false):=by
 cases hv with
 | slice _ _ _ _ lq _ f hn kQ bQ cZ dh =>
  have idx:∀ (i:Nat) (r:List AV),((e.take h).drop l)[i]?=some r->e[l+i]?=some r:=by
   grind
  have hz:∀ (i:Nat) (r:List AV),e[i]?=some r->lq=sz:=by
   intro i r hi;have da:e≠[]:=by rintro rfl;simp at hi
   grind
  refine .slice b (o+l*sz) (h-l) c sz _ (fun i j=>f (l+i) j) df hc ?_ ?_ ?_
  ·grind
  ·grind
  ·grind
theorem PR.Hq{o c:Nat}{l:Nat}(hl:h<=l):PR S w (.slice (some ⟨b,o,none⟩) 0 c) (.slice ((e.take h).drop l) false):=by
 have:(e.take h).drop l=[]:=df
 rw[this];exact .slice b o 0 c 0 [] (fun _ _=>undef) rfl (axh _) (fun i r h=>by simp at h) (fun i j r x h=>by simp at h) (fun i j r x h=>by simp at h)
theorem Gc(hW:aY G base s.H gh w)(hF:FR L nt gh w a s){t:TypeId}{z:AV}
  (ho:o.op=.slice t x lo hi mx) (hc:au nt x=some ix) (h1:iR nt lo=some R1) (h2:iR nt hi=some PO) (h3:iR nt mx=some IN) (hu:P.underlying t=some (.slice e0)) (hs:fe P e0=some sz)
  {ll o0 n zz:Nat} (hz:ix.eval G s.T=.sref ll o0 n zz) (he:∃ h,bound n (PO.map (·.eval G s.T)) n=some h/\∃ l0,bound 0 (R1.map (·.eval G s.T)) h=some l0 /\
   cond ((IN.map (·.eval G s.T)).isNone&&Nat.beq zz sz) (some (cond (Nat.blt l0 n) (.sref ll (o0+l0*zz) (h-l0) zz) (.slice [] false))) none=some z) :
  ∃ v,(execOp a.eval o).run P w=.ok (.value v) w/\pn gh s.H.length nt w s.T s.gen (gv a) v z:=by
 obtain⟨h,hh,l0,hl,he⟩:=he;obtain⟨hn,iX⟩:=ay he;clear he;simp only[aw4,ayN,azD,im,aw'] at hn;obtain⟨rfl,rfl⟩:=hn;have hmx:mx.map a.eval=none:=by
  cases mx with
  | none=>rfl
  | some m=>simp only[iR,aw0,reduceCtorEq,and_false,exists_false] at h3
 obtain⟨aP,cap,hk,ae',hA⟩:=(cO hW hF hc hz rfl).kS;have bh:=lE hW hF h2 hh;have bl:=lE hW hF h1 hl
 have hhn:h<=n:=by rcases bh with ⟨_,_,e⟩|⟨_,e,_⟩<;>omega
 have hlh:l0<=h:=by rcases bl with ⟨_,_,e⟩|⟨_,e,_⟩<;>omega
 have hb:(Instr.sliceBounds true n cap (lo.map a.eval) (hi.map a.eval) (mx.map a.eval)).run P w=.ok (l0,h,cap) w:=by
  grind [tP]
 have hr:(Instr.sliceAt t (a.eval x) (lo.map a.eval) (hi.map a.eval) (mx.map a.eval)).run P w=.ok (.slice (if cap=l0 then some ⟨gh.ρ ll,o0,none⟩ else (some (⟨gh.ρ ll,o0,none⟩:Addr)).map (·.add (l0*zz))) (h-l0) (cap-l0)) w:=by
  rw[hA];simp[Instr.sliceAt,run_underlying hu,Instr.slice,hb,fa hs]
 refine⟨_,by simp only[execOp,ho,Sem.run_bind,hr,Result.andThen_ok,Sem.run_pure];rfl,?_⟩
 injection iX with iX
 subst iX;cases hq:Nat.blt l0 n with
 | true =>
  have hq' : l0<n:=by simpa [axp] using hq
  rw[if_neg af,axa,addr_add];refine .dw (.sref ll (o0+l0*zz) (h-l0) (cap-l0) zz aP af (fun h0=>?_))
  obtain⟨ty,yZ⟩:=ae' h0;refine⟨ty,?_⟩;have:o0+l0*zz+(cap-l0)*zz=o0+cap*zz:=by
   have h3:(l0+(cap-l0))*zz=l0*zz+(cap-l0)*zz:=axT _ _ _
   grind
  rw[this];exact yZ
 | false =>
  have hq' : ¬ l0<n:=fun h=>by rw[<- axp] at h;rw[h] at hq;cases hq
  have e0:h-l0=0:=af;rw[e0];have hp:∀ (b of c:Nat),PR gh.S w (.slice (some ⟨b,of,none⟩) 0 c) (.slice [] false):=fun b of c=>.slice b of 0 c 0 [] (fun _ _=>undef) rfl (axh _) (fun i r h=>by simp at h) (fun i j r x h=>by simp at h) (fun i j r x h=>by simp at h)
  split
  ·exact .dw (.plain _ _ (hp _ _ _))
  ·rw[axa,addr_add];exact .dw (.plain _ _ (hp _ _ _))
theorem KA(hW:aY G base s.H gh w)(hF:FR L nt gh w a s){t:TypeId}{z:AV}
  (ho:o.op=.slice t x lo hi mx) (hc:au nt x=some ix) (h1:iR nt lo=some R1) (h2:iR nt hi=some PO) (h3:iR nt mx=some IN) (hu:P.underlying t=some (.slice e0)) (hs:fe P e0=some sz)
  (he:gX (.sl sz) (ix.eval G s.T) (R1.map (·.eval G s.T)) (PO.map (·.eval G s.T)) (IN.map (·.eval G s.T))=some z) :
  ∃ v,(execOp a.eval o).run P w=.ok (.value v) w/\pn gh s.H.length nt w s.T s.gen (gv a) v z:=by
 generalize hz:ix.eval G s.T=X at he;cases X<;>simp only[gX,reduceCtorEq,aw1] at he
 case sref=>exact Gc hW hF ho hc h1 h2 h3 hu hs hz he
 rename_i e own;obtain⟨m,hm,h,hh,l0,hl,he⟩:=he;obtain⟨hn,he⟩:=ay he;injection he with he
 subst he;have hp:=VR.jx (cO hW hF hc hz rfl);have bm:=lE hW hF h3 hm;have bh:=lE hW hF h2 hh;have bl:=lE hW hF h1 hl;have hmx:IN=none->mx.map a.eval=none:=by
  grind
 have yp:lo.map a.eval=none->l0=0:=by
  grind
 simp only[aw4,ayt,ayN,azD] at hn;obtain⟨II,ZJ⟩:=hn
 have hlh:l0<=h:=by rcases bl with ⟨_,_,e⟩|⟨_,e,_⟩<;>omega
 have hhm:h<=m:=by
  grind
 have hml:m<=e.length:=by rcases bm with ⟨_,_,e⟩|⟨_,e,_⟩<;>omega
 have key:∀ len cap:Nat,len=e.length->len<=cap->∀ ad,∃ m',(m'=if IN=none then cap else m) /\
   (Instr.slice t (.slice ad len cap) (lo.map a.eval) (hi.map a.eval) (mx.map a.eval)).run P w=.ok (.slice (if m'=l0 then ad else ad.map (·.add (l0*sz))) (h-l0) (m' - l0)) w:=by
  intro len cap hlen kQ ad;refine⟨_,rfl,?_⟩;have hb:(Instr.sliceBounds true len cap (lo.map a.eval) (hi.map a.eval) (mx.map a.eval)).run P w=.ok (l0,h,if IN=none then cap else m) w:=by
   grind [tP]
  simp[Instr.slice,run_underlying hu,hb,fa hs]
 have fin:∀ {V:Value} {R:Value},a.eval x=V->(Instr.slice t V (lo.map a.eval) (hi.map a.eval) (mx.map a.eval)).run P w=.ok R w->(∃ ad n c,V=.slice ad n c) ->
   (execOp a.eval o).run P w=.ok (.value R) w:=by
  rintro V R hA hR ⟨ad,n,c,rfl⟩
  have:(Instr.sliceAt t (.slice ad n c) (lo.map a.eval) (hi.map a.eval) (mx.map a.eval)).run P w=.ok R w:=by simp[Instr.sliceAt,run_underlying hu,hR]
  simp only[execOp,ho,hA,Sem.run_bind,this,Result.andThen_ok,Sem.run_pure]
 generalize hA:a.eval x=V at hp;have Mw:=hp;cases hp with
 | dr =>
  have hlen:([]:List (List AV)).length=0:=rfl;simp only[List.length_nil] at hml;have e1:m=0:=af;have e2:h=0:=af;have e3:l0=0:=af;subst e1 e2 e3;obtain⟨m',S8,hr⟩:=key 0 0 rfl (Nat.le_refl _) none;have:m'=0:=by rw[S8];split<;>rfl
  subst this;refine⟨_,fin hA hr ⟨_,_,_,rfl⟩,.dw ?_⟩;simp;generalize IN.isSome=q;cases q
  ·exact .plain _ _ .dr
  ·exact .full none 0 [] .dr trivial
 | slice b of n cap lq _ f JN kQ bQ cZ dh =>
  obtain⟨m',S8,hr⟩:=key n cap JN.symm kQ (some ⟨b,of,none⟩);refine⟨_,fin hA hr ⟨_,_,_,rfl⟩,.dw ?_⟩;have auB:h<=m':=by rw[S8];split<;>omega
  have cu:PR gh.S w (.slice (if m'=l0 then some ⟨b,of,none⟩ else (some (⟨b,of,none⟩:Addr)).map (·.add (l0*sz))) (h-l0) (m' - l0)) (.slice ((e.take h).drop l0) false):=by
   by_cases akM:m'=l0
   ·rw[if_pos akM]
    have:h-l0=0:=af
    rw[this];exact PR.Hq af
   ·rw[if_neg akM,axa,addr_add]
    by_cases akG:l0=0
    ·have:=PR.part Mw (sz:=lq) (fun _=>bQ) hlh (c:=m' - l0) af af
     rw[akG,ay'] at this ⊢;exact this
    ·refine PR.part Mw (fun da i r hi=>?_) hlh af af
     have apL:¬ (R1=none):=by
      rintro rfl
      rcases bl with ⟨_,_,e2⟩|⟨e1,_⟩
      ·exact akG e2
      ·cases e1
     have:=DB (ZJ.resolve_left apL) bQ da
     rw[bQ i r hi,this]
  generalize hq:((Option.map (fun x=>aI.eval G s.T x) IN).isSome&&m.beq h)=q
  cases q
  ·exact .plain _ _ cu
  ·simp only[aw4,Option.isSome_map,im,aw'] at hq
   have da:IN≠none:=by rintro rfl;simp at hq
   have:m'=h:=by rw[S8,if_neg da];exact hq.2
   subst this;exact .full _ _ _ cu trivial
theorem sZ(sz:Nat):∀ (n:Nat) (l:List AV) (i:Nat),(chunks sz n l)[i]?=if i<n then some ((l.drop (i*sz)).take sz) else none
 | 0,l,i=>by simp[chunks]
 | n+1,l,0=>by simp[chunks]
 | n+1,l,i+1=>by
  simp only[chunks,axK,sZ sz n,ax6,Nat.add_lt_add_iff_right]
  grind
def Db(sz:Nat):∀ (n:Nat) (l:List AV),(chunks sz n l).length=n
 | 0,l=>rfl
 | n+1,l=>by simp[chunks,Db sz n]
theorem PR.chunks{o n:Nat}(hv:PR S w (.pointer (some ⟨b,o,none⟩)) (.eptr cs))(hl:cs.length=n*sz) :
  PR S w (.slice (some ⟨b,o,none⟩) n n) (.slice (chunks sz n cs) false):=by
 cases hv with
 | eptr _ _ _ f cZ dh =>
  have idx:∀ (i j:Nat) (r:List AV) (x:AV),(Abs.chunks sz n cs)[i]?=some r->r[j]?=some x->cs[i*sz+j]?=some x:=by
   grind [sZ]
  refine .slice b o n n sz _ (fun i j=>f (i*sz+j)) (Db sz n cs) (Nat.le_refl _) ?_ ?_ ?_
  ·intro i r hi
   rw[sZ] at hi;split at hi
   ·rename_i aP
    injection hi with hi
    subst hi;have:(i+1)*sz<=n*sz:=axg _ aP
    grind
   ·cases hi
  ·grind
  ·grind
theorem Iu(hW:aY G base s.H gh w)(hF:FR L nt gh w a s){t:TypeId}{n:Nat}{z:AV}
  (ho:o.op=.slice t x lo hi mx) (hc:au nt x=some ix) (h1:iR nt lo=some R1) (h2:iR nt hi=some PO) (h3:iR nt mx=some IN) (hu:P.underlying t=some (.array n e0)) (hs:fe P e0=some sz) (h0:0<sz)
  (he:gX (.arr n sz) (ix.eval G s.T) (R1.map (·.eval G s.T)) (PO.map (·.eval G s.T)) (IN.map (·.eval G s.T))=some z) :
  ∃ v,(execOp a.eval o).run P w=.ok (.value v) w/\pn gh s.H.length nt w s.T s.gen (gv a) v z:=by
 generalize hz:ix.eval G s.T=X at he;cases X<;>simp only[gX,reduceCtorEq] at he
 rename_i cs;obtain⟨hlen,he⟩:=ay he;simp only[aw1] at he;obtain⟨h,hh,l0,hl,he⟩:=he;obtain⟨hn,he⟩:=ay he;injection he with he
 subst he;have G4:cs.length=n*sz:=by simpa [im] using hlen
 have hp:=VR.zh (cO hW hF hc hz rfl);have hmn:mx.map a.eval=none:=by
  cases mx with
  | none=>rfl
  | some m=>simp only[iR,aw0] at h3;obtain⟨_,_,rfl⟩:=h3;simp at hn
 have bh:=lE hW hF h2 hh;have bl:=lE hW hF h1 hl
 have hlh:l0<=h:=by rcases bl with ⟨_,_,e⟩|⟨_,e,_⟩<;>omega
 have hhn:h<=n:=by rcases bh with ⟨_,_,e⟩|⟨_,e,_⟩<;>omega
 have hb:(Instr.sliceBounds false n n (lo.map a.eval) (hi.map a.eval) none).run P w=.ok (l0,h,n) w:=by
  grind [tP]
 generalize hA:a.eval x=V at hp;have Mw:=hp;cases hp with
 | eptr b of _ f cZ dh =>
  refine⟨.slice (some (if n=l0 then ⟨b,of,none⟩ else (⟨b,of,none⟩:Addr).add (l0*sz))) (h-l0) (n-l0),?_,.dw (.plain _ _ ?_)⟩
  ·simp[execOp,ho,hA,hmn,Instr.sliceAt,run_underlying hu,Instr.sureAddr,hb,fa hs]
  ·have hc:=PR.chunks (sz:=sz) Mw G4
   by_cases u9:n=l0
   ·have:h-l0=0:=af
    grind [PR.Hq]
   ·rw[if_neg u9,addr_add]
    refine PR.part hc (fun _ i r hi=>?_) hlh hhn af
    cases hc with
    | slice _ _ _ _ lq _ f' JN kQ bQ ao6 asf =>
     rw[sZ] at hi;split at hi
     ·rename_i aP
      injection hi with hi
      subst hi;have:(i+1)*sz<=n*sz:=axg _ aP
      grind
     ·cases hi
end
end
section
section
variable {P:Program}{G:Nat->List AV}{base nt:Nat}{L:List Nat}{gh:Gh}{w:World}{a:Act}{s:AS}
def fR{t:TypeId}{y:Operand}(h1:∀ c,u≠.agg c)(h2:u≠.nilIface\/v≠.nilIface):(eqGuard op t x y u v).run P w=.ok () w:=by
 have key:∀ (op:BinOp),op=.eql\/op=.neq\/(eqGuard op t x y u v)=pure ():=by
  intro op
  cases op<;>first|exact .inl rfl|exact .inr (.inl rfl)|exact .inr (.inr rfl)
 have k2:∀ op,op=BinOp.eql\/op=.neq->(eqGuard op t x y u v).run P w=.ok () w:=by
  rintro op (rfl|rfl)<;>simp only[eqGuard,ax7,ayg,azL] <;>
   (cases u<;>first|rfl|exact absurd rfl (h1 _)|skip)<;>(cases v<;>first|rfl|(simp at h2))
 rcases key op with h|h|h
 ·exact k2 op (.inl h)
 ·exact k2 op (.inr h)
 ·rw[h];rfl
def MQ{k:IntKind}{n:Int}{z:AV}(h:ab op k m n=some z)(t:TypeId):∃ v,(binOp op t (.int k m) (.int k n)).run P w=.ok v w/\PR gh.S w v z:=by
 unfold ab at h;cases op<;>simp only[reduceCtorEq,aw2] at h
 case quo =>
  rcases aye (decide (n=0)) with hb|hb<;>rw[hb] at h<;>simp at h
  subst h;have hn:¬ n=0:=cJ hb;exact⟨_,by simp[binOp,Op.intDiv,hn],.int _ _⟩
 case rem =>
  rcases aye (decide (n=0)) with hb|hb<;>rw[hb] at h<;>simp at h
  subst h;have hn:¬ n=0:=cJ hb;exact⟨_,by simp[binOp,Op.intDiv,hn],.int _ _⟩
 all_goals
  subst h;first
   | exact⟨_,by simp[binOp,Op.intArith],.int _ _⟩
   | exact⟨_,by simp[binOp,Op.intCmp],.bool _⟩
def MR{x y:ByteArray}{z:AV}(h:mr op x.data.toList y.data.toList=some z)(t:TypeId):∃ v,(binOp op t (.string x) (.string y)).run P w=.ok v w/\PR gh.S w v z:=by
 have hx:=ByteArray.toList_eq x;have hy:=ByteArray.toList_eq y;unfold mr at h;cases op<;>simp only[reduceCtorEq,aw2] at h
 case add =>
  obtain⟨h1,h2⟩:=ay h;injection h2 with h2
  subst h2;have Yc:x.size+y.size<=4611686018427387904:=cJ h1;have h3:¬ (((x.size+y.size:Nat):Int)>IntKind.i64.max):=by
   have:IntKind.i64.max=9223372036854775807:=aB
   rw[this];omega
  exact⟨.string (x++y),by simp only[binOp,Op.stringOp];rw[if_neg h3];rfl,.str _ _ ae⟩
 all_goals
  subst h;exact⟨_,by simp[binOp,Op.stringOp,hx,hy],.bool _⟩
def wV:∀ (k ks:List CK) (X Y:List AV) (b:Bool),cm (k++ks) X Y=some b ->
  ∃ b1 b2,cm k X Y=some b1/\cm ks (X.drop k.length) (Y.drop k.length)=some b2/\b=(b1&&b2)
 | [],ks,X,Y,b,h=>⟨true,b,rfl,cJ h,ae⟩
 | c :: k,ks,X,Y,b,h=>by
  have step:∀ (e:Bool) (X' Y' : List AV),(cm (k++ks) X' Y').map (e&&·)=some b->∃ b1 b2,(cm k X' Y').map (e&&·)=some b1/\cm ks (X'.drop k.length) (Y'.drop k.length)=some b2/\b=(b1&&b2):=by
   intro e X' Y' h;simp only[aw0] at h;obtain⟨b',iG,rfl⟩:=h;obtain⟨b1,b2,h1,h2,rfl⟩:=wV k ks X' Y' b' iG;exact⟨e&&b1,b2,by simp[h1],h2,by rw[Bool.and_assoc]⟩
  cases c<;>cases X<;>try (cases h;done)
  all_goals (rename_i x X';cases x<;>try (cases h;done))
  all_goals (cases Y<;>try (cases h;done))
  all_goals (rename_i y Y';cases y<;>try (cases h;done))
  ·exact step _ _ _ h
  ·simp only[axN,cm] at h
   obtain⟨h0,h⟩:=ay h;obtain⟨b1,b2,h1,h2,h3⟩:=step _ _ _ h;exact⟨b1,b2,by simp only[cm];rw[h0];exact h1,h2,h3⟩
  ·exact step _ _ _ h
def qJ:∀ (k:List CK) (X Y:List AV) (n:Nat),k.length<=n->cm k (X.take n) (Y.take n)=cm k X Y
 | [],X,Y,n,_=>rfl
 | c :: k,[],Y,n,h=>by rw[azd];cases c<;>rfl
 | c :: k,x :: X,[],n,h=>by
  obtain⟨m,rfl⟩:∃ m,n=m+1:=⟨n-1,by simp at h;omega⟩
  rw[azd,axJ];cases c<;>cases x<;>rfl
 | c :: k,x :: X,y :: Y,n,h=>by
  obtain⟨m,rfl⟩:∃ m,n=m+1:=⟨n-1,by simp at h;omega⟩
  have ih:=qJ k X Y m (by simp at h;omega)
  rw[axJ,axJ]
  cases c<;>cases x<;>first|rfl|(cases y<;>first|rfl|simp only[cm,ih])
def Row(gh:Gh)(n:Nat)(w:World)(cs:Array Value)(X:List AV):Prop :=
 cs.size=X.length/\∀ (j:Nat) (v:Value) (x:AV),cs[j]?=some v->X[j]?=some x->VR gh n w v x
def Row.extract{n:Nat}{cs:Array Value}(h:Row gh n w cs X)(o k:Nat):Row gh n w (cs.extract o (o+k)) ((X.drop o).take k):=by
 refine⟨by have:=h.1;simp;omega,fun j v x hj hx=>?_⟩
 rw[azC] at hj;rw[List.getElem?_take,ax9] at hx;split at hj
 ·split at hx
  ·exact h.2 _ v x hj hx
  ·cases hx
 ·cases hj
def oh{t:TypeId}{d:TypeDesc}(h:P.underlying t=some d)(hd:(match d with|.struct _=>true|.array _ _=>true|_=>false)=false):og P t=some false:=by
 unfold og;rw[h];simp[];cases d<;>simp_all
def uR{n:Nat}{c:CK}{t:TypeId}{D o:Nat}{cs:Array Value}{b:Bool}(hX:Row gh n w cs X)(hY:Row gh n w ds Y)(hD:1<=D)
  (ht:match c with|.b=>P.underlying t=some .bool|.i=>∃ k,P.underlying t=some (.int k)|.s=>P.underlying t=some .string)
  (h:cm [c] (X.drop o) (Y.drop o)=some b):∃ u v,(part t cs o).run P w=.ok u w/\(part t ds o).run P w=.ok v w/\(Op.equalIn D t u v).run P w=.ok b w:=by
 obtain⟨D,rfl⟩:∃ m,D=m+1:=⟨D-1,af⟩
 have hg:og P t=some false:=by cases c<;>first|exact oh ht rfl|(obtain⟨k,ht⟩:=ht;exact oh ht rfl)
 have get:∀ {cs:Array Value} {X:List AV} {x:AV} {X' : List AV},Row gh n w cs X->X.drop o=x :: X'->∃ u,(part t cs o).run P w=.ok u w/\VR gh n w u x:=by
  intro cs X x X' hR hd;have hx:X[o]?=some x:=by
   have:(X.drop o)[0]?=some x:=by rw[hd];rfl
   rw[ax9] at this;simpa using this
  have aP:o<cs.size:=by rw[hR.1];exact (aw5.1 hx).1
  have hv:cs[o]?=some cs[o]:=axj aP;exact⟨cs[o],by simp[part,jh hg,hv],hR.2 o _ x hv hx⟩
 generalize hXd:X.drop o=Xd at h;generalize hYd:Y.drop o=Yd at h;cases c<;>cases Xd<;>try (cases h;done)
 all_goals (rename_i x X';cases x<;>try (cases h;done))
 all_goals (cases Yd<;>try (cases h;done))
 all_goals (rename_i y Y';cases y<;>try (cases h;done))
 all_goals
  obtain⟨u,JR,ZS⟩:=get hX hXd;obtain⟨v,ZU,S9⟩:=get hY hYd
 ·obtain rfl:=ZS.lZ
  obtain rfl:=S9.lZ;simp[cm] at h;exact⟨_,_,JR,ZU,by rw[run_equalIn_bool' w D t _ _ ht,h]⟩
 ·obtain rfl:=ZS.ko
  obtain rfl:=S9.ko;obtain⟨k,ht⟩:=ht;simp only[cm] at h;obtain⟨h0,h'⟩:=ay h;simp at h' h0;exact⟨_,_,JR,ZU,by rw[h0,run_equalIn_int w D t _ _ _ _ ht,h']⟩
 ·obtain⟨p,rfl,rfl⟩:=ZS.ku
  obtain⟨q,rfl,rfl⟩:=S9.ku;simp[cm] at h;refine⟨_,_,JR,ZU,?_⟩;rw[run_equalIn_string w D t _ _ ht,ByteArray.toList_eq,ByteArray.toList_eq,<- h];simp
def HY(P:Program)(gh:Gh)(w:World)(d:Nat):Prop :=
 ∀ (t:TypeId) (k:List CK),oS P d t=some k->∀ (n D o:Nat) (cs ds:Array Value) (X Y:List AV) (b:Bool),Row gh n w cs X->Row gh n w ds Y->d<=D ->
  cm k (X.drop o) (Y.drop o)=some b->∃ u v,(part t cs o).run P w=.ok u w/\(part t ds o).run P w=.ok v w/\(Op.equalIn D t u v).run P w=.ok b w
def Nh{d:Nat}(hd:HY P gh w d){n D:Nat}(hD:d<=D){cs:Array Value}(hX:Row gh n w cs X)(hY:Row gh n w ds Y) :
  ∀ (fs:List Go.Field) (q:Nat) (ks:List CK) (b:Bool),qL (oS P d) fs q=some ks->cm ks (X.drop q) (Y.drop q)=some b->(Op.eqFields D cs ds fs).run P w=.ok b w:=by
 intro fs
 induction fs with
 | nil=>intro q ks b h1 h2;simp[qL] at h1;subst h1;simp[cm] at h2;subst h2;rfl
 | cons f fs ih =>
  intro q ks b h1 h2;unfold qL at h1;simp only[oX] at h1;obtain⟨h3,kf,hkf,kr,hkr,rfl⟩:=h1;simp only[aw4,im,aw',bne_iff_ne] at h3;obtain⟨hof,tD⟩:=h3;obtain⟨b1,b2,e1,e2,rfl⟩:=wV kf kr _ _ b h2;rw[ax6,ax6] at e2;obtain⟨u,v,p1,p2,p3⟩:=hd f.type kf hkf n D q cs ds X Y b1 hX hY hD e1;have hr:=ih (q+kf.length) kr b2 hkr e2;unfold Op.eqFields;rw[if_pos tD,hof];simp only[Sem.run_bind,p1,p2,p3,Result.andThen_ok];cases b1
  ·simp
  ·simp only[ax7,ayg,azL,hr,axF]
def tS{d:Nat}{t:TypeId}{k:List CK}(h:oS P (d+1) t=some k)(hu:P.underlying t=some (.struct fs)) :
  P.stoodInHeld t=false/\qL (oS P d) fs.toList 0=some k/\∃ sz,fe P t=some sz/\sz=k.length:=by
 unfold oS at h;rw[hu] at h;obtain⟨h1,h⟩:=ay h;simp only[aw1] at h;obtain⟨ks,fU,h⟩:=h;obtain⟨h2,h⟩:=ay h;injection h with h
 subst h;refine⟨cJ h1,fU,?_⟩;cases hq:fe P t with
 | none=>rw[hq] at h2;cases h2
 | some m=>rw[hq] at h2;exact⟨m,rfl,by simpa [im] using h2⟩
def yg{d:Nat}(hd:HY P gh w d){t:TypeId}{k:List CK}(h:oS P (d+1) t=some k)(hu:P.underlying t=some (.struct fs))
  {n D:Nat} (hD:d<=D) {cs ds:Array Value} {X Y:List AV} {b:Bool} (hX:Row gh n w cs X) (hY:Row gh n w ds Y) (he:cm k X Y=some b) :
  (Op.equalIn (D+1) t (.agg cs) (.agg ds)).run P w=.ok b w:=by
 obtain⟨FZ,fU,_⟩:=tS h hu;have hf:P.fieldsOf t=fs:=by unfold Program.fieldsOf;rw[hu]
 rw[run_equalIn_struct w D t _ _ (by rw[hf];exact hu) FZ,hf]
 exact Nh hd hD hX hY fs.toList 0 k b fU (cJ he)
def AA:∀ d:Nat,HY P gh w d
 | 0=>fun t k h=>by cases h
 | d+1=>by
  intro t k h n D o cs ds X Y b hX hY hD he;have h0:=h;unfold oS at h;cases hu:P.underlying t with
  | none=>rw[hu] at h;cases h
  | some dd =>
   rw[hu] at h;cases dd<;>try (cases h;done)
   case bool=>injection h with h;subst h;exact uR (c:=.b) hX hY af hu he
   case int kk=>injection h with h;subst h;exact uR (c:=.i) hX hY af ⟨kk,hu⟩ he
   case string=>injection h with h;subst h;exact uR (c:=.s) hX hY af hu he
   case struct fs =>
    obtain⟨_,_,sz,j7,hlen⟩:=tS h0 hu;have hg:og P t=some true:=by unfold og;rw[hu];rfl
    refine⟨.agg (cs.extract o (o+sz)),.agg (ds.extract o (o+sz)),by simp[part,jh hg,fa j7],by simp[part,jh hg,fa j7],?_⟩
    obtain⟨D,rfl⟩:∃ m,D=m+1:=⟨D-1,af⟩;rw[<- qJ k _ _ sz af] at he;exact yg (AA d) h0 hu af (hX.extract o sz) (hY.extract o sz) he
def Oa{b:Bool}{z:AV}(h:mI op b=some z):(op=.eql/\z=.bool b)\/(op=.neq/\z=.bool !b):=by
 cases op<;>simp[mI] at h
 ·exact .inl ⟨rfl,h.symm⟩
 ·exact .inr ⟨rfl,h.symm⟩
def pD{t:TypeId}{b:Bool}{z:AV}(h:mI op b=some z)(hr:(Op.equal t u v).run P w=.ok b w)
  (h1:∀ q,(binOp .eql t u v)=q->q=(do pure (.bool (<- Op.equal t u v)))) (h2:(binOp .neq t u v)=(do pure (.bool (!(<- Op.equal t u v))))) :
  ∃ r,(binOp op t u v).run P w=.ok r w/\PR gh.S w r z:=by
 rcases Oa h with ⟨rfl,rfl⟩|⟨rfl,rfl⟩
 ·exact⟨.bool b,by rw[h1 _ rfl];simp[hr],.bool _⟩
 ·exact⟨.bool !b,by rw[h2];simp[hr],.bool _⟩
def aeH(hW:aY G base s.H gh w)(hF:FR L nt gh w a s){t u:TypeId}{y:Operand}{iy:aI}{z:AV}
  (ho:o.op=.binOp op t x y u) (hx:au nt x=some ix) (hy:au nt y=some iy)
  (he:Bm op (pR P t) (nO ix || nO iy) (ix.eval G s.T) (iy.eval G s.T)=some z) :
  ∃ v,(execOp a.eval o).run P w=.ok (.value v) w/\pn gh s.H.length nt w s.T s.gen (gv a) v z:=by
 generalize hX:ix.eval G s.T=X at he;generalize hY:iy.eval G s.T=Y at he;have fin:∀ {U V:Value},a.eval x=U->a.eval y=V->(eqGuard op t x y U V).run P w=.ok () w->(∃ r,(binOp op t U V).run P w=.ok r w/\PR gh.S w r z) ->
   ∃ v,(execOp a.eval o).run P w=.ok (.value v) w/\pn gh s.H.length nt w s.T s.gen (gv a) v z:=by
  rintro U V hU hV hg ⟨r,hr,hp⟩
  exact⟨r,by simp[execOp,ho,hU,hV,hg,hr],.dw (.plain _ _ hp)⟩
 have aev:(nO ix || nO iy)=true->(∃ v,x=.const v)\/(∃ v,y=.const v):=by
  intro h
  rcases Bool.or_eq_true_iff.1 h with h|h
  ·left
   cases x<;>simp only[au] at hx
   ·have:=(ay hx).2;injection this with this;subst this;cases h
   ·exact⟨_,rfl⟩
   ·injection hx with hx;subst hx;cases h
   ·injection hx with hx;subst hx;cases h
  ·right
   cases y<;>simp only[au] at hy
   ·have:=(ay hy).2;injection this with this;subst this;cases h
   ·exact⟨_,rfl⟩
   ·injection hy with hy;subst hy;cases h
   ·injection hy with hy;subst hy;cases h
 unfold Bm at he;split at he
 ·
  obtain⟨h0,y3⟩:=ay he;have hk:=of_decide_eq_true h0;have h1:=(cO hW hF hx hX rfl).ko;have h2:=(cO hW hF hy hY rfl).ko;rw[<- hk] at h2;exact fin h1 h2 (fR (by intro c;simp) (.inl ae)) (MQ y3 t)
 ·
  obtain⟨p,h1,hp⟩:=(cO hW hF hx hX rfl).ku;obtain⟨q,h2,hq⟩:=(cO hW hF hy hY rfl).ku;subst hp hq;exact fin h1 h2 (fR (by intro c;simp) (.inl ae)) (MR he t)
 ·
  rename_i p q;have h1:=(cO hW hF hx hX rfl).lZ;have h2:=(cO hW hF hy hY rfl).lZ;generalize hQ:pR P t=Q at he;cases Q<;>simp only[reduceCtorEq] at he
  have ht:P.underlying t=some .bool:=by
   unfold pR at hQ
   split at hQ<;>first|assumption|(cases hQ)|skip
   cases hb:(!P.eqGuardType P.depth t)<;>rw[hb] at hQ<;>simp at hQ
   split at hQ<;>cases hQ
  exact fin h1 h2 (fR (by intro c;simp) (.inl ae)) (pD he (run_equal_bool w t p q ht) (by rintro _ rfl;rfl) rfl)
 ·
  rename_i xs ys;obtain⟨cs,h1,pH,_,B8⟩:=(cO hW hF hx hX rfl).mo;obtain⟨ds,h2,xP,_,ND⟩:=(cO hW hF hy hY rfl).mo;generalize hQ:pR P t=Q at he;cases Q<;>simp only[reduceCtorEq,aw1] at he
  rename_i ks;obtain⟨b,hb,he⟩:=he;obtain⟨hg,hk⟩:P.eqGuardType P.depth t=false/\oS P 8 t=some ks:=by
   unfold pR at hQ
   split at hQ<;>first|(cases hQ;done)|skip
   cases hb:(P.eqGuardType P.depth t)<;>rw[hb] at hQ<;>simp at hQ
   split at hQ<;>first|(cases hQ;done)|skip
   injection hQ with hQ
   subst hQ;exact⟨rfl,by assumption⟩
  obtain⟨fs,hu⟩:∃ fs,P.underlying t=some (.struct fs):=by
   unfold pR at hQ;cases hu:P.underlying t with
   | none=>rw[hu] at hQ;cases hQ
   | some d =>
    rw[hu] at hQ;cases d<;>simp only[reduceCtorEq] at hQ
    exact⟨_,rfl⟩
  have dI:(Op.equal t (.agg cs) (.agg ds)).run P w=.ok b w :=
   yg (AA 7) hk hu (D:=9999) af (n:=s.H.length) ⟨pH,B8⟩ ⟨xP,ND⟩ hb
  exact fin h1 h2 (run_eqGuard_agg w op t x y cs ds hg) (pD he dI (by rintro _ rfl;rfl) rfl)
 ·
  obtain⟨h0,he⟩:=ay he;obtain⟨ao',hq⟩:=Bool.and_eq_true_iff.1 h0;simp only[aw1] at he;obtain⟨b,hb,he⟩:=he;have ht:∃ m,P.underlying t=some (.interface m):=by
   generalize hQ:pR P t=Q at hq;cases Q<;>simp only[reduceCtorEq] at hq
   unfold pR at hQ
   split at hQ<;>first|exact⟨_,by assumption⟩|(cases hQ;done)|skip
   cases hb:(!P.eqGuardType P.depth t)<;>rw[hb] at hQ<;>simp at hQ
   split at hQ<;>cases hQ
  obtain⟨m,ht⟩:=ht;have h2:=(cO hW hF hy hY rfl).zi;split at hb
  ·injection hb with hb
   subst hb;have h1:=(cO hW hF hx hX rfl).zi;have hr:(Op.equal t .nilIface .nilIface).run P w=.ok true w:=(fun d=>(by simp[Op.equalIn,run_underlying ht]:(Op.equalIn (d+1) t .nilIface .nilIface).run P w=.ok true w)) 9999
   refine fin h1 h2 ?_ (pD he hr (by rintro _ rfl;rfl) rfl)
   rcases aev ao' with ⟨v,rfl⟩|⟨v,rfl⟩
   ·cases op<;>simp[eqGuard]
   ·cases op<;>simp[eqGuard]
  ·injection hb with hb
   subst hb;obtain⟨q,h1⟩:=(cO hW hF hx hX rfl).R6;have hr:∀ ti,(Op.equal t (.iface ti q) .nilIface).run P w=.ok false w:=fun ti=>(fun d=>(by simp[Op.equalIn,run_underlying ht]:(Op.equalIn (d+1) t (.iface ti q) .nilIface).run P w=.ok false w)) 9999
   exact fin h1 h2 (fR (by intro c;simp) (.inl ae)) (pD he (hr _) (by rintro _ rfl;rfl) rfl)
  ·cases hb
 ·
  simp only[oX] at he;obtain⟨h0,b,hb,he⟩:=he;have ht:∃ p q r,P.underlying t=some (.func p q r):=by
   generalize hQ:pR P t=Q at h0;cases Q<;>simp only[reduceCtorEq] at h0
   unfold pR at hQ
   split at hQ<;>first|exact⟨_,_,_,by assumption⟩|(cases hQ;done)|skip
   cases hb:(!P.eqGuardType P.depth t)<;>rw[hb] at hQ<;>simp at hQ
   split at hQ<;>cases hQ
  obtain⟨p,q,r,ht⟩:=ht;have h2:=(cO hW hF hy hY rfl).BG;split at hb
  ·injection hb with hb
   subst hb;have h1:=(cO hW hF hx hX rfl).BG;have hr:(Op.equal t .nilFunc .nilFunc).run P w=.ok true w:=(fun d=>(by simp[Op.equalIn,run_underlying ht]:(Op.equalIn (d+1) t .nilFunc .nilFunc).run P w=.ok true w)) 9999
   exact fin h1 h2 (fR (by intro c;simp) (.inl ae)) (pD he hr (by rintro _ rfl;rfl) rfl)
  ·injection hb with hb
   subst hb;obtain⟨fs,cs,h1,_⟩:=(cO hW hF hx hX rfl).vd;have hr:∀ f,(Op.equal t (.func f fs cs) .nilFunc).run P w=.ok false w:=fun f=>(fun d=>(by simp[Op.equalIn,run_underlying ht]:(Op.equalIn (d+1) t (.func f fs cs) .nilFunc).run P w=.ok false w)) 9999
   exact fin h1 h2 (fR (by intro c;simp) (.inl ae)) (pD he (hr _) (by rintro _ rfl;rfl) rfl)
  ·cases hb
 ·cases he
end
end
section
section
variable {P:Program}{G:Nat->List AV}{base nt:Nat}{L:List Nat}{gh:Gh}{w:World}{a:Act}{s:AS}
def sP(gh:Gh)(n:Nat)(w:World)(C:Array Value)(X:List AV):Prop :=
 C.size=X.length/\∀ (j:Nat) (v:Value) (x:AV),C[j]?=some v->X[j]?=some x->VR gh n w v x/\v.oneCell'=true
def VR.fJ{n:Nat}{x:AV}(h:VR gh n w v x)(hx:∀ cs,x≠.agg cs)(uA:∀ cs,x≠.tuple cs):v.oneCell'=true:=by
 cases h with
 | plain _ _ h=>exact h.fJ
 | full=>rfl
 | ref=>rfl
 | sref=>rfl
 | mref=>rfl
 | func=>rfl
 | iface=>rfl
 | agg _ xs=>exact absurd rfl (hx xs)
 | tuple _ xs=>exact absurd rfl (uA xs)
theorem vF{n:Nat}{x:AV}(h:VR gh n w v x)(hc:x.cells=some cs):sP gh n w v.cells cs:=by
 have single:x.cells=some [x]->(∀ cs,x≠.agg cs)->(∀ cs,x≠.tuple cs)->sP gh n w v.cells cs:=by
  intro h1 h2 h3;rw[h1] at hc;injection hc with hc
  subst hc;have gV:=h.fJ h2 h3;have:v.cells=#[v]:=by cases v<;>first|rfl|(simp[Value.oneCell'] at gV)
  rw[this];refine⟨rfl,fun j u y hu hy=>?_⟩
  grind
 cases x
 case agg xs =>
  obtain⟨C,rfl,hs,gV,h⟩:=h.mo;injection hc with hc
  subst hc;exact⟨hs,fun j v x hv hx=>⟨h j v x hv hx,gV j v hv⟩⟩
 case any=>cases hc
 case tuple=>cases hc
 case lbox=>cases hc
 case lref=>cases hc
 case lsl=>cases hc
 case lsr=>cases hc
 case eref=>cases hc
 case iter=>cases hc
 all_goals exact single rfl (by intro cs h;cases h) (by intro cs h;cases h)
theorem sP.dropped{n:Nat}(h:sP gh n w C X):sP gh n w C (X.map AV.drop):=by
 refine⟨by simp[h.1],fun j v x hv hx=>?_⟩
 simp only[List.getElem?_map,aw0] at hx;obtain⟨y,hy,rfl⟩:=hx;exact⟨VR.dropped (h.2 j v y hv hy).1,(h.2 j v y hv hy).2⟩
theorem rb:∀ (l:List Value) (off k:Nat) (C:Array Value) (j:Nat),off+k+l.length<=C.size ->
  ((l.zipIdx k).foldl (fun cs (c,i)=>cs.setIfInBounds (off+i) c) C)[j]?=if off+k<=j/\j<off+k+l.length then l[j-(off+k)]? else C[j]?
 | [],off,k,C,j,h=>df
 | v :: l,off,k,C,j,h=>by
  have h' : off+(k+1)+l.length<=(C.setIfInBounds (off+k) v).size:=by simp at h ⊢;omega
  rw[azf,azy,rb l off (k+1) _ j h']
  grind
def pW:∀ (l:List (Value × Nat)) (off:Nat) (C:Array Value),(l.foldl (fun cs (c,i)=>cs.setIfInBounds (off+i) c) C).size=C.size
 | [],off,C=>rfl
 | v :: l,off,C=>by rw[azy,pW l off];simp
theorem wi(h:off+cs.length<=l.length)(j:Nat):(putAt l off cs)[j]?=if off<=j/\j<off+cs.length then cs[j-off]? else l[j]?:=by
 have apQ:min off l.length=off:=af;unfold putAt
 grind
def sn(h:off+cs.length<=l.length):(putAt l off cs).length=l.length:=by
 unfold putAt;simp;omega
def sP.put{n:Nat}{D:Array Value}(h:sP gh n w C X)(hd:sP gh n w D Y)(hl:off+Y.length<=X.length) :
  sP gh n w (D.zipIdx.foldl (fun cs (c,i)=>cs.setIfInBounds (off+i) c) C) (putAt X off Y):=by
 have e:D.zipIdx.foldl (fun cs (c,i)=>cs.setIfInBounds (off+i) c) C=(D.toList.zipIdx 0).foldl (fun cs (c,i)=>cs.setIfInBounds (off+i) c) C:=by
  rw[<- Array.foldl_toList,azN]
 rw[e];refine⟨by rw[pW,sn hl,h.1],fun j v x hv hx=>?_⟩
 have hD:D.toList.length=Y.length:=cJ hd.1;rw[rb _ _ _ _ _ (by rw[hD,h.1];omega)] at hv
 rw[wi hl] at hx;simp only[axZ,hD] at hv
 by_cases hc:off<=j/\j<off+Y.length
 ·rw[if_pos hc] at hv hx
  exact hd.2 _ v x (cJ hv) hx
 ·rw[if_neg hc] at hv hx
  exact h.2 j v x hv hx
theorem Dq{n:Nat}{place:Nat->Option (Nat × Nat)} : ∀ (parts:List (Nat × Value)) (ip:List (Nat × Nat × AV)) (C:Array Value) (Z Z' : List AV),sP gh n w C Z->dW Z ip=some Z'->parts.length=ip.length ->
  (∀ (j:Nat) (p:Nat × Value) (q:Nat × Nat × AV),parts[j]?=some p->ip[j]?=some q->place p.1=some (q.1,q.2.1)/\(∀ cs,q.2.2.cells=some cs->sP gh n w p.2.cells cs)) ->
  ∃ C',Instr.fill place C parts=some C'/\sP gh n w C' Z'
 | [],[],C,Z,Z',h,hb,_,_=>by simp[dW] at hb;subst hb;exact⟨C,rfl,h⟩
 | p :: parts,q :: ip,C,Z,Z',h,hb,hl,hp=>by
  obtain⟨h1,h2⟩:=hp 0 p q rfl rfl;obtain⟨i,v⟩:=p;obtain⟨off,sz,x⟩:=q;simp only[dW] at hb;split at hb
  ·cases hb
  ·rename_i cs iz
   obtain⟨h3,iG⟩:=ay hb;simp only[aw4,im,aw',axv] at h3;have hr:=h2 cs iz;have j7:v.cells.size=sz:=by rw[hr.1];exact h3.1
   have hlen:(cs.map AV.drop).length=cs.length:=ae;obtain⟨C',hf,bQ⟩:=Dq parts ip _ _ Z' (h.put hr.dropped (off:=off) (by rw[hlen];exact h3.2)) iG (cJ hl) (fun j p q oU hq'=>hp (j+1) p q (cJ oU) (cJ hq'))
   refine⟨C',?_,bQ⟩;simp only at h1;unfold Instr.fill;rw[h1];have mS:¬ (decide (v.cells.size≠sz) || decide (off+v.cells.size>C.size))=true:=by
    have:=hr.1;have:=h.1
    simp;omega
   grind
 | [],_ :: _,_,_,_,_,_,hl,_=>by simp at hl
 | _ :: _,[],_,_,_,_,_,hl,_=>by simp at hl
def Mn{n:Nat}{t:TypeId}(h:gG P t=some z):∃ i zv,P.info? t=some i/\i.zero=some zv/\sP gh n w zv.cells z:=by
 simp only[gG,aw1] at h;obtain⟨zv,⟨i,hi,hz⟩,hc⟩:=h;obtain⟨h1,h2⟩:=lT (gh:=gh) (n:=n) (w:=w) hc;exact⟨i,zv,hi,hz,cJ h1,fun j v x hv hx=>h2 j v x (cJ hv) hx⟩
def GN{n:Nat}{x:AV}(h:lH v=some x):VR gh n w v (oW x):=by
 have hv:VR gh n w v x:=yJ h;unfold oW;split
 ·unfold lH at h
  split at h<;>first|(cases h;done)|(injection h with h;cases h;done)|exact .plain _ _ .al
 ·exact hv
def Ij{n:Nat}{x:AV}(h:uP v=some x):VR gh n w v (oW x):=by
 have h0:=kL (gh:=gh) (n:=n) (w:=w) h;unfold uP at h;split at h
 ·simp only[aw0] at h
  obtain⟨l,_,rfl⟩:=h;exact h0
 ·exact GN h
def uQ:∀ {vs:List Value} {xs:List AV},dX vs=some xs->∀ (j:Nat) (v:Value) (x:AV),vs[j]?=some v->xs[j]?=some x->lH v=some x
 | [],xs,h,j,v,x,hv,hx=>by simp at hv
 | u :: vs,xs,h,j,v,x,hv,hx=>by
  simp only[dX,aw1,aw0] at h;obtain⟨y,hy,ys,RZ,rfl⟩:=h;cases j with
  | zero=>simp at hv hx;subst hv hx;exact hy
  | succ j=>exact uQ RZ j v x (cJ hv) (cJ hx)
def sI{n:Nat}{t:TypeId}{b:Bool}(h:(gG P t).map (fun z=>cond b (z.map oW) z)=some z):∃ i zv,P.info? t=some i/\i.zero=some zv/\sP gh n w zv.cells z:=by
 simp only[aw0] at h;obtain⟨z0,h0,rfl⟩:=h;obtain⟨i,zv,h1,h2,h3⟩:=Mn (gh:=gh) (n:=n) (w:=w) h0;refine⟨i,zv,h1,h2,?_⟩;cases b with
 | false=>exact h3
 | true =>
  refine⟨cJ h3.1,fun j v x hv hx=>?_⟩
  simp only[cond_true,List.getElem?_map,aw0] at hx;obtain⟨y,hy,rfl⟩:=hx;simp only[gG,aw1] at h0;obtain⟨zv',⟨i',j6,Yl⟩,hc⟩:=h0;rw[h1] at j6;injection j6 with j6
  subst j6;rw[h2] at Yl;injection Yl with Yl
  subst Yl;exact⟨GN (uQ hc j v y (cJ hv) hy),(h3.2 j v y hv hy).2⟩
def sj(hW:aY G base s.H gh w)(hF:FR L nt gh w a s)(hc:au nt x=some y):∀ cs,(y.eval G s.T).drop.cells=some cs->sP gh s.H.length w (a.eval x).cells cs:=by
 intro cs iz;have hf:aO (y.eval G s.T)=true:=by
  rw[<- kP];generalize (y.eval G s.T).drop=Y at iz
  cases Y<;>first|rfl|cases iz
 exact vF (cO hW hF hc rfl hf) iz
theorem BX(hW:aY G base s.H gh w)(hF:FR L nt gh w a s){t:TypeId}
  (ho:o.op=.build t parts) {kp:Bool} (hz:(gG P t).map (fun z=>cond kp (z.map oW) z)=some z) (hu:P.underlying t=some (.struct fs)) (hp:pA P nt fs.toList parts.toList=some ps)
  (dQ:∃ pl,fs.toList.mapM (fun f=>(P.info? f.type).map fun i=>(f.offset,i.size))=some pl)
  (he:dW z (ps.map fun p=>(p.1,p.2.1,(p.2.2.eval G s.T).drop))=some Z) :
  ∃ v,(execOp a.eval o).run P w=.ok (.value v) w/\pn gh s.H.length nt w s.T s.gen (gv a) v (.agg Z):=by
 obtain⟨i,zv,hi,R0,bQ⟩:=sI (gh:=gh) (n:=s.H.length) (w:=w) hz;obtain⟨pl,gI⟩:=dQ;have inv:∀ (l:List (Nat × Operand)) (ps:List (Nat × Nat × aI)),pA P nt fs.toList l=some ps->l.length=ps.length /\
   ∀ (j:Nat) (p:Nat × Operand) (q:Nat × Nat × aI),l[j]?=some p->ps[j]?=some q->(∃ f,fs.toList[p.1]?=some f/\fe P f.type=some q.2.1/\f.offset=q.1)/\au nt p.2=some q.2.2:=by
  intro l
  induction l with
  | nil=>intro ps h;simp[pA] at h;subst h;exact⟨rfl,fun j p q h=>by simp at h⟩
  | cons p l ih =>
   intro ps h;obtain⟨k,x⟩:=p;simp only[pA,aw1,aw0] at h
   grind
 obtain⟨hl,hinv⟩:=inv _ _ hp;have afK:∀ (k:Nat) (f:Go.Field) (sz:Nat),fs.toList[k]?=some f->fe P f.type=some sz->pl.toArray[k]?=some (f.offset,sz):=by
  have gen:∀ (l:List Go.Field) (pl:List (Nat × Nat)),l.mapM (fun f=>(P.info? f.type).map fun i=>(f.offset,i.size))=some pl->∀ (k:Nat) (f:Go.Field) (sz:Nat),l[k]?=some f->fe P f.type=some sz->pl[k]?=some (f.offset,sz):=by
   intro l
   induction l with
   | nil=>intro pl _ k f sz h;simp at h
   | cons g l ih =>
    intro pl h k f sz hk hs;simp only[List.mapM_cons,Option.bind_eq_bind,Option.pure_def,aw1,aw0] at h
    grind [pa]
  intro k f sz hk hs
  simpa using gen _ _ gI k f sz hk hs
 obtain⟨C',hf,y7⟩:=Dq (gh:=gh) (w:=w) (n:=s.H.length) (place:=fun x=>pl.toArray[x]?) ((parts.map fun p=>(p.1,a.eval p.2)).toList) (ps.map fun p=>(p.1,p.2.1,(p.2.2.eval G s.T).drop)) zv.cells z Z bQ he (cJ hl) (by
  intro j p q hp hq;simp only[azt,List.getElem?_map,aw0] at hp hq;obtain⟨p0,Mw,rfl⟩:=hp;obtain⟨q0,hq0,rfl⟩:=hq;obtain⟨⟨f,hf,hs,PF⟩,hc⟩:=hinv j p0 q0 Mw hq0;exact⟨by rw[afK _ f _ hf hs,PF],sj hW hF hc⟩)
 have hb:P.built t (parts.map fun p=>(p.1,a.eval p.2)).toList=some C':=by
  unfold Program.built;rw[hi,hu];simp only[R0,gI];exact hf
 refine⟨.agg C',by simp[execOp,ho,run_build w t _ C' hb],.dw (.agg _ _ y7.1 (fun j v hj=>?_) (fun j v x hv hx=>(y7.2 j v x hv hx).1))⟩
 have aP:j<Z.length:=by rw[<- y7.1];exact (axb.1 hj).1
 exact (y7.2 j v _ hj (aw3 aP)).2
end
end
section
section
variable {G:Nat->List AV}{base nt:Nat}{L:List Nat}{gh:Gh}{w w' : World}{a:Act}{s:AS}{H:aa}
def Gh.alloc(gh:Gh)(b:Nat)(p:bF)(q:Nat->Prop):Gh:={ S:=fun b' o=>gh.S b' o\/(b'=b/\q o),κ:=fun b'=>if b'=b then p else gh.κ b',ρ:=gh.ρ }
structure fy (w w' : World) (o:Obj):Prop where
 heap:w'.heap=w.heap.push o
 os:w'.os=w.os
 tape:w'.tape=w.tape
 output:w'.output=w.output
def fy.alloc(w:World)(o:Obj):fy w (w.alloc o) o:=⟨rfl,rfl,rfl,rfl⟩
def fy.drew(w:World)(o:Obj):fy w (w.drew.alloc o) o:=⟨rfl,rfl,rfl,rfl⟩
def fy.old{o:Obj}(h:fy w w' o)(b:Nat)(hb:b<w.heap.size):w'.heap[b]?=w.heap[b]?:=by
 rw[h.heap,ayG,if_neg (by omega)]
def fy.new{o:Obj}(h:fy w w' o):w'.heap[w.heap.size]?=some o:=by
 rw[h.heap,ayG,if_pos rfl]
def fy.size{o:Obj}(h:fy w w' o):w'.heap.size=w.heap.size+1:=by rw[h.heap];simp
def cell_of_heap{o:Nat}(h:w'.heap[b]?=w.heap[b]?):w'.cell? ⟨b,o,none⟩=w.cell? ⟨b,o,none⟩:=by simp[World.cell?,h]
def aY.cg(hW:aY G base H gh w)(b:Nat)(hb:w.heap.size<=b):gh.κ b≠.outer:=by rw[hW.fresh b hb];simp
def jd(hW:aY G base H gh w){o:Obj}(hp:fy w w' o)(da:p≠.outer)(q:Nat->Prop)(n:Nat):Step (fun _=>False) n gh w (gh.alloc w.heap.size p q) w':=by
 refine⟨fun b o h=>.inl h,fun b o h=>cell_of_heap (hp.old b (hW.qj b o h)),by rw[hp.size];omega,hp.os,hp.tape,hp.output,?_,?_,fun _ _=>rfl,fun b ty m hb=>by
  obtain⟨C,fr,h1,h2⟩:=hb;exact⟨C,fr,by rw[hp.old b (axb.1 h1).1];exact h1,h2⟩,fun b E ck hs hb=>by rw[hp.old b (hW.qj b 0 hs)];exact hb⟩
 ·intro b hb _
  have Gi:b≠w.heap.size:=by omega
  refine⟨.inl (hp.old b hb),by simp[Gh.alloc,Gi],fun o ho=>?_⟩
  rcases ho with ho|⟨e,_⟩
  ·exact ho
  ·exact absurd e Gi
 ·intro b hb
  show (if b=w.heap.size then p else gh.κ b)≠.outer
  split
  ·exact da
  ·exact hW.cg b hb
theorem po(hW:aY G base H gh w){o:Obj}(hp:fy w w' o)(da:p≠.outer)(q:Nat->Prop)(n:Nat):Ext n gh w (gh.alloc w.heap.size p q) w':=by
 refine⟨(jd hW hp da q n).mono (fun _ h=>h.elim),fun b hb=>?_⟩
 have iG:(if b=w.heap.size then p else gh.κ b)=.outer:=hb
 grind
def aY.step(hW:aY G base H gh w)(st:Step touch H.length gh w a8 w')(ht:∀ l,¬ touch (.hb l)/\∀ j,¬ touch (.hs l j))
  (hs:∀ b o,a8.S b o->b<w'.heap.size) (hk:∀ b,a8.κ b≠.none->base<=b/\b<w'.heap.size)
  (jm:∀ b o m,a8.S b o->gh.S b o\/(w'.cell? ⟨b,o,none⟩=some (.int .u8 m)->∃ C fr,w'.heap[b]?=some (.cells C je fr))):aY G base H a8 w':=by
 refine⟨axx hW.size st.size,hs,hk,fun g j x hx=>?_,fun loc ty cs hl=>?_,hW.refs,fun g hg=>(hW.Cg g hg).imp fun ty h=>st.len g ty _ h,hW.mw st jm,fun loc o hl=>?_,fun loc ty cs hl=>?_⟩
 ·obtain⟨v,h1,h2,h3⟩:=hW.aX g j x hx
  exact⟨v,(st.cell g j h3).trans h1,h2.mono st.S st.cell st.mp,st.S g j h3⟩
 ·have aP:loc<H.length:=(aw5.1 hl).1
  have h:=(hW.boxes loc ty cs hl).mono st (Nat.le_refl _) (ht loc).1 (ht loc).2;rw[st.ρ loc aP];exact h
 ·rw[st.ρ loc (aw5.1 hl).1]
  exact (hW.more loc o hl).mono st (Nat.le_refl _) (ht loc).1 (ht loc).2
 ·rw[st.ρ loc (aw5.1 hl).1]
  exact fun hf=>st.len _ _ _ (hW.types loc ty cs hl hf)
def aY.alloc(hW:aY G base H gh w){o:Obj}(hp:fy w w' o)(da:p≠.outer)(q:Nat->Prop)
  (hq:∀ k m,q k->w'.cell? ⟨w.heap.size,k,none⟩=some (.int .u8 m)->∃ C fr,w'.heap[w.heap.size]?=some (.cells C je fr)):aY G base H (gh.alloc w.heap.size p q) w':=by
 refine hW.step (jd hW hp da q H.length) (fun l=>⟨id,fun _=>id⟩) ?_ ?_ (fun b k m h=>h.elim .inl (fun ⟨e,hk⟩=>.inr (by subst e;exact hq k m hk)))
 ·intro b o ho
  rw[hp.size]
  rcases ho with ho|⟨rfl,_⟩
  ·have:=hW.qj b o ho;omega
  ·omega
 ·intro b hb
  rw[hp.size];have iG:(if b=w.heap.size then p else gh.κ b)≠.none:=hb
  split at iG
  ·rename_i e
   have:=hW.size
   omega
  ·have:=hW.ru b iG;omega
def Gh.uo(gh:Gh)(b:Nat)(p:bF):Gh:={ gh with κ:=fun b'=>if b'=b then p else gh.κ b' }
def mQ(hW:aY G base H gh w)(hb:b<w.heap.size)(p:bF)(n:Nat):Step (fun r=>r=gh.κ b) n gh w (gh.uo b p) w:=by
 refine⟨fun _ _ h=>h,fun _ _ _=>rfl,Nat.le_refl _,rfl,rfl,rfl,fun b' iG hn=>⟨.inl rfl,?_,fun _ h=>h⟩,fun b' iG=>?_,fun _ _=>rfl,fun _ _ _ h=>h,fun _ _ _ _ h=>h⟩
 ·have da:b'≠b:=by rintro rfl;exact hn rfl
  simp[Gh.uo,da]
 ·have da:b'≠b:=by omega
  simp only[Gh.uo,if_neg da];exact hW.cg b' iG
theorem yU(hW:aY G base H gh w)(hb:b<w.heap.size)(hp:p≠.outer)(h0:gh.κ b≠.none)(h1:gh.κ b≠.outer)(n:Nat):Ext n gh w (gh.uo b p) w:=by
 refine⟨(mQ hW hb p n).mono (fun r h=>by rw[h];exact⟨h0,h1⟩),fun b' iG=>?_⟩
 have kG:(if b'=b then p else gh.κ b')=.outer:=iG
 grind
def Nl(hW:aY G base H gh w)(hb:b<w.heap.size)(p:bF)(h0:gh.κ b≠.none)(ht:∀ l,gh.κ b≠.hb l/\∀ j,gh.κ b≠.hs l j):aY G base H (gh.uo b p) w:=by
 refine hW.step (mQ hW hb p H.length) (fun l=>⟨fun h=>(ht l).1 h.symm,fun j h=>(ht l).2 j h.symm⟩) hW.qj ?_ (fun _ _ _ h=>.inl h)
 intro b' iG;have kG:(if b'=b then p else gh.κ b')≠.none:=iG
 split at kG
 ·rename_i e;rw[e];exact hW.ru b h0
 ·exact hW.ru b' kG
theorem sq(hW:aY G base H gh w)(hb:w.heap[b]?=some (.cells C ty fr))(j7:C'.size=C.size)(q:Nat->Prop)
  (cZ:∀ o,gh.S b o->C'[o]?=C[o]?) (p:bF) (n:Nat) :
  Step (fun r=>r=gh.κ b) n gh w { gh with S:=fun b' o=>gh.S b' o\/(b'=b/\q o),κ:=fun b'=>if b'=b then p else gh.κ b' } (w.setRow b C'):=by
 have aP:b<w.heap.size:=(axb.1 hb).1;refine⟨fun b o h=>.inl h,fun b' o h=>?_,by simp,rfl,rfl,rfl,fun b' iG hn=>?_,fun b' iG=>?_,fun _ _=>rfl,fun b' oI m hm=>by
  obtain⟨D,fr',h1,h2⟩:=hm
  by_cases e:b'=b
  ·subst e
   rw[hb] at h1;injection h1 with h1
   injection h1 with h1 h3 h4
   subst h1 h3;exact⟨C',fr,setRow_heap w b' C C' ty fr hb,by rw[j7,h2]⟩
  ·exact⟨D,fr',by rw[setRow_other w b b' C' e];exact h1,h2⟩,fun b' E ck hs hm=>by
  have e:b'≠b:=by rintro rfl;rw[hb] at hm;cases hm
  rw[setRow_other w b b' C' e];exact hm⟩
 ·by_cases e:b'=b
  ·subst e
   rw[cell_setRow_same w b' o C C' ty fr hb,cZ o h];simp[World.cell?,hb]
  ·exact cell_of_heap (setRow_other w b b' C' e)
 ·have da:b'≠b:=by rintro rfl;exact hn rfl
  refine⟨.inl (setRow_other w b b' C' da),by simp[da],fun o ho=>?_⟩
  grind
 ·have da:b'≠b:=by omega
  simp only[if_neg da];exact hW.cg b' iG
theorem CM(hW:aY G base H gh w)(hb:w.heap[b]?=some (.cells C ty fr))(j7:C'.size=C.size)(q:Nat->Prop)
  (cZ:∀ o,gh.S b o->C'[o]?=C[o]?) {p:bF} (hp:p≠.outer) (h0:gh.κ b≠.none) (h1:gh.κ b≠.outer) (n:Nat) :
  Ext n gh w { gh with S:=fun b' o=>gh.S b' o\/(b'=b/\q o),κ:=fun b'=>if b'=b then p else gh.κ b' } (w.setRow b C'):=by
 refine⟨(sq hW hb j7 q cZ p n).mono (fun r h=>by rw[h];exact⟨h0,h1⟩),fun b' iG=>?_⟩
 grind
def Qp(hW:aY G base H gh w)(hb:w.heap[b]?=some (.cells C ty fr))(j7:C'.size=C.size)(q:Nat->Prop)
  (cZ:∀ o,gh.S b o->C'[o]?=C[o]?) (hq:∀ k m,q k->C'[k]?=some (.int .u8 m)->ty=je) (p:bF) (h0:gh.κ b≠.none) (ht:∀ l,gh.κ b≠.hb l/\∀ j,gh.κ b≠.hs l j) :
  aY G base H { gh with S:=fun b' o=>gh.S b' o\/(b'=b/\q o),κ:=fun b'=>if b'=b then p else gh.κ b' } (w.setRow b C'):=by
 have aP:b<w.heap.size:=(axb.1 hb).1;refine hW.step (sq hW hb j7 q cZ p H.length) (fun l=>⟨fun h=>(ht l).1 h.symm,fun j h=>(ht l).2 j h.symm⟩) ?_ ?_ (fun b' k m h=>h.elim .inl (fun ⟨e,hk⟩=>.inr (fun hc=>by
   subst e;rw[cell_setRow_same w b' k C C' ty fr hb] at hc;have:=hq k m hk hc
   subst this;exact⟨C',fr,setRow_heap w b' C C' _ fr hb⟩)))
 ·intro b' o ho
  simp
  rcases ho with ho|⟨rfl,_⟩
  ·exact hW.qj b' o ho
  ·exact aP
 ·intro b' iG
  simp;have kG:(if b'=b then p else gh.κ b')≠.none:=iG
  split at kG
  ·rename_i e;rw[e];exact hW.ru b h0
  ·exact hW.ru b' kG
theorem FR.cc(h:FR L nt gh w a s)(st:Step touch s.H.length gh w a8 w'){t:Nat}{X:AV}{H':aa}{lo':Nat}(hH:s.H.length<=H'.length)
  (ht:∀ i,i≠t->¬ touch (.bx i)/\¬ touch (.sl i)/\∀ j,¬ touch (.sc i j))
  (hX:(t<nt/\dY X=dY (s.T t))\/dY X=none) (hsr:t<nt->SR a8 H'.length nt w' s.T s.gen (gv a) t (gv a t) X) :
  FR L nt a8 w' a (({ s with H:=H',lo:=lo' } : AS).cc t X):=by
 refine h.update st h.defers h.size hH (Nat.le_refl _) (fun i=>i=t) ?_ ?_ ?_
 ·intro i hi
  exact⟨by simp[AS.cc,kZ,hi],fun _=>⟨rfl,ht i hi⟩⟩
 ·rintro i rfl
  simp only[AS.cc,kZ,ayE]
  grind
 ·rintro i rfl hi
  simp only[AS.cc,kZ,ayE];refine SR.mono (touch:=fun _=>False) (n:=H'.length) (gh:=a8) (w:=w') (Step.refl _ _ _ _ (fun b hb=>st.fresh b (axx st.size hb))) (Nat.le_refl _) (Nat.le_refl _) id id (fun _=>id) ?_ (hsr hi)
  grind [kZ]
theorem FR.WS(h:FR L nt gh w a s)(hg:s.gen<=gen')(gl:∀ b,w.heap.size<=b->gh.κ b≠.outer)(d:Option Nat)(hd:∀ k,d=some k->k<nt){x:AV}
  (hx:dY x=none\/((∃ g,s.gen<=g/\dY x=some g)/\∀ k,d=some k->k∈L))
  (hv:∀ k,d=some k->SR gh s.H.length nt w s.T gen' (gv a) k v x):FR L nt gh w (a.put d v) (({ s with gen:=gen' } : AS).cR d x):=by
 have st:Step (fun _=>False) s.H.length gh w gh w:=Step.refl _ _ _ _ gl
 cases d with
 | none=>exact h.update st h.defers h.size (Nat.le_refl _) hg (fun _=>False) (fun i _=>⟨rfl,fun _=>⟨rfl,id,id,fun _=>id⟩⟩) (fun _ h=>h.elim) (fun _ h=>h.elim)
 | some d =>
  have aP:=hd d rfl;have j7:d<a.tmps.size:=by rw[h.size];exact aP
  refine h.update (s':=({ s with gen:=gen' } : AS).cR (some d) x) st ((BO a (some d) v).trans h.defers) ((LV a (some d) v).trans h.size) (Nat.le_refl _) hg (fun i=>i=d) ?_ ?_ ?_
  ·intro i hi
   exact⟨by simp[AS.cR,AS.cc,kZ,hi],fun _=>⟨by rw[qV a d v i j7,if_neg hi],id,id,fun _=>id⟩⟩
  ·rintro i rfl
   simp only[AS.cR,AS.cc,kZ,ayE]
   grind
  ·rintro i rfl hi
   simp only[AS.cR,AS.cc,kZ,ayE];rw[qV a i v i j7,if_pos rfl];have o9:=hv i rfl;cases x
   case lref b g off =>
    obtain⟨h1,h2,h3⟩:=o9;refine⟨h1,h2,fun Nt b' iG=>?_⟩
    by_cases U0:b=i
    ·subst U0;simp[kZ,dY] at Nt
    ·simp only[kZ,if_neg U0] at Nt
     rw[qV a i v b j7,if_neg U0] at iG;exact h3 Nt b' iG
   case lsr b g =>
    obtain⟨h1,h2,h3⟩:=o9;refine⟨h1,h2,fun Nt=>?_⟩
    by_cases U0:b=i
    ·subst U0;simp[kZ,dY] at Nt
    ·simp only[kZ,if_neg U0] at Nt
     rw[qV a i v b j7,if_neg U0];exact h3 Nt
   case eref b g r z off =>
    obtain⟨h1,h2,h3⟩:=o9;refine⟨h1,h2,fun Nt b' k cap iG=>?_⟩
    by_cases U0:b=i
    ·subst U0;simp[kZ,dY] at Nt
    ·simp only[kZ,if_neg U0] at Nt
     rw[qV a i v b j7,if_neg U0] at iG;exact h3 Nt b' k cap iG
   all_goals exact o9
end
end
section
section
variable {P:Program}{G:Nat->List AV}{base nt:Nat}{L:List Nat}{gh:Gh}{w:World}{a:Act}{s:AS}
structure Out (G:Nat->List AV) (base nt:Nat) (L:List Nat) (gh:Gh) (w:World) (a:Act) (s:AS) (d:Option Nat) (x:AV) (s' : AS) (v' : Value) (a8:Gh) (w' : World):Prop where
 W:aY G base s'.H a8 w'
 F:FR L nt a8 w' (a.put d v') (s'.cR d x)
 E:Ext s.H.length gh w a8 w'
def xr(P:Program)(a:Act)(o:Oper)(w:World)(v' : Value)(w' : World):Prop :=
 (execOp a.eval o).run P w=.ok (.value v') w'\/((execOp a.eval o).run P w=.ok .skip w'/\v'=undef)
theorem xr.wp{v':Value}{w':World}{K:Act->World->Prop}{Q:Exit->Act->World->Prop}(h:xr P a o w v' w')(hK:K (a.put o.dst v') w'):o.wp P a w K Q:=by
 unfold Oper.wp
 rcases h with h|⟨h,rfl⟩
 ·rw[h];exact hK
 ·rw[h];exact hK
def Out.pure(hW:aY G base s.H gh w)(hF:FR L nt gh w a s)(hd:∀ k,d=some k->k<nt){x:AV}(hv:pn gh s.H.length nt w s.T s.gen (gv a) v x) :
  Out G base nt L gh w a s d x s v gh w:=by
 refine⟨hW,?_,Ext.refl _ _ _ (fun b hb=>hW.cg b hb)⟩
 have:=hF.put (touch:=fun _=>False) (H':=s.H) (lo':=s.lo) (Step.refl _ _ _ _ (fun b hb=>hW.cg b hb)) (fun i=>⟨id,id,fun _=>id⟩) (Nat.le_refl _) d hd hv
 exact this
def XG{n:Nat}(h:CR gh n w (.sl i) v (.slice e own)):SR gh n nt w T gen tm i v (.slice e own):=h
def jq(S:Nat->Nat->Prop)(w:World)(sz:Nat)(C:Array Value)(E:List (List AV)):Prop :=
 C.size=E.length*sz/\(∀ (i:Nat) (r:List AV),E[i]?=some r->r.length=sz) /\
  ∀ (i j:Nat) (r:List AV) (x:AV),E[i]?=some r->r[j]?=some x->∃ v,C[i*sz+j]?=some v/\PR S w v x
def VR.me{n:Nat}{x:AV}(h:VR gh n w v x)(hp:x.plain=true):PR gh.S w v x:=by
 cases h with
 | plain _ _ h=>exact h
 | full=>simp[AV.plain] at hp
 | ref=>simp[AV.plain] at hp
 | sref=>simp[AV.plain] at hp
 | mref=>simp[AV.plain] at hp
 | func f fs cs xs ys hf hc h1 h2 =>
  cases xs<;>cases ys<;>simp[AV.plain] at hp
  have e1:fs=#[]:=ayR hf;have e2:cs=#[]:=ayR hc;subst e1 e2;exact .func f
 | iface t v x h =>
  cases x<;>simp[AV.plain] at hp
  all_goals
   cases h with
   | plain _ _ h=>exact .iface _ _ _ h
 | agg=>simp[AV.plain] at hp
 | tuple=>simp[AV.plain] at hp
def Un{n:Nat}{x:AV}(hx:∀ ds,x.cells=some ds->sP gh n w v.cells ds)(he:x.elem sz=some cs) :
  v.cells.size=sz/\cs.length=sz/\∀ (j:Nat) (y:AV),cs[j]?=some y->∃ u,v.cells[j]?=some u/\PR gh.S w u y:=by
 unfold AV.elem at he;split at he
 ·cases he
 ·rename_i ds hds
  obtain⟨h1,h2⟩:=ay he;injection h2 with h2
  subst h2;simp only[aw4,im,aw'] at h1;have hr:=(hx ds hds).dropped;refine⟨by rw[hr.1];exact h1.1,h1.1,fun j y hy=>?_⟩
  have hj:j<v.cells.size:=by rw[hr.1];exact (aw5.1 hy).1
  have hv:v.cells[j]?=some v.cells[j]:=axj hj;exact⟨_,hv,((hr.2 j _ y hv hy).1).me (aw8.1 h1.2 y (axc hy))⟩
theorem x4{n:Nat}(hi:i<n)(hj:j<sz):i*sz+j<n*sz:=by
 have:(i+1)*sz<=n*sz:=axg _ hi
 grind
theorem jq.put{D:Array Value}(h:jq S w sz C E)(hi:i<E.length)(hD:D.size=sz)(iz:cs.length=sz)
  (dh:∀ (j:Nat) (y:AV),cs[j]?=some y->∃ u,D[j]?=some u/\PR S w u y):jq S w sz (D.zipIdx.foldl (fun q (c,k)=>q.setIfInBounds (i*sz+k) c) C) (E.set i cs):=by
 have e:D.zipIdx.foldl (fun q (c,k)=>q.setIfInBounds (i*sz+k) c) C=(D.toList.zipIdx 0).foldl (fun q (c,k)=>q.setIfInBounds (i*sz+k) c) C:=by
  rw[<- Array.foldl_toList,azN]
 have hDl:D.toList.length=sz:=cJ hD;have hle:i*sz+sz<=C.size:=by
  have:(i+1)*sz<=E.length*sz:=axg _ hi
  rw[axT] at this;rw[h.1];omega
 rw[e];refine⟨by rw[pW,h.1];simp,fun k r hk=>?_,fun k j r x hk hj=>?_⟩
 ·rw[axI] at hk
  split at hk
  ·grind
  ·exact h.2.1 k r hk
 ·rw[rb _ _ _ _ _ (by rw[hDl];omega)]
  simp only[axZ,hDl];rw[axI] at hk;split at hk
  ·grind
  ·rename_i hki
   have uY:j<sz:=by rw[<- h.2.1 k r hk];exact (aw5.1 hj).1
   have mS:¬ (i*sz<=k*sz+j/\k*sz+j<i*sz+sz):=by
    rintro ⟨c1,c2⟩
    have:i=k:=by
     rcases azb i k with h'|h'|h'
     ·have:(i+1)*sz<=k*sz:=axg _ h'
      grind
     ·exact h'
     ·have:(k+1)*sz<=i*sz:=axg _ h'
      grind
    exact hki this
   rw[if_neg mS];exact h.2.2 k j r x hk hj
def GW : ∀ (parts:List (Nat × Value)) (ip:List (Nat × AV)) (C:Array Value) (E E' : List (List AV)),jq S w sz C E->cC sz E ip=some E'->parts.length=ip.length ->
  (∀ (j:Nat) (p:Nat × Value) (q:Nat × AV),parts[j]?=some p->ip[j]?=some q->p.1=q.1/\∀ cs,q.2.elem sz=some cs->p.2.cells.size=sz/\cs.length=sz/\∀ (j:Nat) (y:AV),cs[j]?=some y->∃ u,p.2.cells[j]?=some u/\PR S w u y) ->
  ∃ C',Instr.fill (fun i=>some (i*sz,sz)) C parts=some C'/\jq S w sz C' E'
 | [],[],C,E,E',h,hb,_,_=>by simp[cC] at hb;subst hb;exact⟨C,rfl,h⟩
 | p :: parts,q :: ip,C,E,E',h,hb,hl,hp=>by
  obtain⟨h1,h2⟩:=hp 0 p q rfl rfl;obtain⟨i,v⟩:=p;obtain⟨i',x⟩:=q;simp only at h1;subst h1;simp only[cC] at hb;split at hb
  ·cases hb
  ·rename_i cs iz
   obtain⟨h3,iG⟩:=ay hb;have hi:i<E.length:=by simpa [axp] using h3
   obtain⟨c1,c2,c3⟩:=h2 cs iz;obtain⟨C',hf,bQ⟩:=GW parts ip _ _ E' (h.put hi c1 c2 c3) iG (cJ hl) (fun j p q oU hq'=>hp (j+1) p q (cJ oU) (cJ hq'))
   refine⟨C',?_,bQ⟩;unfold Instr.fill;simp only;have hle:i*sz+sz<=C.size:=by
    have:(i+1)*sz<=E.length*sz:=axg _ hi
    rw[axT] at this;rw[h.1];omega
   have mS:¬ (decide (v.cells.size≠sz) || decide (i*sz+v.cells.size>C.size))=true:=by
    simp at c1;simp;omega
   rw[if_neg mS];exact hf
 | [],_ :: _,_,_,_,_,_,hl,_=>by simp at hl
 | _ :: _,[],_,_,_,_,_,hl,_=>by simp at hl
def jq.slice{w':World}(h:jq S w sz C E){gh:Gh}(hS:gh.S=S)(hp:fy w w' (.cells C' ty))
  (hW:∀ b o,S b o->b<w.heap.size) (hC:∀ j,j<C.size->C'[j]?=C[j]?) {q:Nat->Prop} (hq:∀ j,j<E.length*sz->q j) (cap:Nat) (kQ:E.length<=cap) :
  PR (gh.alloc w.heap.size p q).S w' (.slice (some ⟨w.heap.size,0,none⟩) E.length cap) (.slice E false):=by
 subst hS;have key:∀ (i j:Nat) (r:List AV) (x:AV),E[i]?=some r->r[j]?=some x->∃ v,C[i*sz+j]?=some v/\PR gh.S w v x/\i*sz+j<E.length*sz:=by
  intro i j r x hi hj;obtain⟨v,hv,cu⟩:=h.2.2 i j r x hi hj;exact⟨v,hv,cu,by rw[<- h.1];exact (axb.1 hv).1⟩
 refine .slice w.heap.size 0 E.length cap sz E (fun i j=>C.getD (i*sz+j) undef) rfl kQ h.2.1 ?_ ?_
 ·intro i j r x hi hj
  obtain⟨v,hv,cu,aP⟩:=key i j r x hi hj;have u7:i*sz+j<C.size:=by rw[h.1];exact aP
  have hg:C.getD (i*sz+j) undef=v:=by
   simp_all
  refine⟨.inr ⟨rfl,by simpa using hq _ aP⟩,?_,by rw[hg];exact cu.fJ⟩
  rw[hg,axC];simp only[World.cell?,hp.new]
  simpa [hC _ u7] using hv
 ·intro i j r x hi hj
  obtain⟨v,hv,cu,aP⟩:=key i j r x hi hj;have u7:i*sz+j<C.size:=by rw[h.1];exact aP
  have hg:C.getD (i*sz+j) undef=v:=by
   simp_all
  rw[hg];exact cu.mono (fun b o ho=>.inl ho) (fun b o ho=>cell_of_heap (hp.old b (hW b o ho))) (fun b E ck hs hb=>by rw[hp.old b (hW b 0 hs)];exact hb)
end
end
section
section
variable {P:Program}{G:Nat->List AV}{base nt:Nat}{L:List Nat}{gh:Gh}{w w' : World}{a:Act}{s:AS}{H:aa}
def XD:Option Nat->bF
 | some d=>.sl d
 | none=>.none
def Q0:Option Nat->bF
 | some d=>.bx d
 | none=>.none
def qU(d:Option Nat):XD d≠.outer:=by cases d<;>simp[XD]
def yC(d:Option Nat):Q0 d≠.outer:=by cases d<;>simp[Q0]
def FR.grown(h:FR L nt gh w a s)(st:Step touch s.H.length gh w a8 w')(ht:∀ i,¬ touch (.bx i)/\¬ touch (.sl i)/\∀ j,¬ touch (.sc i j))
  {H' : aa} {lo' : Nat} (hH:s.H.length<=H'.length):FR L nt a8 w' a { s with H:=H',lo:=lo' } :=
 h.update st h.defers h.size hH (Nat.le_refl _) (fun _=>False) (fun i _=>⟨rfl,fun _=>⟨rfl,ht i⟩⟩) (fun _ h=>h.elim) (fun _ h=>h.elim)
def Gh.bE(gh:Gh)(b n:Nat):Gh:={ gh.alloc b (.hb n) (fun _=>False) with ρ:=fun l=>if l=n then b else gh.ρ l }
def gz(hW:aY G base H gh w){o:Obj}(hp:fy w w' o):Step (fun _=>False) H.length gh w (gh.bE w.heap.size H.length) w':=by
 have h:=jd hW hp (p:=.hb H.length) ae (fun _=>False) H.length
 refine⟨h.S,h.cell,h.size,h.os,h.tape,h.output,h.oo,h.fresh,fun loc hl=>?_,h.len,h.mp⟩
 show (if loc=H.length then _ else _)=_
 rw[if_neg af]
theorem kY(hW:aY G base H gh w){o:Obj}(hp:fy w w' o):Ext H.length gh w (gh.bE w.heap.size H.length) w':=by
 refine⟨(gz hW hp).mono (fun _ h=>h.elim),fun b hb=>?_⟩
 have iG:(if b=w.heap.size then bF.hb H.length else gh.κ b)=.outer:=hb
 grind
theorem aY.bE(hW:aY G base H gh w)(hp:fy w w' (.cells C ty))(bQ:sP gh H.length w C cs)(hr:cs.all (aV H.length)=true) :
  aY G base (H++[.box ty cs]) (gh.bE w.heap.size H.length) w':=by
 have st:=gz hW hp;refine⟨axx hW.size st.size,?_,?_,fun g j x hx=>?_,fun loc oI ds hl=>?_,fun loc oI ds hl=>?_,fun g hg=>(hW.Cg g hg).imp fun ty h=>st.len g ty _ h,hW.mw st (fun b o m h=>h.elim .inl (fun h=>h.2.elim)),fun loc o hl=>?_,fun loc oI ds hl=>?_⟩
 ·intro b o ho
  rw[hp.size]
  rcases ho with ho|⟨_,ho⟩
  ·have:=hW.qj b o ho;omega
  ·exact ho.elim
 ·intro b hb
  rw[hp.size];have iG:(if b=w.heap.size then bF.hb H.length else gh.κ b)≠.none:=hb
  split at iG
  ·rename_i e
   have:=hW.size
   omega
  ·have:=hW.ru b iG;omega
 ·obtain⟨v,h1,h2,h3⟩:=hW.aX g j x hx
  exact⟨v,(st.cell g j h3).trans h1,h2.mono st.S st.cell st.mp,st.S g j h3⟩
 ·rw[List.length_append,aya]
  by_cases aP:loc<H.length
  ·rw[axd aP] at hl
   have h:=(hW.boxes loc oI ds hl).mono st (n':=H.length+1) (Nat.le_succ _) id (fun _=>id)
   rw[st.ρ loc aP];exact h
  ·rw[List.getElem?_append_right af] at hl
   have hz:loc=H.length:=by
    grind
   subst hz;simp only[ayQ,axl,aw2,bG.box.injEq] at hl;obtain⟨rfl,rfl⟩:=hl;have hρ:(gh.bE w.heap.size H.length).ρ H.length=w.heap.size:=by simp[Gh.bE]
   rw[hρ];refine⟨by simp[Gh.bE,Gh.alloc],?_,C,ty,hp.new,Nat.le_of_eq bQ.1.symm,fun j v x hv hx=>?_⟩
   ·rintro o (ho|⟨_,ho⟩)
    ·have:=hW.qj _ o ho;omega
    ·exact ho
   ·obtain⟨h1,h2⟩:=bQ.2 j v x hv hx
    exact⟨h2,.inl (h1.mono st (Nat.le_succ _))⟩
 ·by_cases aP:loc<H.length
  ·rw[axd aP] at hl
   exact hW.refs loc oI ds hl
  ·grind
 ·rw[List.length_append,aya]
  by_cases aP:loc<H.length
  ·rw[axd aP] at hl
   rw[st.ρ loc aP];exact (hW.more loc o hl).mono st (Nat.le_succ _) id (fun _=>id)
  ·rw[List.getElem?_append_right af] at hl
   have hz:loc=H.length:=by
    grind
   subst hz;simp only[ayQ,axl,aw2] at hl;subst hl;trivial
 ·by_cases aP:loc<H.length
  ·rw[axd aP] at hl
   rw[st.ρ loc aP];exact fun hf=>st.len _ _ _ (hW.types loc oI ds hl hf)
  ·rw[List.getElem?_append_right af] at hl
   have hz:loc=H.length:=by
    grind
   subst hz;simp only[ayQ,axl,aw2,bG.box.injEq] at hl;obtain⟨rfl,rfl⟩:=hl;have hρ:(gh.bE w.heap.size H.length).ρ H.length=w.heap.size:=by simp[Gh.bE]
   rw[hρ];exact fun _=>⟨C,(0,0),hp.new,bQ.1⟩
def Out.bE(hW:aY G base s.H gh w)(hF:FR L nt gh w a s)(hd:∀ k,d=some k->k<nt)(hp:fy w w' (.cells C ty))(bQ:sP gh s.H.length w C cs)
  (hr:cs.all (aV s.H.length)=true) :
  Out G base nt L gh w a s d (.ref s.H.length 0) (s.iw ⟨s.H++[.box ty cs],s.H.length⟩) (.pointer (some ⟨w.heap.size,0,none⟩)) (gh.bE w.heap.size s.H.length) w':=by
 have hρ:(gh.bE w.heap.size s.H.length).ρ s.H.length=w.heap.size:=by simp[Gh.bE]
 have hv:VR (gh.bE w.heap.size s.H.length) (s.H++[bG.box ty cs]).length w' (.pointer (some ⟨w.heap.size,0,none⟩)) (.ref s.H.length 0):=by
  have:=VR.ref (gh:=gh.bE w.heap.size s.H.length) (w:=w') (n:=(s.H++[bG.box ty cs]).length) s.H.length 0 ae
  rw[hρ] at this;exact this
 exact⟨hW.bE hp bQ hr,hF.put (gz hW hp) (fun i=>⟨id,id,fun _=>id⟩) ae d hd (.dw hv),kY hW hp⟩
def F8{x:AV}(h:lH v=some x):x.drop.plain=true:=by
 unfold lH at h
 split at h<;>first|(injection h with h;subst h;rfl)|cases h
theorem pO:∀ {vs:List Value} {xs:List AV},dX vs=some xs->∀ x,x∈xs->x.drop.plain=true
 | [],xs,h=>by simp[dX] at h;subst h;simp
 | v :: r,xs,h=>by
  simp only[dX,aw1,aw0] at h;obtain⟨x,hx,ys,hy,rfl⟩:=h;intro z hz
  rcases axs.1 hz with rfl|hz
  ·exact F8 hx
  ·exact pO hy z hz
theorem Bf{t:TypeId}(h:gG P t=some z):∀ x,x∈z->x.drop.plain=true:=by
 simp only[gG,aw1] at h
 grind [pO]
def y4{x:AV}(h:x.drop.plain=true):aV loc x=true:=by
 cases x<;>first|exact h|(simp[AV.drop,AV.plain] at h;done)|skip
 rename_i f fs cs
 cases fs<;>cases cs<;>first|rfl|(simp[AV.drop,AV.plain] at h)
theorem re{x:AV}(h:aV loc x=true):aV loc x.drop=true:=by
 cases x<;>exact h
def A1{t:TypeId}{i:TypeInfo}(hi:P.info? t=some i)(hz:i.zero=some zv)(w:World) :
  (Instr.alloc t true (.tuple #[])).run P w=.ok (.pointer (some ⟨w.heap.size,0,none⟩)) (w.alloc (.cells zv.cells t)):=by
 simp[Instr.alloc,zeroValue,typeInfo,hi,hz,newVar,newRow]
def SY{t:TypeId}(h:(gG P t).map (fun z=>cond kp (z.map oW) z)=some z):∀ x,x∈z->x.drop.plain=true:=by
 simp only[aw0] at h;obtain⟨z0,h0,rfl⟩:=h;cases kp with
 | false=>exact Bf h0
 | true =>
  intro x hx;obtain⟨y,hy,rfl⟩:=List.mem_map.1 hx;have:=Bf h0 y hy
  unfold oW;split
  ·rfl
  ·exact this
def Ri(hW:aY G base s.H gh w)(hF:FR L nt gh w a s){t:TypeId}(ho:o.op=.alloc t)(hz:(gG P t).map (fun z=>cond kp (z.map oW) z)=some z)(hd:∀ k,o.dst=some k->k<nt) :
  ∃ v' a8 w',xr P a o w v' w'/\Out G base nt L gh w a s o.dst (.ref s.H.length 0) (s.iw ⟨s.H++[.box t z],s.H.length⟩) v' a8 w':=by
 obtain⟨i,zv,hi,R0,bQ⟩:=sI (gh:=gh) (n:=s.H.length) (w:=w) hz;refine⟨_,_,_,.inl ?_,Out.bE hW hF hd (.alloc w (.cells zv.cells t)) bQ ?_⟩
 ·simp[execOp,ho,A1 hi R0]
 ·exact aw8.2 fun x hx=>y4 (SY hz x hx)
theorem aeI(hW:aY G base s.H gh w)(hF:FR L nt gh w a s){t:TypeId}(ho:o.op=.box t x)(hc:au nt x=some y)(iz:(y.eval G s.T).drop.cells=some cs)
  (dQ:cs.all (aV s.H.length)=true) (hd:∀ k,o.dst=some k->k<nt) :
  ∃ v' a8 w',xr P a o w v' w'/\Out G base nt L gh w a s o.dst (.ref s.H.length 0) (s.iw ⟨s.H++[.box t (cs.map AV.drop)],s.H.length⟩) v' a8 w':=by
 have bQ:=(sj hW hF hc cs iz).dropped;refine⟨_,_,_,.inl ?_,Out.bE hW hF hd (.alloc w (.cells (a.eval x).cells t)) bQ ?_⟩
 ·simp[execOp,ho,Instr.box,newVar,newRow]
 ·grind [re]
def Rj(hW:aY G base s.H gh w)(hF:FR L nt gh w a s){t:TypeId}(ho:o.op=.alloc t)(hz:(gG P t).map (fun z=>cond kp (z.map oW) z)=some z)(hd:∀ k,o.dst=some k->k<nt/\k∈L) :
  ∃ v' a8 w',xr P a o w v' w'/\Out G base nt L gh w a s o.dst (.lbox s.gen z) { s with gen:=s.gen+1 } v' a8 w':=by
 obtain⟨i,zv,hi,R0,bQ⟩:=sI (gh:=gh) (n:=s.H.length) (w:=w) hz;have hp:=fy.alloc w (.cells zv.cells t);have da:=yC o.dst;have st:=jd hW hp da (fun _=>False) s.H.length
 have KN:=hF.grown (H':=s.H) (lo':=s.lo) st (fun i=>⟨id,id,fun _=>id⟩) (Nat.le_refl _)
 have n9:=hW.alloc hp da (fun _=>False) (fun _ _ h=>h.elim)
 refine⟨.pointer (some ⟨w.heap.size,0,none⟩),_,_,.inl ?_,n9,KN.WS (gen':=s.gen+1) (Nat.le_succ _) (fun b hb=>n9.cg b hb) o.dst (fun k hk=>(hd k hk).1) (.inr ⟨⟨s.gen,Nat.le_refl _,rfl⟩,fun k hk=>(hd k hk).2⟩) ?_,po hW hp da _ _⟩
 ·simp[execOp,ho,A1 hi R0]
 ·intro k hk
  refine⟨ay4 _,w.heap.size,rfl,?_⟩;rw[hk] at st ⊢;refine⟨by simp[Gh.alloc,Q0],?_,zv.cells,t,hp.new,Nat.le_of_eq bQ.1.symm,fun j v x hv hx=>?_⟩
  ·rintro o (ho|⟨_,ho⟩)
   ·have:=hW.qj _ o ho;omega
   ·exact ho
  ·obtain⟨h1,h2⟩:=bQ.2 j v x hv hx
   exact⟨h2,.inl (h1.mono st (Nat.le_refl _))⟩
def Y3(hW:aY G base s.H gh w)(hF:FR L nt gh w a s){t:TypeId}(ho:o.op=.box t x)(hc:au nt x=some y)(iz:(y.eval G s.T).drop.cells=some cs)(hd:∀ k,o.dst=some k->k<nt/\k∈L) :
  ∃ v' a8 w',xr P a o w v' w'/\Out G base nt L gh w a s o.dst (.lbox s.gen (cs.map AV.drop)) { s with gen:=s.gen+1 } v' a8 w':=by
 have bQ:=(sj hW hF hc cs iz).dropped;have hp:=fy.alloc w (.cells (a.eval x).cells t);have da:=yC o.dst;have st:=jd hW hp da (fun _=>False) s.H.length
 have KN:=hF.grown (H':=s.H) (lo':=s.lo) st (fun i=>⟨id,id,fun _=>id⟩) (Nat.le_refl _)
 have n9:=hW.alloc hp da (fun _=>False) (fun _ _ h=>h.elim)
 refine⟨.pointer (some ⟨w.heap.size,0,none⟩),_,_,.inl ?_,n9,KN.WS (gen':=s.gen+1) (Nat.le_succ _) (fun b hb=>n9.cg b hb) o.dst (fun k hk=>(hd k hk).1) (.inr ⟨⟨s.gen,Nat.le_refl _,rfl⟩,fun k hk=>(hd k hk).2⟩) ?_,po hW hp da _ _⟩
 ·simp[execOp,ho,Instr.box,newVar,newRow]
 ·intro k hk
  refine⟨ay4 _,w.heap.size,rfl,?_⟩;rw[hk] at st ⊢;refine⟨by simp[Gh.alloc,Q0],?_,(a.eval x).cells,t,hp.new,Nat.le_of_eq bQ.1.symm,fun j v x hv hx=>?_⟩
  ·rintro o (ho|⟨_,ho⟩)
   ·have:=hW.qj _ o ho;omega
   ·exact ho
  ·obtain⟨h1,h2⟩:=bQ.2 j v x hv hx
   exact⟨h2,.inl (h1.mono st (Nat.le_refl _))⟩
theorem Dn(hW:aY G base s.H gh w)(hF:FR L nt gh w a s){t e:TypeId}{n:Nat}
  (ho:o.op=.build t parts) {kp:Bool} (hz:(gG P t).map (fun z=>cond kp (z.map oW) z)=some z) (hu:P.underlying t=some (.array n e)) (hs:fe P e=some sz) (hp:lF nt sz parts.toList=some ps)
  (he:dW z (ps.map fun p=>(p.1,p.2.1,(p.2.2.eval G s.T).drop))=some Z) :
  ∃ v,(execOp a.eval o).run P w=.ok (.value v) w/\pn gh s.H.length nt w s.T s.gen (gv a) v (.agg Z):=by
 obtain⟨i,zv,hi,R0,bQ⟩:=sI (gh:=gh) (n:=s.H.length) (w:=w) hz;obtain⟨ie,hie,Va⟩:=pa hs;have inv:∀ (l:List (Nat × Operand)) (ps:List (Nat × Nat × aI)),lF nt sz l=some ps->l.length=ps.length /\
   ∀ (j:Nat) (p:Nat × Operand) (q:Nat × Nat × aI),l[j]?=some p->ps[j]?=some q->q.1=p.1*sz/\q.2.1=sz/\au nt p.2=some q.2.2:=by
  intro l
  induction l with
  | nil=>intro ps h;simp[lF] at h;subst h;exact⟨rfl,fun j p q h=>by simp at h⟩
  | cons p l ih =>
   intro ps h;obtain⟨k,x⟩:=p;simp only[lF,aw1,aw0] at h
   grind
 obtain⟨hl,hinv⟩:=inv _ _ hp;obtain⟨C',hf,y7⟩:=Dq (gh:=gh) (w:=w) (n:=s.H.length) (place:=fun i=>some (i*ie.size,ie.size)) ((parts.map fun p=>(p.1,a.eval p.2)).toList) (ps.map fun p=>(p.1,p.2.1,(p.2.2.eval G s.T).drop)) zv.cells z Z bQ he (cJ hl) (by
  intro j p q hp hq;simp only[azt,List.getElem?_map,aw0] at hp hq;obtain⟨p0,Mw,rfl⟩:=hp;obtain⟨q0,hq0,rfl⟩:=hq;obtain⟨h1,h2,hc⟩:=hinv j p0 q0 Mw hq0;exact⟨by simp[h1,h2,Va],sj hW hF hc⟩)
 have hb:P.built t (parts.map fun p=>(p.1,a.eval p.2)).toList=some C':=by
  unfold Program.built;rw[hi,hu];simp only[R0,hie];exact hf
 refine⟨.agg C',by simp[execOp,ho,run_build w t _ C' hb],.dw (.agg _ _ y7.1 (fun j v hj=>?_) (fun j v x hv hx=>(y7.2 j v x hv hx).1))⟩
 have aP:j<Z.length:=by rw[<- y7.1];exact (axb.1 hj).1
 exact (y7.2 j v _ hj (aw3 aP)).2
theorem SZ{t:TypeId}(bQ:sP gh H.length w zv.cells z)(dQ:∀ x,x∈z->x.drop.plain=true)(hz:z.length=sz)(DF:0<sz) :
  jq gh.S w sz ((Array.range (len*sz)).map (zv.cells[· % zv.cells.size]!)) (List.replicate len (z.map AV.drop)):=by
 have j7:zv.cells.size=sz:=by rw[bQ.1,hz]
 refine⟨ae,fun i r hi=>?_,fun i j r x hi hj=>?_⟩
 ·grind
 ·rw[List.getElem?_replicate] at hi
  split at hi
  ·rename_i aP
   injection hi with hi;subst hi
   simp only[List.getElem?_map,aw0] at hj;obtain⟨y,hy,rfl⟩:=hj;have hj:j<sz:=by rw[<- hz];exact (aw5.1 hy).1
   have B4:j<zv.cells.size:=af;have NA:(i*sz+j) % zv.cells.size=j:=by rw[j7,Nat.mul_add_mod',Nat.mod_eq_of_lt hj]
   refine⟨zv.cells[j],?_,?_⟩
   ·grind [x4]
   ·have hv:=axj B4
    exact (VR.dropped (bQ.2 j _ y hv hy).1).me (dQ y (axc hy))
  ·cases hi
theorem vx{n:Nat}(h:k<n*sz):k / sz<n/\k % sz<sz/\k / sz*sz+k % sz=k:=by
 have j7:0<sz:=by
  grind
 refine⟨Nat.div_lt_of_lt_mul (by rw[azS];exact h),Nat.mod_lt _ j7,?_⟩
 have:=Nat.div_add_mod k sz
 grind
def qi{A:Array Value}(h:jq S w sz A E)(ri:mK isB E=true)(hB:isB=true->ty=je)(hk:k<E.length*sz)
  (hc:A[k]?=some (.int .u8 m)):ty=je:=by
 cases isB with
 | true=>exact hB rfl
 | false =>
  exfalso;obtain⟨h1,h2,h3⟩:=vx hk;have hr:=aw3 h1;obtain⟨x,hx⟩:∃ x,E[k / sz][k % sz]?=some x:=⟨_,aw3 (show k % sz<E[k / sz].length by rw[h.2.1 _ _ hr];exact h2)⟩
  obtain⟨v,hv,hp⟩:=h.2.2 _ _ _ _ hr hx;rw[h3,hc] at hv;injection hv with hv
  subst hv;have hn:=ri;have h4:=aw8.1 (aw8.1 hn _ (axc hr)) _ (axc hx);cases hp<;>simp at h4
theorem BK(hW:aY G base s.H gh w)(hF:FR L nt gh w a s){t e:TypeId}{ps:List (Nat × aI)}
  (hu:P.underlying t=some (.slice e)) (hs:fe P e=some sz) (hz:gG P e=some z) (hp:mP nt parts.toList=some ps) (IK:len*sz<=16777216) (VB:z.length=sz) (DF:0<sz)
  (he:cC sz (List.replicate len (z.map AV.drop)) (ps.map fun p=>(p.1,(p.2.eval G s.T).drop))=some E) :
  ∃ C',(Instr.buildSlice t len (parts.map fun p=>(p.1,a.eval p.2))).run P w=.ok (.slice (some ⟨w.heap.size,0,none⟩) len len) (w.alloc (.cells C' e))/\jq gh.S w sz C' E/\E.length=len:=by
 obtain⟨i,zv,hi,R0,bQ⟩:=Mn (gh:=gh) (n:=s.H.length) (w:=w) hz;obtain⟨ie,hie,Va⟩:=pa hs;rw[hi] at hie;injection hie with hie;subst hie
 have inv:∀ (l:List (Nat × Operand)) (ps:List (Nat × aI)),mP nt l=some ps->l.length=ps.length /\
   ∀ (j:Nat) (p:Nat × Operand) (q:Nat × aI),l[j]?=some p->ps[j]?=some q->q.1=p.1/\au nt p.2=some q.2:=by
  intro l
  induction l with
  | nil=>intro ps h;simp[mP] at h;subst h;exact⟨rfl,fun j p q h=>by simp at h⟩
  | cons p l ih =>
   intro ps h;obtain⟨k,x⟩:=p;simp only[mP,aw1,aw0] at h
   grind
 obtain⟨hl,hinv⟩:=inv _ _ hp;obtain⟨C',hf,dj⟩:=GW (w:=w) (S:=gh.S) (sz:=sz) ((parts.map fun p=>(p.1,a.eval p.2)).toList) (ps.map fun p=>(p.1,(p.2.eval G s.T).drop)) _ _ E (SZ (t:=e) (len:=len) bQ (Bf hz) VB DF) he (cJ hl) (by
  intro j p q hp hq;simp only[azt,List.getElem?_map,aw0] at hp hq;obtain⟨p0,Mw,rfl⟩:=hp;obtain⟨q0,hq0,rfl⟩:=hq;obtain⟨h1,hc⟩:=hinv j p0 q0 Mw hq0;exact⟨h1.symm,fun cs iz=>Un (sj hW hF hc) iz⟩)
 have G5:E.length=len:=by
  have:∀ (ip:List (Nat × AV)) (es E:List (List AV)),cC sz es ip=some E->E.length=es.length:=by
   intro ip
   induction ip with
   | nil=>intro es E h;simp[cC] at h;rw[h]
   | cons q ip ih =>
    intro es E h;obtain⟨i,v⟩:=q;simp only[cC] at h
    grind
  rw[this _ _ _ he];simp
 have dI:(Instr.buildSlice t len (parts.map fun p=>(p.1,a.eval p.2))).run P w=.ok (.slice (some ⟨w.heap.size,0,none⟩) len len) (w.alloc (.cells C' e)):=by
  by_cases h0:len*sz=0
  ·have akJ:len=0:=by rcases Nat.mul_eq_zero.1 h0 with h|h<;>omega
   subst akJ;have hE:ps=[]:=by
    cases hps:ps with
    | nil=>rfl
    | cons q r =>
     rw[hps] at he;simp only[axe,cC,azQ,List.length_nil] at he;split at he
     ·cases he
     ·obtain⟨h,_⟩:=ay he
      simp[axp] at h
   have gI:parts.toList=[]:=by
    have:parts.toList.length=0:=by rw[hl,hE];rfl
    exact axm.1 this
   have Vo:parts=#[]:=cJ gI;subst Vo;have Vt:Array.range 0=#[]:=rfl;have RC:C'=#[]:=by simpa [Instr.fill,Vt] using hf.symm
   subst RC;simp[Instr.buildSlice,run_underlying hu,sizeOf,typeInfo,hi,Instr.fill,newRow,Vt]
  ·exact run_buildSlice w t e len _ C' i zv hu hi R0 (by rw[Va];omega) (by rw[Va];exact h0) (by rw[Va];exact hf)
 exact⟨C',dI,dj,G5⟩
def Nf(hW:aY G base s.H gh w)(hF:FR L nt gh w a s){t e:TypeId}{ps:List (Nat × aI)}
  (ho:o.op=.buildSlice t len parts) (hu:P.underlying t=some (.slice e)) (hs:fe P e=some sz) (hz:gG P e=some z) (hp:mP nt parts.toList=some ps)
  (ri:mK isB E=true) (Vb:isB=true->e=je) (IK:len*sz<=16777216) (VB:z.length=sz) (DF:0<sz)
  (he:cC sz (List.replicate len (z.map AV.drop)) (ps.map fun p=>(p.1,(p.2.eval G s.T).drop))=some E) (hd:∀ k,o.dst=some k->k<nt) :
  ∃ v' a8 w',xr P a o w v' w'/\Out G base nt L gh w a s o.dst (.slice E true) s v' a8 w':=by
 obtain⟨C',dI,dj,G5⟩:=BK (P:=P) hW hF hu hs hz hp IK VB DF he;have oU:=fy.alloc w (.cells C' e);have da:=qU o.dst;have Nn:=dj.slice (gh:=gh) rfl oU (p:=XD o.dst) hW.qj (fun j _=>rfl) (q:=fun _=>True) (fun _ _=>trivial) E.length (Nat.le_refl _)
 have hv:VR (gh.alloc w.heap.size (XD o.dst) fun _=>True) s.H.length (w.alloc (.cells C' e)) (.slice (some ⟨w.heap.size,0,none⟩) E.length E.length) (.slice E true):=.full _ _ _ Nn trivial
 rw[G5] at hv;have st:=jd hW oU da (fun _=>True) s.H.length
 have KN:=hF.grown (H':=s.H) (lo':=s.lo) st (fun i=>⟨id,id,fun _=>id⟩) (Nat.le_refl _)
 have n9:=hW.alloc oU da (fun _=>True) (fun k m _ hc=>by
  rw[cell_of_row _ _ k _ _ _ oU.new] at hc;have hk:k<E.length*sz:=by rw[<- dj.1];exact (axb.1 hc).1
  have:=qi dj ri Vb hk hc
  subst this;exact⟨C',(0,0),oU.new⟩)
 refine⟨.slice (some ⟨w.heap.size,0,none⟩) len len,_,_,.inl ?_,n9,KN.WS (gen':=s.gen) (Nat.le_refl _) (fun b hb=>n9.cg b hb) o.dst hd (.inl rfl) (fun k hk=>?_),po hW oU da _ _⟩
 ·have:(parts.map fun x=>(x.1,a.eval x.2))=parts.map fun p=>(p.1,a.eval p.2):=rfl
  simp[execOp,ho,dI]
 ·exact XG (.inl hv)
end
end
section
section
variable {P:Program}{G:Nat->List AV}{base nt:Nat}{L:List Nat}{gh:Gh}{w w' : World}{a:Act}{s:AS}{H:aa}
def zF(hW:aY G base s.H gh w)(hF:FR L nt gh w a s){t:Nat}(ht:t<nt)(hT:s.T t=.slice e own)(p:bF)(hp:p≠.outer) :
  ∃ a8,aY G base s.H a8 w/\FR L nt a8 w a (s.cc t (.slice e false))/\Ext s.H.length gh w a8 w/\Step (fun r=>r=.sl t) s.H.length gh w a8 w/\CR a8 s.H.length w p (gv a t) (.slice e own):=by
 have gl:=fun b hb=>hW.cg (gh:=gh) b hb
 have h:CR gh s.H.length w (.sl t) (gv a t) (.slice e own):=by
  have h:=hF.slot t ht;rw[hT] at h;exact h
 rcases h with hv|⟨e',heq,Nn,b,cap,C,ty,lo,hi,sz,jn,hk,he,hb,hC,hr,hl,hh,hS⟩
 ·refine⟨gh,hW,?_,Ext.refl _ _ _ gl,Step.refl _ _ _ _ gl,.inl hv⟩
  exact hF.cc (touch:=fun _=>False) (H':=s.H) (lo':=s.lo) (Step.refl _ _ _ _ gl) (Nat.le_refl _) (fun i _=>⟨id,id,fun _=>id⟩) (.inr rfl) (fun _=>.inl hv.dropped)
 ·injection heq with h1 h2
  subst h1 h2;have aP:=(axb.1 hb).1;have st:=mQ hW aP p s.H.length;rw[hk] at st;have hn:gh.κ b≠.none:=by rw[hk];simp
  refine⟨gh.uo b p,Nl hW aP p hn (by rw[hk];simp),?_,yU hW aP hp hn (by rw[hk];simp) _,st,.inr ⟨e,rfl,Nn,b,cap,C,ty,lo,hi,sz,jn,by simp[Gh.uo],he,hb,hC,hr,hl,hh,hS⟩⟩
  refine hF.cc (H':=s.H) (lo':=s.lo) st (Nat.le_refl _) (fun i hi=>⟨ae,cJ hi,ae⟩) (.inr rfl) (fun _=>?_)
  show CR (gh.uo b p) s.H.length w (.sl t) (gv a t) (.slice e false)
  exact .inl (.plain _ _ Nn)
def Out.of{s1:AS}{x:AV}(hW:aY G base s1.H a8 w')(hF:FR L nt a8 w' a s1)(hE:Ext s.H.length gh w a8 w')(hg:s1.gen<=gen')(hd:∀ k,d=some k->k<nt)
  (hx:dY x=none\/((∃ g,s1.gen<=g/\dY x=some g)/\∀ k,d=some k->k∈L)) (hv:∀ k,d=some k->SR a8 s1.H.length nt w' s1.T gen' (gv a) k v x) :
  Out G base nt L gh w a s d x { s1 with gen:=gen' } v a8 w' :=
 ⟨hW,hF.WS hg (fun b hb=>hW.cg b hb) d hd hx hv,hE⟩
theorem kI{t:Nat}(h:au nt x=some (.tmp t)):x=.tmp t/\t<nt:=by
 cases x with
 | tmp k =>
  simp only[au] at h;rcases aye (Nat.blt k nt) with hb|hb<;>rw[hb] at h<;>simp at h
  simp_all
 | const v =>
  simp only[au,aw0] at h
  grind
 | global g=>simp[au] at h
 | func f=>simp[au] at h
theorem KI(hW:aY G base s.H gh w)(hF:FR L nt gh w a s){g:Nat}(hb:b<nt)(hT:s.T b=.lsl g e)(ri:nB e=true)(p:bF)(hp:p≠.outer) :
  ∃ a8,aY G base s.H a8 w/\FR L nt a8 w a (s.cc b (.slice e false))/\Ext s.H.length gh w a8 w/\CR a8 s.H.length w p (gv a b) (.slice e true):=by
 have gl:=fun b hb=>hW.cg (gh:=gh) b hb
 have gV:(gv a b).oneCell'=true:=by obtain⟨ad,cap,hv,_⟩:=qm hF hb hT;rw[hv];rfl
 obtain⟨ad,cap,hV,⟨rfl,rfl,K9⟩|⟨k,C,ty,sz,da,rfl,hκ,hS,hk,hC,hl,hr,iz⟩⟩:=qm hF hb hT
 ·have hp:PR gh.S w (.slice ad 0 0) (.slice [] false):=by
   cases ad with
   | none=>exact .dr
   | some ad =>
    obtain⟨b',o',sp⟩:=ad;have:=(K9 _ rfl).1
    simp only at this;subst this;exact .slice b' o' 0 0 0 [] (fun _ _=>undef) rfl (Nat.le_refl _) (fun i r h=>by simp at h) (fun i j r x h=>by simp at h) (fun i j r x h=>by simp at h)
  refine⟨gh,hW,?_,Ext.refl _ _ _ gl,.inl ?_⟩
  ·exact hF.cc (touch:=fun _=>False) (H':=s.H) (lo':=s.lo) (Step.refl _ _ _ _ gl) (Nat.le_refl _) (fun i _=>⟨id,id,fun _=>id⟩) (.inr rfl) (fun _=>.inl (.plain _ _ (by rw[hV];exact hp)))
  ·rw[hV]
   exact .full ad 0 [] hp trivial
 ·have mS:∀ o,gh.S k o->C[o]?=C[o]?:=fun _ _=>rfl
  have hn:gh.κ k≠.none:=by rw[hκ];simp
  have DE:∀ j m,j<e.length*sz->C[j]?=some (.int .u8 m)->ty=je:=by
   intro j m hj hc;have dj:jq gh.S w sz (C.toList.take (e.length*sz)).toArray e:=by
    have hle:e.length*sz<=C.size:=by rw[hC];exact axg _ hl
    refine⟨df,hr,fun i j r x hi hj=>?_⟩
    grind [x4]
   refine qi (isB:=false) (m:=m) dj ri (fun h=>by cases h) hj ?_
   grind
  have st:=sq hW hk rfl (fun o=>o<e.length*sz) mS p s.H.length
  have hE:=CM hW hk rfl (fun o=>o<e.length*sz) mS (p:=p) hp hn (by rw[hκ];simp) s.H.length
  have n9:=Qp hW hk rfl (fun o=>o<e.length*sz) mS DE p hn (by rw[hκ];simp)
  have Vy:=setRow_self w k C ty (0,0) hk;rw[Vy] at hE n9 st;rw[hκ] at st;have slc:∀ S' : Nat->Nat->Prop,(∀ o,o<e.length*sz->S' k o)->(∀ b o,gh.S b o->S' b o)->PR S' w (gv a b) (.slice e false):=by
   intro S' II ZJ;rw[hV];have key:∀ (i j:Nat) (r:List AV) (x:AV),e[i]?=some r->r[j]?=some x->C[i*sz+j]?=some (C.getD (i*sz+j) undef)/\PR gh.S w (C.getD (i*sz+j) undef) x/\i*sz+j<e.length*sz:=by
    intro i j r x hi hj;obtain⟨u,hu,hp⟩:=iz i j r x hi hj;have aP:=(axb.1 hu).1;have:C.getD (i*sz+j) undef=u:=by
     simp_all
    rw[this];exact⟨hu,hp,x4 (aw5.1 hi).1 (by rw[<- hr i r hi];exact (aw5.1 hj).1)⟩
   refine .slice k 0 e.length cap sz e (fun i j=>C.getD (i*sz+j) undef) rfl hl hr (fun i j r x hi hj=>?_) (fun i j r x hi hj=>?_)
   ·obtain⟨h1,h2,h3⟩:=key i j r x hi hj
    refine⟨by have:=II _ h3;simpa using this,?_,h2.fJ⟩
    rw[axC,cell_of_row w k _ C ty _ hk];exact h1
   ·exact (key i j r x hi hj).2.1.mono ZJ (fun _ _ _=>rfl) (fun _ _ _ _ h=>h)
  refine⟨_,n9,?_,hE,.inr ⟨e,rfl,?_,k,cap,C,ty,0,0,sz,hV,ae,da,hk,hC,hr,hl,axh _,?_⟩⟩
  ·exact hF.cc (H':=s.H) (lo':=s.lo) st (Nat.le_refl _) (fun i hi=>⟨cJ hi,ae,ae⟩) (.inr rfl) (fun _=>.inl (.plain _ _ (slc _ (fun o h=>.inr ⟨rfl,h⟩) (fun b o h=>.inl h))))
  ·grind
  ·grind
def It(hW:aY G base s.H gh w)(hF:FR L nt gh w a s){take obj:Bool}{z:AV}(ho:o.op=.move x\/o.op=.assign x)(hc:au nt x=some y)
  (he:rO G s take obj y=some (z,some s')) (hd:∀ k,o.dst=some k->k<nt) (hL:obj=true->∀ k,o.dst=some k->k∈L) :
  ∃ v' a8 w',xr P a o w v' w'/\Out G base nt L gh w a s o.dst z s' v' a8 w':=by
 have dI:(execOp a.eval o).run P w=.ok (.value (a.eval x)) w:=by rcases ho with ho|ho<;>simp[execOp,ho]
 cases y<;>simp only[rO] at he<;>try (cases he;done)
 rename_i t;obtain⟨rfl,ht⟩:=kI hc
 change (execOp a.eval o).run P w=.ok (.value (gv a t)) w at dI
 split at he
 ·cases he
 ·rename_i g e hT
  cases take
  ·cases he
  simp only[cond_true] at he;cases hob:obj with
  | false =>
   rw[hob] at he;simp only[cond_false,oX] at he;obtain⟨ri,rfl,rfl⟩:=he;obtain⟨a8,h1,h2,h3,h4⟩:=KI hW hF ht hT ri (XD o.dst) (qU _);refine⟨_,a8,w,.inl dI,Out.of (s1:=s.cc t (.slice e false)) (gen':=s.gen) h1 h2 h3 (Nat.le_refl _) hd (.inl rfl) (fun k hk=>?_)⟩
   rw[hk] at h4;exact h4
  | true =>
  rw[hob] at he;simp only[cond_true,oX] at he;obtain⟨rfl,rfl⟩:=he;have bQ:=qm hF ht hT;have gl:=fun b hb=>hW.cg (gh:=gh) b hb
  have gV:(gv a t).oneCell'=true:=by obtain⟨ad,cap,hv,_⟩:=bQ;rw[hv];rfl
  have key:∃ a8,aY G base s.H a8 w/\FR L nt a8 w a (s.cc t .any)/\Ext s.H.length gh w a8 w/\uD a8 w (Q0 o.dst) (gv a t) e:=by
   obtain⟨ad,cap,hv,bQ⟩:=bQ
   rcases bQ with hz|⟨b,C,ty,sz,afB,ha,hk,hS,hb,hC,hl,hr,iz⟩
   ·refine⟨gh,hW,?_,Ext.refl _ _ _ gl,ad,cap,hv,.inl hz⟩
    exact hF.cc (touch:=fun _=>False) (H':=s.H) (lo':=s.lo) (Step.refl _ _ _ _ gl) (Nat.le_refl _) (fun i _=>⟨id,id,fun _=>id⟩) (.inr rfl) (fun _=>.inl (.plain _ _ (.any _ gV)))
   ·have aP:=(axb.1 hb).1
    have st:=mQ hW aP (Q0 o.dst) s.H.length;rw[hk] at st;have hn:gh.κ b≠.none:=by rw[hk];simp
    refine⟨gh.uo b (Q0 o.dst),Nl hW aP _ hn (by rw[hk];simp),?_,yU hW aP (yC _) hn (by rw[hk];simp) _,ad,cap,hv,.inr ⟨b,C,ty,sz,afB,ha,by simp[Gh.uo],hS,hb,hC,hl,hr,iz⟩⟩
    exact hF.cc (H':=s.H) (lo':=s.lo) st (Nat.le_refl _) (fun i hi=>⟨cJ hi,ae,ae⟩) (.inr rfl) (fun _=>.inl (.plain _ _ (.any _ gV)))
  obtain⟨a8,h1,h2,h3,h4⟩:=key;refine⟨_,a8,w,.inl dI,Out.of (s1:=s.cc t .any) (gen':=s.gen+1) h1 h2 h3 (Nat.le_succ _) hd (.inr ⟨⟨s.gen,Nat.le_refl _,rfl⟩,hL hob⟩) (fun k hk=>⟨ay4 _,?_⟩)⟩
  rw[hk] at h4;exact h4
 ·rename_i e own hT
  simp only[aw2,aw6] at he;obtain⟨rfl,he⟩:=he;cases PM:(take&&own) with
  | false=>rw[PM] at he;cases he
  | true =>
   rw[PM] at he;simp only[cond_true,aw2] at he;subst he;obtain⟨a8,h1,h2,h3,_,h4⟩:=zF hW hF ht hT (XD o.dst) (qU _);refine⟨_,a8,w,.inl dI,Out.of (s1:=s.cc t (.slice e false)) (gen':=s.gen) h1 h2 h3 (Nat.le_refl _) hd (.inl rfl) (fun k hk=>?_)⟩
   rw[hk] at h4;have afG:own=true:=by cases take<;>simp_all
   subst afG;exact h4
 ·cases he
 ·cases he
theorem xZ : (cA off cs)[j]?=if j=off then (cs[j]?).map AV.drop else cs[j]?:=by
 unfold cA
 grind
def GJ{q:Nat->bF}{n:Nat}(hW:aY G base H gh w)(hB:iL gh n w b p q cs){v:AV}(hv:cs[off]?=some v)(r:bF)(hr:r≠.outer)(hq:∀ j,q j≠.none/\q j≠.outer/\q j≠p)(apy:∀ i j,q i=q j->i=j)(m:Nat) :
  ∃ a8 u,(∀ b o,a8.S b o->gh.S b o)/\Step (fun o=>o=q off) m gh w a8 w/\Ext m gh w a8 w/\(∀ b o,a8.S b o->b<w.heap.size)/\(∀ b,a8.κ b≠.none->base<=b/\b<w.heap.size)/\iL a8 n w b p q (cA off cs) /\
   w.cell? ⟨b,off,none⟩=some u/\u.oneCell'=true/\CR a8 n w r u v:=by
 have gl:=fun b hb=>hW.cg (gh:=gh) b hb
 obtain⟨hκ,hS,C,ty,hb,hC,iz⟩:=hB;have mC:=(aw5.1 hv).1;have akQ:off<C.size:=af;have hu:=axj akQ;have cZ:w.cell? ⟨b,off,none⟩=some C[off]:=by rw[cell_of_row w b off C ty _ hb,hu]
 obtain⟨h1,h2⟩:=iz off _ v hu hv
 rcases h2 with VA|⟨e,rfl,Nn,b',cap,C',oI,lo,hi,sz,jn,hk,he,iG,RC,JP,hl,hh,hS'⟩
 ·refine⟨gh,C[off],fun _ _ h=>h,Step.refl _ _ _ _ gl,Ext.refl _ _ _ gl,hW.qj,hW.ru,⟨hκ,hS,C,ty,hb,by simp[cA];exact hC,fun j u x G3 B5=>?_⟩,cZ,h1,.inl VA⟩
  rw[xZ] at B5;split at B5
  ·simp only[aw0] at B5
   obtain⟨y,hy,rfl⟩:=B5;obtain⟨k1,k2⟩:=iz j u y G3 hy;exact⟨k1,.inl k2.dropped⟩
  ·exact iz j u x G3 B5
 ·have aP:=(axb.1 iG).1
  have st:=mQ hW aP r m;rw[hk] at st;have da:b≠b':=by rintro rfl;rw[hκ] at hk;exact (hq off).2.2 hk.symm
  have hn:gh.κ b'≠.none:=by rw[hk];exact (hq off).1
  refine⟨gh.uo b' r,C[off],fun _ _ h=>h,st,yU hW aP hr hn (by rw[hk];exact (hq off).2.1) m,hW.qj,?_,⟨by simp[Gh.uo,da,hκ],hS,C,ty,hb,by simp[cA];exact hC,fun j u x G3 B5=>?_⟩,cZ,h1,
   .inr ⟨e,rfl,Nn,b',cap,C',oI,lo,hi,sz,jn,by simp[Gh.uo],he,iG,RC,JP,hl,hh,hS'⟩⟩
  ·intro b1 JF
   have kG:(if b1=b' then r else gh.κ b1)≠.none:=JF
   split at kG
   ·rename_i e;rw[e];exact hW.ru b' hn
   ·exact hW.ru b1 kG
  ·have xg:=mQ hW aP r n
   rw[hk] at xg;rw[xZ] at B5;split at B5
   ·rename_i hj
    subst hj;rw[hv] at B5;simp only[axa,aw2] at B5;subst B5;rw[hu] at G3;injection G3 with G3;subst G3
    exact⟨h1,.inl (.plain _ _ Nn)⟩
   ·rename_i hj
    obtain⟨k1,k2⟩:=iz j u x G3 B5;exact⟨k1,k2.mono xg (Nat.le_refl _) (fun e=>hj (apy _ _ e))⟩
theorem aY.OE(hW:aY G base H gh w)(st:Step touch H.length gh w a8 w'){cs0:List AV}(hH:H[loc]?=some (.box ty cs0))(ht:∀ l,l≠loc->¬ touch (.hb l)/\∀ j,¬ touch (.hs l j))
  (hs:∀ b o,a8.S b o->b<w'.heap.size) (hk:∀ b,a8.κ b≠.none->base<=b/\b<w'.heap.size) {cs:List AV} (hB:iL a8 H.length w' (a8.ρ loc) (.hb loc) (fun j=>.hs loc j) cs) (hr:cs.all (aV loc)=true) (jm:∀ b o,a8.S b o->gh.S b o) (hlen:cs.length=cs0.length) :
  aY G base (H.set loc (.box ty cs)) a8 w':=by
 have aP:=(aw5.1 hH).1;refine⟨axx hW.size st.size,hs,hk,fun g j x hx=>?_,fun l oI ds hl=>?_,fun l oI ds hl=>?_,fun g hg=>(hW.Cg g hg).imp fun ty h=>st.len g ty _ h,hW.mw st (fun b o m h=>.inl (jm b o h)),fun l o hl=>?_,fun l oI ds hl=>?_⟩
 ·obtain⟨v,h1,h2,h3⟩:=hW.aX g j x hx
  exact⟨v,(st.cell g j h3).trans h1,h2.mono st.S st.cell st.mp,st.S g j h3⟩
 ·rw[List.length_set]
  rw[axI] at hl;split at hl
  ·grind
  ·rename_i e
   have h:=(hW.boxes l oI ds hl).mono st (Nat.le_refl _) (ht l (ayk e)).1 (ht l (ayk e)).2;rw[st.ρ l (aw5.1 hl).1];exact h
 ·rw[axI] at hl
  split at hl
  ·grind
  ·exact hW.refs l oI ds hl
 ·rw[List.length_set]
  rw[axI] at hl;split at hl
  ·rename_i e
   subst e;injection hl with hl
   subst hl;trivial
  ·rename_i e
   rw[st.ρ l (aw5.1 hl).1];exact (hW.more l o hl).mono st (Nat.le_refl _) (ht l (ayk e)).1 (ht l (ayk e)).2
 ·rw[axI] at hl
  split at hl
  ·rename_i e
   subst e;simp only[aw2,bG.box.injEq] at hl;obtain⟨rfl,rfl⟩:=hl;intro hf;have hm:=hW.types loc _ cs0 hH hf;rw[st.ρ loc aP,hlen];exact st.len _ _ _ hm
  ·rename_i e
   rw[st.ρ l (aw5.1 hl).1];exact fun hf=>st.len _ _ _ (hW.types l oI ds hl hf)
theorem aY.CN(hW:aY G base H gh w)(st:Step touch H.length gh w a8 w')(aP:loc<H.length)(ht:∀ l,l≠loc->¬ touch (.hb l)/\∀ j,¬ touch (.hs l j))
  (hs:∀ b o,a8.S b o->b<w'.heap.size) (hk:∀ b,a8.κ b≠.none->base<=b/\b<w'.heap.size) {o:bG} (DE:∀ ty cs,o≠.box ty cs) (hM:xq a8 H.length w' (a8.ρ loc) loc o)
  (jm:∀ b o m,a8.S b o->gh.S b o\/(w'.cell? ⟨b,o,none⟩=some (.int .u8 m)->∃ C fr,w'.heap[b]?=some (.cells C je fr))):aY G base (H.set loc o) a8 w':=by
 have box:∀ {l:Nat} {ty:TypeId} {ds:List AV},(H.set loc o)[l]?=some (.box ty ds)->l≠loc/\H[l]?=some (.box ty ds):=by
  grind
 refine⟨axx hW.size st.size,hs,hk,fun g j x hx=>?_,fun l oI ds hl=>?_,fun l oI ds hl=>?_,fun g hg=>(hW.Cg g hg).imp fun ty h=>st.len g ty _ h,hW.mw st jm,fun l o' hl=>?_,fun l oI ds hl hf=>?_⟩
 ·obtain⟨v,h1,h2,h3⟩:=hW.aX g j x hx
  exact⟨v,(st.cell g j h3).trans h1,h2.mono st.S st.cell st.mp,st.S g j h3⟩
 ·obtain⟨da,hl⟩:=box hl
  rw[List.length_set,st.ρ l (aw5.1 hl).1];exact (hW.boxes l oI ds hl).mono st (Nat.le_refl _) (ht l da).1 (ht l da).2
 ·exact hW.refs l oI ds (box hl).2
 ·rw[List.length_set]
  rw[axI] at hl;split at hl
  ·grind
  ·rename_i e
   rw[st.ρ l (aw5.1 hl).1];exact (hW.more l o' hl).mono st (Nat.le_refl _) (ht l (ayk e)).1 (ht l (ayk e)).2
 ·obtain⟨da,hl⟩:=box hl
  rw[st.ρ l (aw5.1 hl).1];exact st.len _ _ _ (hW.types l oI ds hl hf)
theorem aY.Fi(hW:aY G base H gh w){ob:Obj}(hp:fy w w' ob){o:bG}(DE:∀ ty cs,o≠.box ty cs)(hM:xq (gh.bE w.heap.size H.length) (H.length+1) w' w.heap.size H.length o) :
  aY G base (H++[o]) (gh.bE w.heap.size H.length) w':=by
 have st:=gz hW hp;have old:∀ {l:Nat} {o' : bG},(H++[o])[l]?=some o'->(l<H.length/\H[l]?=some o')\/(l=H.length/\o'=o):=by
  grind
 refine⟨axx hW.size st.size,?_,?_,fun g j x hx=>?_,fun l oI ds hl=>?_,fun l oI ds hl=>?_,fun g hg=>(hW.Cg g hg).imp fun ty h=>st.len g ty _ h,hW.mw st (fun b o m h=>h.elim .inl (fun h=>h.2.elim)),fun l o' hl=>?_,fun l oI ds hl hf=>?_⟩
 ·intro b o ho
  rw[hp.size]
  rcases ho with ho|⟨_,ho⟩
  ·have:=hW.qj b o ho;omega
  ·exact ho.elim
 ·intro b hb
  rw[hp.size];have iG:(if b=w.heap.size then bF.hb H.length else gh.κ b)≠.none:=hb
  split at iG
  ·rename_i e
   have:=hW.size
   omega
  ·have:=hW.ru b iG;omega
 ·obtain⟨v,h1,h2,h3⟩:=hW.aX g j x hx
  exact⟨v,(st.cell g j h3).trans h1,h2.mono st.S st.cell st.mp,st.S g j h3⟩
 ·rcases old hl with ⟨aP,hl⟩|⟨_,h⟩
  ·rw[List.length_append,aya,st.ρ l aP]
   exact (hW.boxes l oI ds hl).mono st (Nat.le_succ _) id (fun _=>id)
  ·grind
 ·rcases old hl with ⟨aP,hl⟩|⟨_,h⟩
  ·exact hW.refs l oI ds hl
  ·grind
 ·rw[List.length_append,aya]
  rcases old hl with ⟨aP,hl⟩|⟨rfl,rfl⟩
  ·rw[st.ρ l aP]
   exact (hW.more l o' hl).mono st (Nat.le_succ _) id (fun _=>id)
  ·have hρ:(gh.bE w.heap.size H.length).ρ H.length=w.heap.size:=by simp[Gh.bE]
   rw[hρ];exact hM
 ·rcases old hl with ⟨aP,hl⟩|⟨_,h⟩
  ·rw[st.ρ l aP]
   exact st.len _ _ _ (hW.types l oI ds hl hf)
  ·grind
theorem Ls{y:AV}(h:y∈cA off cs):y∈cs\/∃ x,x∈cs/\y=x.drop:=by
 obtain⟨j,hj⟩:=axu h
 grind [xZ]
theorem Jt(h:cs.all (aV loc)=true):(cA off cs).all (aV loc)=true:=by
 grind [Ls,re]
def qo{n:Nat}{x:AV}(hx:aO x=true)(h:CR gh n w (.sl i) v x):SR gh n nt w T gen tm i v x:=by
 cases x<;>first|exact h|(simp[aO] at hx)
def CR.aO{n:Nat}{x:AV}(h:CR gh n w p v x):aO x=true:=by
 rcases h with h|⟨e,rfl,_⟩
 ·cases h with
  | plain _ _ h=>cases h<;>rfl
  | full=>rfl
  | ref=>rfl
  | sref=>rfl
  | mref=>rfl
  | func=>rfl
  | iface=>rfl
  | agg=>rfl
  | tuple=>rfl
 ·rfl
def ml{x:AV}(h:Abs.aO x=true):dY x=none:=by cases x<;>first|rfl|(simp[Abs.aO] at h)
def HI{t:TypeId}(hg:og P t=some false)(hc:w.cell? ⟨b,off,none⟩=some u):(Instr.loadAt t (.pointer (some ⟨b,off,none⟩))).run P w=.ok u w:=by
 simp[Instr.loadAt,Instr.sureAddr,loadVar,jh hg,hc]
def Is(hW:aY G base s.H gh w)(hF:FR L nt gh w a s){t:TypeId}{take:Bool}{z:AV}(ho:o.op=.load t x)(hc:au nt x=some y)(hg:og P t=some agg)(hs:fe P t=some sz)
  (he:cH s take agg sz (y.addr G s.T)=some (z,some s')) (hd:∀ k,o.dst=some k->k<nt) :
  ∃ v' a8 w',xr P a o w v' w'/\Out G base nt L gh w a s o.dst z s' v' a8 w':=by
 have hv:=arg_val hW hF hc;generalize hY:y.addr G s.T=Y at hv he;cases Y<;>simp only[cH] at he<;>try (cases he;done)
 case eptr cs=>simp at he
 case ref loc off =>
  obtain⟨aP,ug⟩:=VR.kq (hv:VR gh s.H.length w (a.eval x) (.ref loc off));split at he
  ·rename_i Ys cs hH
   simp only[aw0,aw6] at he;obtain⟨u,hu,rfl,hn⟩:=he;cases hq:(take&&!agg) with
   | false=>rw[hq] at hn;cases hn
   | true =>
    rw[hq] at hn;simp only[cond_true,aw2] at hn;subst hn;simp only[aw4,axq] at hq;obtain⟨rfl,rfl⟩:=hq;simp only[ah,cond_false,cond_true,aw0] at hu;obtain⟨u',hu,rfl⟩:=hu;obtain⟨a8,uv,hSS,st,hE,wY,ui,hB,cZ,gV,oT⟩:=GJ hW (hW.boxes loc _ cs hH) hu (XD o.dst) (qU _) ae ae s.H.length;have hρ:=st.ρ loc aP;have n9:=hW.OE st hH (by intro l hl;simp[hl]) wY ui (by rw[hρ];exact hB) (Jt (hW.refs loc _ cs hH)) hSS (by simp[cA])
    have KN:FR L nt a8 w a (s.iw ⟨s.H.set loc (.box Ys (cA off cs)),loc⟩):=hF.grown st (fun i=>⟨ae,ae,ae⟩) ae
    refine⟨uv,a8,w,.inl ?_,Out.of (s1:=s.iw ⟨s.H.set loc (.box Ys (cA off cs)),loc⟩) (gen':=s.gen) n9 KN hE (Nat.le_refl _) hd (.inl (ml oT.aO)) (fun k hk=>?_)⟩
    ·simp[execOp,ho,ug,HI hg cZ]
    ·rw[hk] at oT
     have:(s.iw ⟨s.H.set loc (.box Ys (cA off cs)),loc⟩).H.length=s.H.length:=by simp[AS.iw]
     rw[this];exact qo oT.aO oT
  ·simp at he
  ·simp at he
  ·cases he
 case lref b g off =>
  obtain⟨hb,S5,hr⟩:=(hv:_/\_/\_);split at he
  ·rename_i g' cs hT
   obtain⟨h0,iX⟩:=ay he;clear he;have KZ:g=g':=by simpa [im] using h0
   subst KZ
   rename _=some (z,some s')=>he
   simp only[aw0,aw6] at he;obtain⟨u,hu,rfl,hn⟩:=he;cases hq:(take&&!agg) with
   | false=>rw[hq] at hn;cases hn
   | true =>
    rw[hq] at hn;simp only[cond_true,aw2] at hn;subst hn;simp only[aw4,axq] at hq;obtain⟨rfl,rfl⟩:=hq;simp only[ah,cond_false,cond_true,aw0] at hu;obtain⟨u',hu,rfl⟩:=hu;obtain⟨k,hk,RG⟩:=zQ hF hb hT;have ug:=hr (by rw[hT];rfl) k hk
    obtain⟨a8,uv,hSS,st,hE,wY,ui,hB,cZ,gV,oT⟩:=GJ hW RG hu (XD o.dst) (qU _) ae ae s.H.length;have n9:=hW.step st ae wY ui (fun b o _ h=>.inl (hSS b o h))
    have KN:FR L nt a8 w a (s.cc b (.lbox g (cA off cs))) :=
     hF.cc (H':=s.H) (lo':=s.lo) st (Nat.le_refl _) (fun i hi=>⟨ae,ae,by intro j e;injection e with e _;exact hi e⟩) (.inl ⟨hb,by rw[hT];rfl⟩) (fun _=>⟨by
      have h:=hF.slot b hb;rw[hT] at h;exact h.1,k,hk,hB⟩)
    refine⟨uv,a8,w,.inl ?_,Out.of (s1:=s.cc b (.lbox g (cA off cs))) (gen':=s.gen) n9 KN hE (Nat.le_refl _) hd (.inl (ml oT.aO)) (fun k hk=>?_)⟩
    ·simp[execOp,ho,ug,HI hg cZ]
    ·rw[hk] at oT
     exact qo oT.aO oT
  ·cases he
 case eref b g i zz off =>
  split at he
  ·simp only[oX] at he;obtain⟨_,r,_,_,he⟩:=he
   simp at he
  ·cases he
end
end
end Go.Abs
end
