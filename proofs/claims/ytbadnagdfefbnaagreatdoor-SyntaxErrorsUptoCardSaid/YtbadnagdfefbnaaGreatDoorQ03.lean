/-
  A part of the proof of SyntaxErrors: AbsOps3, AbsOps4, AbsOps5, AbsOps6, AbsStep, AbsOps7, AbsOps8, AbsOps9.
-/
import Derived.Great.BuildSlice
import Derived.Test.YtbadnagdfefbnaaGreatDoorQ02
set_option linter.unusedSimpArgs false
set_option linter.unusedVariables false
set_option linter.defProp false
noncomputable section
namespace Go.Abs
variable {s':AS}{parts:Array (Nat × Operand)}{fs:Array Go.Field}{C C' ds:Array Value}{op:BinOp}{agg isB kp own:Bool}{br:Gh}{m:Int}{E e:List (List AV)}{ps:List (Nat × Nat × aE)}{X Y Z cs xs z:List AV}{b cap gen gen' h i j k len loc off sz:Nat}{fr:Nat × Nat}{S:Nat->Nat->Prop}{tm:Nat->Value}{o:Oper}{x:Operand}{d:Option Nat}{hi lo mx:Option Operand}{HR Ow Qy:Option aE}{e0 ty:TypeId}{u v zv:Value}{T:aD}{ii ix y:aE}{p:bM}{touch:bM->Prop}
section
section
variable {P:Program}{G:Nat->List AV}{base nt:Nat}{L:List Nat}{gh:Gh}{w:World}{a:Act}{s:AS}
theorem Vr{n:Nat}{z:AV}(hl:ab false agg sz off xs=some z){t:TypeId}(hg:n7 P t=some agg)(hs:fC P t=some sz)
  {cs:Array Value} (kj:cs.size=xs.length) (iC:∀ (j:Nat) (v:Value),cs[j]?=some v->v.oneCell'=true)
  (h:∀ (j:Nat) (v:Value) (x:AV),cs[j]?=some v->xs[j]?=some x->VR gh n w v x) :
  ∃ v,(part t cs off).run P w=.ok v w/\VR gh n w v z:=by
 unfold ab at hl;cases agg
 ·simp only[cond_false,au2] at hl
  obtain⟨x,hx,rfl⟩:=hl;have hj:off<cs.size:=by rw[kj];exact (au7.1 hx).1
  have hv:cs[off]?=some cs[off]:=avh hj;exact⟨cs[off],by simp[part,ju hg,hv],VR.dropped (h off _ x hv hx)⟩
 ·simp only[cond_true] at hl
  obtain⟨h0,h1⟩:=al hl;have h0' : off+sz<=xs.length:=by simpa [avv] using h0
  injection h1 with h1
  subst h1;refine⟨.agg (cs.extract off (off+sz)),by simp[part,ju hg,fB hs],.agg _ _ dq ?_ ?_⟩
  ·intro j v hj
   rw[axG] at hj
   grind
  ·grind [VR.dropped]
def SY(hW:a8 G base s.H gh w)(hF:FR L nt gh w a s){t e:TypeId}{i:Operand}{n:Nat}{z:AV}
  (ho:o.op=.index t x i) (hc:av nt x=some ix) (hi:av nt i=some ii) (hu:P.underlying t=some (.array n e)) (hs:fC P e=some sz) (hg:n7 P e=some agg)
  (hk:asNat (ii.eval G s.T)=some k) (Qk:k<n) (hz:ix.eval G s.T=.agg xs) (he:ab false agg sz (k*sz) xs=some z) :
  ∃ v,(execOp a.eval o).run P w=.ok (.value v) w/\oZ gh s.H.length nt w s.T s.gen (gP a) v z:=by
 obtain⟨cs,hA,kj,iC,h⟩:=(cU hW hF hc hz rfl).mq;obtain⟨kd,Gj⟩:=mF hW hF hi hk;obtain⟨v,h1,h2⟩:=Vr he hg hs kj iC h;exact⟨v,by simp[execOp,ho,hA,Gj,Instr.index,asIntOf,run_underlying hu,fB hs,Qk,h1],.dG h2⟩
def Jx(hW:a8 G base s.H gh w)(hF:FR L nt gh w a s){t:TypeId}{i:Operand}{l:List UInt8}{b:UInt8}
  (ho:o.op=.index t x i) (hc:av nt x=some ix) (hi:av nt i=some ii) (hu:P.underlying t=some .string)
  (hk:asNat (ii.eval G s.T)=some k) (hz:ix.eval G s.T=.str l) (hb:l[k]?=some b) :
  ∃ v,(execOp a.eval o).run P w=.ok (.value v) w/\oZ gh s.H.length nt w s.T s.gen (gP a) v (.int .u8 b.toNat):=by
 obtain⟨q,hA,hl⟩:=(cU hW hF hc hz rfl).kG;obtain⟨kd,Gj⟩:=mF hW hF hi hk;have hq:q[k]?=some b:=by
  obtain⟨⟨d⟩⟩:=q;simp at hl;subst hl;have Fu:=(au7.1 hb).1;have gD:k<(ByteArray.mk ⟨d⟩).size:=Fu;rw[ByteArray.getElem?_lt' _ _ gD];rw[au5 Fu] at hb;exact hb
 exact⟨_,by simp[execOp,ho,hA,Gj,Instr.index,asIntOf,run_underlying hu,hq],.dG (.plain _ _ (.int _ _))⟩
theorem VR.Cz{n:Nat}{x:AV}(h:VR gh n w v x):VR gh n w v x.dh:=by
 cases x<;>try exact VR.dropped h
 obtain⟨cs,rfl,hs,iC,h⟩:=h.mq;refine .agg _ _ (zo hs) iC fun j v x hj hx=>?_
 grind [VR.dropped]
def L5(hW:a8 G base s.H gh w)(hF:FR L nt gh w a s){vs:List AV}{z:AV}
  (ho:o.op=.extract x i) (hc:av nt x=some ix) (hz:ix.eval G s.T=.tuple vs) (hi:vs[i]?=some z) :
  ∃ v,(execOp a.eval o).run P w=.ok (.value v) w/\oZ gh s.H.length nt w s.T s.gen (gP a) v z.dh:=by
 obtain⟨us,hA,kj,h⟩:=(cU hW hF hc hz rfl).vx;have hj:i<us.size:=by rw[kj];exact (au7.1 hi).1
 have hv:us[i]?=some us[i]:=avh hj;exact⟨us[i],by simp[execOp,ho,hA,Instr.extract,hv],.dG (VR.Cz (h i _ z hv hi))⟩
def XF{t:TypeId}{k:sD}{V:Value}{X z:AV}{n:Nat}(hv:VR gh n w V X.drop)(ht:match k with|.str=>P.underlying t=some .string|.sl=>∃ e,P.underlying t=some (.slice e)|.arr m=>∃ e,P.underlying t=some (.array m e))
  (he:de k X=some z) (ty:TypeId):∃ v,(Builtin.len_ #[t] ty #[V]).run P w=.ok v w/\VR gh n w v z:=by
 cases k<;>cases X<;>simp only[de,au4,reduceCtorEq] at he<;>subst he
 case str.str l =>
  obtain⟨q,rfl,rfl⟩:=hv.kG;refine⟨.int .i64 q.size,by simp[Builtin.len_,run_underlying ht,goInt],?_⟩
  exact .plain _ _ (by rw[show (q.data.toList.length:Int)=(q.size:Int) by simp];exact .int _ _)
 case sl.slice el own =>
  obtain⟨e,ht⟩:=ht;have hp:=hv.jF;cases hp with
  | dF=>exact⟨.int .i64 0,by simp[Builtin.len_,run_underlying ht,goInt],.plain _ _ (.int _ _)⟩
  | slice b of m cap sz _ f hn kY bX di dr=>exact⟨.int .i64 el.length,by simp[Builtin.len_,run_underlying ht,goInt,hn],.plain _ _ (.int _ _)⟩
 case sl.sref loc off m zz =>
  obtain⟨e,ht⟩:=ht;obtain⟨_,cap,_,_,rfl⟩:=hv.k9;exact⟨.int .i64 m,by simp[Builtin.len_,run_underlying ht,goInt],.plain _ _ (.int _ _)⟩
 case sl.ar =>
  obtain⟨e,ht⟩:=ht;have hp:=hv.mK;subst hp;exact⟨.int .i64 0,by simp[Builtin.len_,run_underlying ht,goInt],.plain _ _ (.int _ _)⟩
 all_goals
  obtain⟨e,ht⟩:=ht;exact⟨.int .i64 _,by simp[Builtin.len_,run_underlying ht,goInt],.plain _ _ (.int _ _)⟩
theorem mT:∀ {xs:List Operand} {ys:List aE},kS nt xs=some ys->xs.length=ys.length/\∀ (j:Nat) (x:Operand) (y:aE),xs[j]?=some x->ys[j]?=some y->av nt x=some y
 | [],ys,h=>by simp[kS] at h;subst h;exact⟨rfl,fun j x y h=>by simp at h⟩
 | x :: r,ys,h=>by
  simp only[kS,au3,au2] at h;obtain⟨y,hy,zs,hz,rfl⟩:=h;obtain⟨h1,h2⟩:=mT hz
  grind
theorem Hk(hW:a8 G base s.H gh w)(hF:FR L nt gh w a s){xs:List Operand}{ys:List aE}(hc:kS nt xs=some ys)(hf:(ys.map fun y=>y.addr G s.T).all aN=true) :
  ∀ (j:Nat) (v:Value) (x:AV),(xs.map a.eval)[j]?=some v->(ys.map fun y=>(y.addr G s.T).drop)[j]?=some x->VR gh s.H.length w v x:=by
 grind [mT,qB]
def PX(hW:a8 G base s.H gh w)(hF:FR L nt gh w a s){f:Fn}{fs cs:Array Operand}{ifs ics:List aE}
  (ho:o.op=.makeFunc f fs cs) (h1:kS nt fs.toList=some ifs) (h2:kS nt cs.toList=some ics)
  (hf1:(ifs.map fun y=>y.addr G s.T).all aN=true) (WW:(ics.map fun y=>y.addr G s.T).all aN=true) :
  ∃ v,(execOp a.eval o).run P w=.ok (.value v) w/\oZ gh s.H.length nt w s.T s.gen (gP a) v (.func f (ifs.map fun y=>(y.addr G s.T).drop) (ics.map fun y=>(y.addr G s.T).drop)):=by
 refine⟨.func f (fs.map a.eval) (cs.map a.eval),by simp[execOp,ho,Instr.makeFunc],.dG (.func _ _ _ _ _ ?_ ?_ ?_ ?_)⟩
 ·simpa using (mT h1).1
 ·simpa using (mT h2).1
 ·intro j v x hj hx
  exact Hk hW hF h1 hf1 j v x (cY hj) hx
 ·intro j v x hj hx
  exact Hk hW hF h2 WW j v x (cY hj) hx
end
end
section
section
variable {P:Program}{G:Nat->List AV}{base nt:Nat}{L:List Nat}{gh:Gh}{w:World}{a:Act}{s:AS}
def lL(hW:a8 G base s.H gh w)(hF:FR L nt gh w a s){x:Option Operand}{ix:Option aE}(hc:ja nt x=some ix){d jI n:Nat}(hb:bound d (ix.map (·.eval G s.T)) jI=some n) :
  (x.map a.eval=none/\ix=none/\n=d)\/(ix.isSome=true/\n<=jI/\∃ k,x.map a.eval=some (.int k (n:Int))):=by
 cases x with
 | none=>simp[ja] at hc;subst hc;simp[bound] at hb;exact .inl ⟨rfl,rfl,hb.symm⟩
 | some x =>
  simp only[ja,au2] at hc;obtain⟨y,hy,rfl⟩:=hc;simp only[bound,ave,au3] at hb;obtain⟨m,hm,hb⟩:=hb;obtain⟨h1,h2⟩:=al hb;injection h2 with h2
  subst h2;obtain⟨k,hk⟩:=mF hW hF hy hm
  simp_all
theorem tI{isSlice:Bool}{l m:Nat}{lo hi mx:Option Value}
  (hm:(mx=none/\m=cap)\/(m<=cap/\∃ k,mx=some (.int k (m:Int)))) (hh:(hi=none/\h=len/\mx=none)\/(h<=m/\∃ k,hi=some (.int k (h:Int))))
  (hl:(lo=none/\l=0)\/(l<=h/\∃ k,lo=some (.int k (l:Int)))) :
  (Instr.sliceBounds isSlice len cap lo hi mx).run P w=.ok (l,h,m) w:=by
 have sb:∀ (k:IntKind) (n y:Nat) (code:BoundsCode),n<=y->(Instr.sliceBound (.int k (n:Int)) y code).run P w=.ok n w:=by
  intro k n y code hn;rw[run_sliceBound w k n y code ah ah];simp
 rcases hm with ⟨rfl,rfl⟩|⟨hm,km,rfl⟩<;>rcases hh with ⟨rfl,rfl,hx⟩|⟨hh,kh,rfl⟩<;>rcases hl with ⟨rfl,rfl⟩|⟨hl,kl,rfl⟩ <;>
  first|(cases hx;done)|simp[Instr.sliceBounds, *]
theorem HA(hW:a8 G base s.H gh w)(hF:FR L nt gh w a s){t:TypeId}{z:AV}
  (ho:o.op=.slice t x lo hi mx) (hc:av nt x=some ix) (h1:ja nt lo=some Qy) (h2:ja nt hi=some Ow) (h3:ja nt mx=some HR) (hu:P.underlying t=some .string)
  (he:bL .str (ix.eval G s.T) (Qy.map (·.eval G s.T)) (Ow.map (·.eval G s.T)) (HR.map (·.eval G s.T))=some z) :
  ∃ v,(execOp a.eval o).run P w=.ok (.value v) w/\oZ gh s.H.length nt w s.T s.gen (gP a) v z:=by
 generalize hz:ix.eval G s.T=X at he;cases X<;>simp only[bL,reduceCtorEq,au3] at he
 rename_i l;obtain⟨h,hh,l0,hl,he⟩:=he;obtain⟨hn,he⟩:=al he;injection he with he
 subst he;obtain⟨q,hA,hq⟩:=(cU hW hF hc hz rfl).kG;have kj:q.size=l.length:=by rw[<- hq];simp
 have hmn:mx.map a.eval=none/\HR=none:=by
  cases mx with
  | none=>simp[ja] at h3;subst h3;exact⟨rfl,rfl⟩
  | some m=>simp only[ja,au2] at h3;obtain⟨_,_,rfl⟩:=h3;simp at hn
 have bh:=lL hW hF h2 hh;have bl:=lL hW hF h1 hl;have hb:(Instr.sliceBounds false q.size q.size (lo.map a.eval) (hi.map a.eval) none).run P w=.ok (l0,h,q.size) w:=by
  grind [tI]
 refine⟨.string (q.extract l0 h),?_,.dG (.plain _ _ (.str _ _ ?_))⟩
 ·have hA':=hA
  have qv:(Instr.slice t (.string q) (lo.map a.eval) (hi.map a.eval) none).run P w=.ok (.string (q.extract l0 h)) w:=by
   simp[Instr.slice,run_underlying hu,hb]
  simp only[execOp,ho,hA',hmn.1,Sem.run_bind,run_sliceAt_string w t (.string q) _ _ _ hu,qv,Result.andThen_ok,Sem.run_pure]
 ·rw[<- hq]
  rw[ByteArray.data_extract,Array.toList_extract,List.extract_eq_take_drop,List.drop_take]
def CU{lI:Nat}(h:gC sz e=true)(hr:∀ (i:Nat) (r:List AV),e[i]?=some r->r.length=lI)(dk:e≠[]):lI=sz:=by
 cases e with
 | nil=>exact absurd rfl dk
 | cons r e =>
  simp[gC,iI] at h;rw[<- hr 0 r rfl,h]
theorem PR.part{o n:Nat}(hv:PR S w (.slice (some ⟨b,o,none⟩) n cap) (.slice e false))(kj:e≠[]->∀ (i:Nat) (r:List AV),e[i]?=some r->r.length=sz)
  {l h c:Nat} (hl:l<=h) (hh:h<=n) (hc:h-l<=c):PR S w (.slice (some ⟨b,o+l*sz,none⟩) (h-l) c) (.slice ((e.take h).drop l) false):=by
 cases hv with
 | slice _ _ _ _ lI _ f hn kY bX di dr =>
  have idx:∀ (i:Nat) (r:List AV),((e.take h).drop l)[i]?=some r->e[l+i]?=some r:=by
   grind
  have hz:∀ (i:Nat) (r:List AV),e[i]?=some r->lI=sz:=by
   intro i r hi;have dk:e≠[]:=by rintro rfl;simp at hi
   grind
  refine .slice b (o+l*sz) (h-l) c sz _ (fun i j=>f (l+i) j) dq hc ?_ ?_ ?_
  ·grind
  ·grind
  ·grind
theorem PR.GF{o c:Nat}{l:Nat}(hl:h<=l):PR S w (.slice (some ⟨b,o,none⟩) 0 c) (.slice ((e.take h).drop l) false):=by
 have:(e.take h).drop l=[]:=dq
 rw[this];exact .slice b o 0 c 0 [] (fun _ _=>undef) rfl (avB _) (fun i r h=>by simp at h) (fun i j r x h=>by simp at h) (fun i j r x h=>by simp at h)
theorem Fo(hW:a8 G base s.H gh w)(hF:FR L nt gh w a s){t:TypeId}{z:AV}
  (ho:o.op=.slice t x lo hi mx) (hc:av nt x=some ix) (h1:ja nt lo=some Qy) (h2:ja nt hi=some Ow) (h3:ja nt mx=some HR) (hu:P.underlying t=some (.slice e0)) (hs:fC P e0=some sz)
  {ll o0 n zz:Nat} (hz:ix.eval G s.T=.sref ll o0 n zz) (he:∃ h,bound n (Ow.map (·.eval G s.T)) n=some h/\∃ l0,bound 0 (Qy.map (·.eval G s.T)) h=some l0 /\
   cond ((HR.map (·.eval G s.T)).isNone&&Nat.beq zz sz) (some (cond (Nat.blt l0 n) (.sref ll (o0+l0*zz) (h-l0) zz) (.slice [] false))) none=some z) :
  ∃ v,(execOp a.eval o).run P w=.ok (.value v) w/\oZ gh s.H.length nt w s.T s.gen (gP a) v z:=by
 obtain⟨h,hh,l0,hl,he⟩:=he;obtain⟨hn,iZ⟩:=al he;clear he;simp only[au6,awP,axI,iI,avf] at hn;obtain⟨rfl,rfl⟩:=hn;have hmx:mx.map a.eval=none:=by
  cases mx with
  | none=>rfl
  | some m=>simp only[ja,au2,reduceCtorEq,and_false,exists_false] at h3
 obtain⟨aZ,cap,hk,amm,hA⟩:=(cU hW hF hc hz rfl).k9;have bh:=lL hW hF h2 hh;have bl:=lL hW hF h1 hl
 have hhn:h<=n:=by rcases bh with ⟨_,_,e⟩|⟨_,e,_⟩<;>omega
 have hlh:l0<=h:=by rcases bl with ⟨_,_,e⟩|⟨_,e,_⟩<;>omega
 have hb:(Instr.sliceBounds true n cap (lo.map a.eval) (hi.map a.eval) (mx.map a.eval)).run P w=.ok (l0,h,cap) w:=by
  grind [tI]
 have hr:(Instr.sliceAt t (a.eval x) (lo.map a.eval) (hi.map a.eval) (mx.map a.eval)).run P w=.ok (.slice (if cap=l0 then some ⟨gh.ρ ll,o0,none⟩ else (some (⟨gh.ρ ll,o0,none⟩:Addr)).map (·.add (l0*zz))) (h-l0) (cap-l0)) w:=by
  rw[hA];simp[Instr.sliceAt,run_underlying hu,Instr.slice,hb,fB hs]
 refine⟨_,by simp only[execOp,ho,Sem.run_bind,hr,Result.andThen_ok,Sem.run_pure];rfl,?_⟩
 injection iZ with iZ
 subst iZ;cases hq:Nat.blt l0 n with
 | true =>
  have hq' : l0<n:=by simpa [avn] using hq
  rw[if_neg ah,ave,addr_add];refine .dG (.sref ll (o0+l0*zz) (h-l0) (cap-l0) zz aZ ah (fun h0=>?_))
  obtain⟨ty,yH⟩:=amm h0;refine⟨ty,?_⟩;have:o0+l0*zz+(cap-l0)*zz=o0+cap*zz:=by
   have h3:(l0+(cap-l0))*zz=l0*zz+(cap-l0)*zz:=avV _ _ _
   grind
  rw[this];exact yH
 | false =>
  have hq' : ¬ l0<n:=fun h=>by rw[<- avn] at h;rw[h] at hq;cases hq
  have e0:h-l0=0:=ah;rw[e0];have hp:∀ (b of c:Nat),PR gh.S w (.slice (some ⟨b,of,none⟩) 0 c) (.slice [] false):=fun b of c=>.slice b of 0 c 0 [] (fun _ _=>undef) rfl (avB _) (fun i r h=>by simp at h) (fun i j r x h=>by simp at h) (fun i j r x h=>by simp at h)
  split
  ·exact .dG (.plain _ _ (hp _ _ _))
  ·rw[ave,addr_add];exact .dG (.plain _ _ (hp _ _ _))
theorem JA(hW:a8 G base s.H gh w)(hF:FR L nt gh w a s){t:TypeId}{z:AV}
  (ho:o.op=.slice t x lo hi mx) (hc:av nt x=some ix) (h1:ja nt lo=some Qy) (h2:ja nt hi=some Ow) (h3:ja nt mx=some HR) (hu:P.underlying t=some (.slice e0)) (hs:fC P e0=some sz)
  (he:bL (.sl sz) (ix.eval G s.T) (Qy.map (·.eval G s.T)) (Ow.map (·.eval G s.T)) (HR.map (·.eval G s.T))=some z) :
  ∃ v,(execOp a.eval o).run P w=.ok (.value v) w/\oZ gh s.H.length nt w s.T s.gen (gP a) v z:=by
 generalize hz:ix.eval G s.T=X at he;cases X<;>simp only[bL,reduceCtorEq,au3] at he
 case sref=>exact Fo hW hF ho hc h1 h2 h3 hu hs hz he
 rename_i e own;obtain⟨m,hm,h,hh,l0,hl,he⟩:=he;obtain⟨hn,he⟩:=al he;injection he with he
 subst he;have hp:=VR.jF (cU hW hF hc hz rfl);have bm:=lL hW hF h3 hm;have bh:=lL hW hF h2 hh;have bl:=lL hW hF h1 hl;have hmx:HR=none->mx.map a.eval=none:=by
  grind
 have xT:lo.map a.eval=none->l0=0:=by
  grind
 simp only[au6,awx,awP,axI] at hn;obtain⟨HM,Yb⟩:=hn
 have hlh:l0<=h:=by rcases bl with ⟨_,_,e⟩|⟨_,e,_⟩<;>omega
 have hhm:h<=m:=by
  grind
 have hml:m<=e.length:=by rcases bm with ⟨_,_,e⟩|⟨_,e,_⟩<;>omega
 have key:∀ len cap:Nat,len=e.length->len<=cap->∀ ad,∃ m',(m'=if HR=none then cap else m) /\
   (Instr.slice t (.slice ad len cap) (lo.map a.eval) (hi.map a.eval) (mx.map a.eval)).run P w=.ok (.slice (if m'=l0 then ad else ad.map (·.add (l0*sz))) (h-l0) (m' - l0)) w:=by
  intro len cap hlen kY ad;refine⟨_,rfl,?_⟩;have hb:(Instr.sliceBounds true len cap (lo.map a.eval) (hi.map a.eval) (mx.map a.eval)).run P w=.ok (l0,h,if HR=none then cap else m) w:=by
   grind [tI]
  simp[Instr.slice,run_underlying hu,hb,fB hs]
 have fin:∀ {V:Value} {R:Value},a.eval x=V->(Instr.slice t V (lo.map a.eval) (hi.map a.eval) (mx.map a.eval)).run P w=.ok R w->(∃ ad n c,V=.slice ad n c) ->
   (execOp a.eval o).run P w=.ok (.value R) w:=by
  rintro V R hA hR ⟨ad,n,c,rfl⟩
  have:(Instr.sliceAt t (.slice ad n c) (lo.map a.eval) (hi.map a.eval) (mx.map a.eval)).run P w=.ok R w:=by simp[Instr.sliceAt,run_underlying hu,hR]
  simp only[execOp,ho,hA,Sem.run_bind,this,Result.andThen_ok,Sem.run_pure]
 generalize hA:a.eval x=V at hp;have Lj:=hp;cases hp with
 | dF =>
  have hlen:([]:List (List AV)).length=0:=rfl;simp only[List.length_nil] at hml;have e1:m=0:=ah;have e2:h=0:=ah;have e3:l0=0:=ah;subst e1 e2 e3;obtain⟨m',RE,hr⟩:=key 0 0 rfl (Nat.le_refl _) none;have:m'=0:=by rw[RE];split<;>rfl
  subst this;refine⟨_,fin hA hr ⟨_,_,_,rfl⟩,.dG ?_⟩;simp;generalize HR.isSome=q;cases q
  ·exact .plain _ _ .dF
  ·exact .full none 0 [] .dF trivial
 | slice b of n cap lI _ f IS kY bX di dr =>
  obtain⟨m',RE,hr⟩:=key n cap IS.symm kY (some ⟨b,of,none⟩);refine⟨_,fin hA hr ⟨_,_,_,rfl⟩,.dG ?_⟩;have arH:h<=m':=by rw[RE];split<;>omega
  have dQ:PR gh.S w (.slice (if m'=l0 then some ⟨b,of,none⟩ else (some (⟨b,of,none⟩:Addr)).map (·.add (l0*sz))) (h-l0) (m' - l0)) (.slice ((e.take h).drop l0) false):=by
   by_cases aio:m'=l0
   ·rw[if_pos aio]
    have:h-l0=0:=ah
    rw[this];exact PR.GF ah
   ·rw[if_neg aio,ave,addr_add]
    by_cases aih:l0=0
    ·have:=PR.part Lj (sz:=lI) (fun _=>bX) hlh (c:=m' - l0) ah ah
     rw[aih,axd] at this ⊢;exact this
    ·refine PR.part Lj (fun dk i r hi=>?_) hlh ah ah
     have am0:¬ (Qy=none):=by
      rintro rfl
      rcases bl with ⟨_,_,e2⟩|⟨e1,_⟩
      ·exact aih e2
      ·cases e1
     have:=CU (Yb.resolve_left am0) bX dk
     rw[bX i r hi,this]
  generalize hq:((Option.map (fun x=>aE.eval G s.T x) HR).isSome&&m.beq h)=q
  cases q
  ·exact .plain _ _ dQ
  ·simp only[au6,Option.isSome_map,iI,avf] at hq
   have dk:HR≠none:=by rintro rfl;simp at hq
   have:m'=h:=by rw[RE,if_neg dk];exact hq.2
   subst this;exact .full _ _ _ dQ trivial
theorem sU(sz:Nat):∀ (n:Nat) (l:List AV) (i:Nat),(chunks sz n l)[i]?=if i<n then some ((l.drop (i*sz)).take sz) else none
 | 0,l,i=>by simp[chunks]
 | n+1,l,0=>by simp[chunks]
 | n+1,l,i+1=>by
  simp only[chunks,avI,sU sz n,av7,Nat.add_lt_add_iff_right]
  grind
def Ct(sz:Nat):∀ (n:Nat) (l:List AV),(chunks sz n l).length=n
 | 0,l=>rfl
 | n+1,l=>by simp[chunks,Ct sz n]
theorem PR.chunks{o n:Nat}(hv:PR S w (.pointer (some ⟨b,o,none⟩)) (.eptr cs))(hl:cs.length=n*sz) :
  PR S w (.slice (some ⟨b,o,none⟩) n n) (.slice (chunks sz n cs) false):=by
 cases hv with
 | eptr _ _ _ f di dr =>
  have idx:∀ (i j:Nat) (r:List AV) (x:AV),(Abs.chunks sz n cs)[i]?=some r->r[j]?=some x->cs[i*sz+j]?=some x:=by
   grind [sU]
  refine .slice b o n n sz _ (fun i j=>f (i*sz+j)) (Ct sz n cs) (Nat.le_refl _) ?_ ?_ ?_
  ·intro i r hi
   rw[sU] at hi;split at hi
   ·rename_i aZ
    injection hi with hi
    subst hi;have:(i+1)*sz<=n*sz:=avg _ aZ
    grind
   ·cases hi
  ·grind
  ·grind
theorem Hz(hW:a8 G base s.H gh w)(hF:FR L nt gh w a s){t:TypeId}{n:Nat}{z:AV}
  (ho:o.op=.slice t x lo hi mx) (hc:av nt x=some ix) (h1:ja nt lo=some Qy) (h2:ja nt hi=some Ow) (h3:ja nt mx=some HR) (hu:P.underlying t=some (.array n e0)) (hs:fC P e0=some sz) (h0:0<sz)
  (he:bL (.arr n sz) (ix.eval G s.T) (Qy.map (·.eval G s.T)) (Ow.map (·.eval G s.T)) (HR.map (·.eval G s.T))=some z) :
  ∃ v,(execOp a.eval o).run P w=.ok (.value v) w/\oZ gh s.H.length nt w s.T s.gen (gP a) v z:=by
 generalize hz:ix.eval G s.T=X at he;cases X<;>simp only[bL,reduceCtorEq] at he
 rename_i cs;obtain⟨hlen,he⟩:=al he;simp only[au3] at he;obtain⟨h,hh,l0,hl,he⟩:=he;obtain⟨hn,he⟩:=al he;injection he with he
 subst he;have Gl:cs.length=n*sz:=by simpa [iI] using hlen
 have hp:=VR.yR (cU hW hF hc hz rfl);have hmn:mx.map a.eval=none:=by
  cases mx with
  | none=>rfl
  | some m=>simp only[ja,au2] at h3;obtain⟨_,_,rfl⟩:=h3;simp at hn
 have bh:=lL hW hF h2 hh;have bl:=lL hW hF h1 hl
 have hlh:l0<=h:=by rcases bl with ⟨_,_,e⟩|⟨_,e,_⟩<;>omega
 have hhn:h<=n:=by rcases bh with ⟨_,_,e⟩|⟨_,e,_⟩<;>omega
 have hb:(Instr.sliceBounds false n n (lo.map a.eval) (hi.map a.eval) none).run P w=.ok (l0,h,n) w:=by
  grind [tI]
 generalize hA:a.eval x=V at hp;have Lj:=hp;cases hp with
 | eptr b of _ f di dr =>
  refine⟨.slice (some (if n=l0 then ⟨b,of,none⟩ else (⟨b,of,none⟩:Addr).add (l0*sz))) (h-l0) (n-l0),?_,.dG (.plain _ _ ?_)⟩
  ·simp[execOp,ho,hA,hmn,Instr.sliceAt,run_underlying hu,Instr.sureAddr,hb,fB hs]
  ·have hc:=PR.chunks (sz:=sz) Lj Gl
   by_cases uQ:n=l0
   ·have:h-l0=0:=ah
    grind [PR.GF]
   ·rw[if_neg uQ,addr_add]
    refine PR.part hc (fun _ i r hi=>?_) hlh hhn ah
    cases hc with
    | slice _ _ _ _ lI _ f' IS kY bX amn apD =>
     rw[sU] at hi;split at hi
     ·rename_i aZ
      injection hi with hi
      subst hi;have:(i+1)*sz<=n*sz:=avg _ aZ
      grind
     ·cases hi
end
end
section
section
variable {P:Program}{G:Nat->List AV}{base nt:Nat}{L:List Nat}{gh:Gh}{w:World}{a:Act}{s:AS}
def gx{t:TypeId}{y:Operand}(h1:∀ c,u≠.agg c)(h2:u≠.nilIface\/v≠.nilIface):(eqGuard op t x y u v).run P w=.ok () w:=by
 have key:∀ (op:BinOp),op=.eql\/op=.neq\/(eqGuard op t x y u v)=pure ():=by
  intro op
  cases op<;>first|exact .inl rfl|exact .inr (.inl rfl)|exact .inr (.inr rfl)
 have k2:∀ op,op=BinOp.eql\/op=.neq->(eqGuard op t x y u v).run P w=.ok () w:=by
  rintro op (rfl|rfl)<;>simp only[eqGuard,av8,awj,axN] <;>
   (cases u<;>first|rfl|exact absurd rfl (h1 _)|skip)<;>(cases v<;>first|rfl|(simp at h2))
 rcases key op with h|h|h
 ·exact k2 op (.inl h)
 ·exact k2 op (.inr h)
 ·rw[h];rfl
def LG{k:IntKind}{n:Int}{z:AV}(h:aa op k m n=some z)(t:TypeId):∃ v,(binOp op t (.int k m) (.int k n)).run P w=.ok v w/\PR gh.S w v z:=by
 unfold aa at h;cases op<;>simp only[reduceCtorEq,au4] at h
 case quo =>
  rcases awg (decide (n=0)) with hb|hb<;>rw[hb] at h<;>simp at h
  subst h;have hn:¬ n=0:=cY hb;exact⟨_,by simp[binOp,Op.intDiv,hn],.int _ _⟩
 case rem =>
  rcases awg (decide (n=0)) with hb|hb<;>rw[hb] at h<;>simp at h
  subst h;have hn:¬ n=0:=cY hb;exact⟨_,by simp[binOp,Op.intDiv,hn],.int _ _⟩
 all_goals
  subst h;first
   | exact⟨_,by simp[binOp,Op.intArith],.int _ _⟩
   | exact⟨_,by simp[binOp,Op.intCmp],.bool _⟩
def LH{x y:ByteArray}{z:AV}(h:cz op x.data.toList y.data.toList=some z)(t:TypeId):∃ v,(binOp op t (.string x) (.string y)).run P w=.ok v w/\PR gh.S w v z:=by
 have hx:=ByteArray.toList_eq x;have hy:=ByteArray.toList_eq y;unfold cz at h;cases op<;>simp only[reduceCtorEq,au4] at h
 case add =>
  obtain⟨h1,h2⟩:=al h;injection h2 with h2
  subst h2;have WV:x.size+y.size<=4611686018427387904:=cY h1;have h3:¬ (((x.size+y.size:Nat):Int)>IntKind.i64.max):=by
   have:IntKind.i64.max=9223372036854775807:=aI
   rw[this];omega
  exact⟨.string (x++y),by simp only[binOp,Op.stringOp];rw[if_neg h3];rfl,.str _ _ ag⟩
 all_goals
  subst h;exact⟨_,by simp[binOp,Op.stringOp,hx,hy],.bool _⟩
def wy:∀ (k ks:List CK) (X Y:List AV) (b:Bool),cD (k++ks) X Y=some b ->
  ∃ b1 b2,cD k X Y=some b1/\cD ks (X.drop k.length) (Y.drop k.length)=some b2/\b=(b1&&b2)
 | [],ks,X,Y,b,h=>⟨true,b,rfl,cY h,ag⟩
 | c :: k,ks,X,Y,b,h=>by
  have step:∀ (e:Bool) (X' Y' : List AV),(cD (k++ks) X' Y').map (e&&·)=some b->∃ b1 b2,(cD k X' Y').map (e&&·)=some b1/\cD ks (X'.drop k.length) (Y'.drop k.length)=some b2/\b=(b1&&b2):=by
   intro e X' Y' h;simp only[au2] at h;obtain⟨b',iR,rfl⟩:=h;obtain⟨b1,b2,h1,h2,rfl⟩:=wy k ks X' Y' b' iR;exact⟨e&&b1,b2,by simp[h1],h2,by rw[Bool.and_assoc]⟩
  cases c<;>cases X<;>try (cases h;done)
  all_goals (rename_i x X';cases x<;>try (cases h;done))
  all_goals (cases Y<;>try (cases h;done))
  all_goals (rename_i y Y';cases y<;>try (cases h;done))
  ·exact step _ _ _ h
  ·simp only[avK,cD] at h
   obtain⟨h0,h⟩:=al h;obtain⟨b1,b2,h1,h2,h3⟩:=step _ _ _ h;exact⟨b1,b2,by simp only[cD];rw[h0];exact h1,h2,h3⟩
  ·exact step _ _ _ h
def qE:∀ (k:List CK) (X Y:List AV) (n:Nat),k.length<=n->cD k (X.take n) (Y.take n)=cD k X Y
 | [],X,Y,n,_=>rfl
 | c :: k,[],Y,n,h=>by rw[axh];cases c<;>rfl
 | c :: k,x :: X,[],n,h=>by
  obtain⟨m,rfl⟩:∃ m,n=m+1:=⟨n-1,by simp at h;omega⟩
  rw[axh,avR];cases c<;>cases x<;>rfl
 | c :: k,x :: X,y :: Y,n,h=>by
  obtain⟨m,rfl⟩:∃ m,n=m+1:=⟨n-1,by simp at h;omega⟩
  have ih:=qE k X Y m (by simp at h;omega)
  rw[avR,avR]
  cases c<;>cases x<;>first|rfl|(cases y<;>first|rfl|simp only[cD,ih])
def Row(gh:Gh)(n:Nat)(w:World)(cs:Array Value)(X:List AV):Prop :=
 cs.size=X.length/\∀ (j:Nat) (v:Value) (x:AV),cs[j]?=some v->X[j]?=some x->VR gh n w v x
def Row.extract{n:Nat}{cs:Array Value}(h:Row gh n w cs X)(o k:Nat):Row gh n w (cs.extract o (o+k)) ((X.drop o).take k):=by
 refine⟨by have:=h.1;simp;omega,fun j v x hj hx=>?_⟩
 rw[axG] at hj;rw[avw,av9] at hx;split at hj
 ·split at hx
  ·exact h.2 _ v x hj hx
  ·cases hx
 ·cases hj
def n8{t:TypeId}{d:TypeDesc}(h:P.underlying t=some d)(hd:(match d with|.struct _=>true|.array _ _=>true|_=>false)=false):n7 P t=some false:=by
 unfold n7;rw[h];simp[];cases d<;>simp_all
def uH{n:Nat}{c:CK}{t:TypeId}{D o:Nat}{cs:Array Value}{b:Bool}(hX:Row gh n w cs X)(hY:Row gh n w ds Y)(hD:1<=D)
  (ht:match c with|.b=>P.underlying t=some .bool|.i=>∃ k,P.underlying t=some (.int k)|.s=>P.underlying t=some .string)
  (h:cD [c] (X.drop o) (Y.drop o)=some b):∃ u v,(part t cs o).run P w=.ok u w/\(part t ds o).run P w=.ok v w/\(Op.equalIn D t u v).run P w=.ok b w:=by
 obtain⟨D,rfl⟩:∃ m,D=m+1:=⟨D-1,ah⟩
 have hg:n7 P t=some false:=by cases c<;>first|exact n8 ht rfl|(obtain⟨k,ht⟩:=ht;exact n8 ht rfl)
 have get:∀ {cs:Array Value} {X:List AV} {x:AV} {X' : List AV},Row gh n w cs X->X.drop o=x :: X'->∃ u,(part t cs o).run P w=.ok u w/\VR gh n w u x:=by
  intro cs X x X' hR hd;have hx:X[o]?=some x:=by
   have:(X.drop o)[0]?=some x:=by rw[hd];rfl
   rw[av9] at this;simpa using this
  have aZ:o<cs.size:=by rw[hR.1];exact (au7.1 hx).1
  have hv:cs[o]?=some cs[o]:=avh aZ;exact⟨cs[o],by simp[part,ju hg,hv],hR.2 o _ x hv hx⟩
 generalize hXd:X.drop o=Xd at h;generalize hYd:Y.drop o=Yd at h;cases c<;>cases Xd<;>try (cases h;done)
 all_goals (rename_i x X';cases x<;>try (cases h;done))
 all_goals (cases Yd<;>try (cases h;done))
 all_goals (rename_i y Y';cases y<;>try (cases h;done))
 all_goals
  obtain⟨u,Ms,Yl⟩:=get hX hXd;obtain⟨v,Ym,RF⟩:=get hY hYd
 ·obtain rfl:=Yl.mb
  obtain rfl:=RF.mb;simp[cD] at h;exact⟨_,_,Ms,Ym,by rw[run_equalIn_bool' w D t _ _ ht,h]⟩
 ·obtain rfl:=Yl.kE
  obtain rfl:=RF.kE;obtain⟨k,ht⟩:=ht;simp only[cD] at h;obtain⟨h0,h'⟩:=al h;simp at h' h0;exact⟨_,_,Ms,Ym,by rw[h0,run_equalIn_int w D t _ _ _ _ ht,h']⟩
 ·obtain⟨p,rfl,rfl⟩:=Yl.kG
  obtain⟨q,rfl,rfl⟩:=RF.kG;simp[cD] at h;refine⟨_,_,Ms,Ym,?_⟩;rw[run_equalIn_string w D t _ _ ht,ByteArray.toList_eq,ByteArray.toList_eq,<- h];simp
def Ha(P:Program)(gh:Gh)(w:World)(d:Nat):Prop :=
 ∀ (t:TypeId) (k:List CK),oI P d t=some k->∀ (n D o:Nat) (cs ds:Array Value) (X Y:List AV) (b:Bool),Row gh n w cs X->Row gh n w ds Y->d<=D ->
  cD k (X.drop o) (Y.drop o)=some b->∃ u v,(part t cs o).run P w=.ok u w/\(part t ds o).run P w=.ok v w/\(Op.equalIn D t u v).run P w=.ok b w
def L9{d:Nat}(hd:Ha P gh w d){n D:Nat}(hD:d<=D){cs:Array Value}(hX:Row gh n w cs X)(hY:Row gh n w ds Y) :
  ∀ (fs:List Go.Field) (q:Nat) (ks:List CK) (b:Bool),qH (oI P d) fs q=some ks->cD ks (X.drop q) (Y.drop q)=some b->(Op.eqFields D cs ds fs).run P w=.ok b w:=by
 intro fs
 induction fs with
 | nil=>intro q ks b h1 h2;simp[qH] at h1;subst h1;simp[cD] at h2;subst h2;rfl
 | cons f fs ih =>
  intro q ks b h1 h2;unfold qH at h1;obtain⟨h3,h1⟩:=al h1;simp only[au3,au2] at h1;obtain⟨kf,hkf,kr,hkr,rfl⟩:=h1;simp only[au6,iI,avf,bne_iff_ne] at h3;obtain⟨hof,tw⟩:=h3;obtain⟨b1,b2,e1,e2,rfl⟩:=wy kf kr _ _ b h2;rw[av7,av7] at e2;obtain⟨u,v,p1,p2,p3⟩:=hd f.type kf hkf n D q cs ds X Y b1 hX hY hD e1;have hr:=ih (q+kf.length) kr b2 hkr e2;unfold Op.eqFields;rw[if_pos tw,hof];simp only[Sem.run_bind,p1,p2,p3,Result.andThen_ok];cases b1
  ·simp
  ·simp only[av8,awj,axN,hr,avE]
def tK{d:Nat}{t:TypeId}{k:List CK}(h:oI P (d+1) t=some k)(hu:P.underlying t=some (.struct fs)) :
  P.stoodInHeld t=false/\qH (oI P d) fs.toList 0=some k/\∃ sz,fC P t=some sz/\sz=k.length:=by
 unfold oI at h;rw[hu] at h;obtain⟨h1,h⟩:=al h;simp only[au3] at h;obtain⟨ks,gD,h⟩:=h;obtain⟨h2,h⟩:=al h;injection h with h
 subst h;refine⟨cY h1,gD,?_⟩;cases hq:fC P t with
 | none=>rw[hq] at h2;cases h2
 | some m=>rw[hq] at h2;exact⟨m,rfl,by simpa [iI] using h2⟩
def xL{d:Nat}(hd:Ha P gh w d){t:TypeId}{k:List CK}(h:oI P (d+1) t=some k)(hu:P.underlying t=some (.struct fs))
  {n D:Nat} (hD:d<=D) {cs ds:Array Value} {X Y:List AV} {b:Bool} (hX:Row gh n w cs X) (hY:Row gh n w ds Y) (he:cD k X Y=some b) :
  (Op.equalIn (D+1) t (.agg cs) (.agg ds)).run P w=.ok b w:=by
 obtain⟨D7,gD,_⟩:=tK h hu;have hf:P.fieldsOf t=fs:=by unfold Program.fieldsOf;rw[hu]
 rw[run_equalIn_struct w D t _ _ (by rw[hf];exact hu) D7,hf]
 exact L9 hd hD hX hY fs.toList 0 k b gD (cY he)
def zY:∀ d:Nat,Ha P gh w d
 | 0=>fun t k h=>by cases h
 | d+1=>by
  intro t k h n D o cs ds X Y b hX hY hD he;have h0:=h;unfold oI at h;cases hu:P.underlying t with
  | none=>rw[hu] at h;cases h
  | some dd =>
   rw[hu] at h;cases dd<;>try (cases h;done)
   case bool=>injection h with h;subst h;exact uH (c:=.b) hX hY ah hu he
   case int kk=>injection h with h;subst h;exact uH (c:=.i) hX hY ah ⟨kk,hu⟩ he
   case string=>injection h with h;subst h;exact uH (c:=.s) hX hY ah hu he
   case struct fs =>
    obtain⟨_,_,sz,kj,hlen⟩:=tK h0 hu;have hg:n7 P t=some true:=by unfold n7;rw[hu];rfl
    refine⟨.agg (cs.extract o (o+sz)),.agg (ds.extract o (o+sz)),by simp[part,ju hg,fB kj],by simp[part,ju hg,fB kj],?_⟩
    obtain⟨D,rfl⟩:∃ m,D=m+1:=⟨D-1,ah⟩;rw[<- qE k _ _ sz ah] at he;exact xL (zY d) h0 hu ah (hX.extract o sz) (hY.extract o sz) he
def MS{b:Bool}{z:AV}(h:cA op b=some z):(op=.eql/\z=.bool b)\/(op=.neq/\z=.bool !b):=by
 cases op<;>simp[cA] at h
 ·exact .inl ⟨rfl,h.symm⟩
 ·exact .inr ⟨rfl,h.symm⟩
def pd{t:TypeId}{b:Bool}{z:AV}(h:cA op b=some z)(hr:(Op.equal t u v).run P w=.ok b w)
  (h1:∀ q,(binOp .eql t u v)=q->q=(do pure (.bool (<- Op.equal t u v)))) (h2:(binOp .neq t u v)=(do pure (.bool (!(<- Op.equal t u v))))) :
  ∃ r,(binOp op t u v).run P w=.ok r w/\PR gh.S w r z:=by
 rcases MS h with ⟨rfl,rfl⟩|⟨rfl,rfl⟩
 ·exact⟨.bool b,by rw[h1 _ rfl];simp[hr],.bool _⟩
 ·exact⟨.bool !b,by rw[h2];simp[hr],.bool _⟩
def acU(hW:a8 G base s.H gh w)(hF:FR L nt gh w a s){t u:TypeId}{y:Operand}{iy:aE}{z:AV}
  (ho:o.op=.binOp op t x y u) (hx:av nt x=some ix) (hy:av nt y=some iy)
  (he:AG op (pH P t) (dj ix || dj iy) (ix.eval G s.T) (iy.eval G s.T)=some z) :
  ∃ v,(execOp a.eval o).run P w=.ok (.value v) w/\oZ gh s.H.length nt w s.T s.gen (gP a) v z:=by
 generalize hX:ix.eval G s.T=X at he;generalize hY:iy.eval G s.T=Y at he;have fin:∀ {U V:Value},a.eval x=U->a.eval y=V->(eqGuard op t x y U V).run P w=.ok () w->(∃ r,(binOp op t U V).run P w=.ok r w/\PR gh.S w r z) ->
   ∃ v,(execOp a.eval o).run P w=.ok (.value v) w/\oZ gh s.H.length nt w s.T s.gen (gP a) v z:=by
  rintro U V hU hV hg ⟨r,hr,hp⟩
  exact⟨r,by simp[execOp,ho,hU,hV,hg,hr],.dG (.plain _ _ hp)⟩
 have acI:(dj ix || dj iy)=true->(∃ v,x=.const v)\/(∃ v,y=.const v):=by
  intro h
  rcases Bool.or_eq_true_iff.1 h with h|h
  ·left
   cases x<;>simp only[av] at hx
   ·have:=(al hx).2;injection this with this;subst this;cases h
   ·exact⟨_,rfl⟩
   ·injection hx with hx;subst hx;cases h
   ·injection hx with hx;subst hx;cases h
  ·right
   cases y<;>simp only[av] at hy
   ·have:=(al hy).2;injection this with this;subst this;cases h
   ·exact⟨_,rfl⟩
   ·injection hy with hy;subst hy;cases h
   ·injection hy with hy;subst hy;cases h
 unfold AG at he;split at he
 ·
  obtain⟨h0,yI⟩:=al he;have hk:=of_decide_eq_true h0;have h1:=(cU hW hF hx hX rfl).kE;have h2:=(cU hW hF hy hY rfl).kE;rw[<- hk] at h2;exact fin h1 h2 (gx (by intro c;simp) (.inl ag)) (LG yI t)
 ·
  obtain⟨p,h1,hp⟩:=(cU hW hF hx hX rfl).kG;obtain⟨q,h2,hq⟩:=(cU hW hF hy hY rfl).kG;subst hp hq;exact fin h1 h2 (gx (by intro c;simp) (.inl ag)) (LH he t)
 ·
  rename_i p q;have h1:=(cU hW hF hx hX rfl).mb;have h2:=(cU hW hF hy hY rfl).mb;generalize hQ:pH P t=Q at he;cases Q<;>simp only[reduceCtorEq] at he
  have ht:P.underlying t=some .bool:=by
   unfold pH at hQ
   split at hQ<;>first|assumption|(cases hQ)|skip
   cases hb:(!P.eqGuardType P.depth t)<;>rw[hb] at hQ<;>simp at hQ
   split at hQ<;>cases hQ
  exact fin h1 h2 (gx (by intro c;simp) (.inl ag)) (pd he (run_equal_bool w t p q ht) (by rintro _ rfl;rfl) rfl)
 ·
  rename_i xs ys;obtain⟨cs,h1,qK,_,CX⟩:=(cU hW hF hx hX rfl).mq;obtain⟨ds,h2,xp,_,Mp⟩:=(cU hW hF hy hY rfl).mq;generalize hQ:pH P t=Q at he;cases Q<;>simp only[reduceCtorEq,au3] at he
  rename_i ks;obtain⟨b,hb,he⟩:=he;obtain⟨hg,hk⟩:P.eqGuardType P.depth t=false/\oI P 8 t=some ks:=by
   unfold pH at hQ
   split at hQ<;>first|(cases hQ;done)|skip
   cases hb:(P.eqGuardType P.depth t)<;>rw[hb] at hQ<;>simp at hQ
   split at hQ<;>first|(cases hQ;done)|skip
   injection hQ with hQ
   subst hQ;exact⟨rfl,by assumption⟩
  obtain⟨fs,hu⟩:∃ fs,P.underlying t=some (.struct fs):=by
   unfold pH at hQ;cases hu:P.underlying t with
   | none=>rw[hu] at hQ;cases hQ
   | some d =>
    rw[hu] at hQ;cases d<;>simp only[reduceCtorEq] at hQ
    exact⟨_,rfl⟩
  have dO:(Op.equal t (.agg cs) (.agg ds)).run P w=.ok b w :=
   xL (zY 7) hk hu (D:=9999) ah (n:=s.H.length) ⟨qK,CX⟩ ⟨xp,Mp⟩ hb
  exact fin h1 h2 (run_eqGuard_agg w op t x y cs ds hg) (pd he dO (by rintro _ rfl;rfl) rfl)
 ·
  obtain⟨h0,he⟩:=al he;obtain⟨amr,hq⟩:=Bool.and_eq_true_iff.1 h0;simp only[au3] at he;obtain⟨b,hb,he⟩:=he;have ht:∃ m,P.underlying t=some (.interface m):=by
   generalize hQ:pH P t=Q at hq;cases Q<;>simp only[reduceCtorEq] at hq
   unfold pH at hQ
   split at hQ<;>first|exact⟨_,by assumption⟩|(cases hQ;done)|skip
   cases hb:(!P.eqGuardType P.depth t)<;>rw[hb] at hQ<;>simp at hQ
   split at hQ<;>cases hQ
  obtain⟨m,ht⟩:=ht;have h2:=(cU hW hF hy hY rfl).yS;split at hb
  ·injection hb with hb
   subst hb;have h1:=(cU hW hF hx hX rfl).yS;have hr:(Op.equal t .nilIface .nilIface).run P w=.ok true w:=(fun d=>(by simp[Op.equalIn,run_underlying ht]:(Op.equalIn (d+1) t .nilIface .nilIface).run P w=.ok true w)) 9999
   refine fin h1 h2 ?_ (pd he hr (by rintro _ rfl;rfl) rfl)
   rcases acI amr with ⟨v,rfl⟩|⟨v,rfl⟩
   ·cases op<;>simp[eqGuard]
   ·cases op<;>simp[eqGuard]
  ·injection hb with hb
   subst hb;obtain⟨q,h1⟩:=(cU hW hF hx hX rfl).QC;have hr:∀ ti,(Op.equal t (.iface ti q) .nilIface).run P w=.ok false w:=fun ti=>(fun d=>(by simp[Op.equalIn,run_underlying ht]:(Op.equalIn (d+1) t (.iface ti q) .nilIface).run P w=.ok false w)) 9999
   exact fin h1 h2 (gx (by intro c;simp) (.inl ag)) (pd he (hr _) (by rintro _ rfl;rfl) rfl)
  ·cases hb
 ·
  obtain⟨h0,he⟩:=al he;simp only[au3] at he;obtain⟨b,hb,he⟩:=he;have ht:∃ p q r,P.underlying t=some (.func p q r):=by
   generalize hQ:pH P t=Q at h0;cases Q<;>simp only[reduceCtorEq] at h0
   unfold pH at hQ
   split at hQ<;>first|exact⟨_,_,_,by assumption⟩|(cases hQ;done)|skip
   cases hb:(!P.eqGuardType P.depth t)<;>rw[hb] at hQ<;>simp at hQ
   split at hQ<;>cases hQ
  obtain⟨p,q,r,ht⟩:=ht;have h2:=(cU hW hF hy hY rfl).A4;split at hb
  ·injection hb with hb
   subst hb;have h1:=(cU hW hF hx hX rfl).A4;have hr:(Op.equal t .nilFunc .nilFunc).run P w=.ok true w:=(fun d=>(by simp[Op.equalIn,run_underlying ht]:(Op.equalIn (d+1) t .nilFunc .nilFunc).run P w=.ok true w)) 9999
   exact fin h1 h2 (gx (by intro c;simp) (.inl ag)) (pd he hr (by rintro _ rfl;rfl) rfl)
  ·injection hb with hb
   subst hb;obtain⟨fs,cs,h1,_⟩:=(cU hW hF hx hX rfl).uR;have hr:∀ f,(Op.equal t (.func f fs cs) .nilFunc).run P w=.ok false w:=fun f=>(fun d=>(by simp[Op.equalIn,run_underlying ht]:(Op.equalIn (d+1) t (.func f fs cs) .nilFunc).run P w=.ok false w)) 9999
   exact fin h1 h2 (gx (by intro c;simp) (.inl ag)) (pd he (hr _) (by rintro _ rfl;rfl) rfl)
  ·cases hb
 ·cases he
end
end
section
section
variable {P:Program}{G:Nat->List AV}{base nt:Nat}{L:List Nat}{gh:Gh}{w:World}{a:Act}{s:AS}
def sG(gh:Gh)(n:Nat)(w:World)(C:Array Value)(X:List AV):Prop :=
 C.size=X.length/\∀ (j:Nat) (v:Value) (x:AV),C[j]?=some v->X[j]?=some x->VR gh n w v x/\v.oneCell'=true
def VR.gb{n:Nat}{x:AV}(h:VR gh n w v x)(hx:∀ cs,x≠.agg cs)(ui:∀ cs,x≠.tuple cs):v.oneCell'=true:=by
 cases h with
 | plain _ _ h=>exact h.gb
 | full=>rfl
 | ref=>rfl
 | sref=>rfl
 | mref=>rfl
 | func=>rfl
 | iface=>rfl
 | agg _ xs=>exact absurd rfl (hx xs)
 | tuple _ xs=>exact absurd rfl (ui xs)
theorem vn{n:Nat}{x:AV}(h:VR gh n w v x)(hc:x.cells=some cs):sG gh n w v.cells cs:=by
 have single:x.cells=some [x]->(∀ cs,x≠.agg cs)->(∀ cs,x≠.tuple cs)->sG gh n w v.cells cs:=by
  intro h1 h2 h3;rw[h1] at hc;injection hc with hc
  subst hc;have iC:=h.gb h2 h3;have:v.cells=#[v]:=by cases v<;>first|rfl|(simp[Value.oneCell'] at iC)
  rw[this];refine⟨rfl,fun j u y hu hy=>?_⟩
  grind
 cases x
 case agg xs =>
  obtain⟨C,rfl,hs,iC,h⟩:=h.mq;injection hc with hc
  subst hc;exact⟨hs,fun j v x hv hx=>⟨h j v x hv hx,iC j v hv⟩⟩
 case any=>cases hc
 case tuple=>cases hc
 case lbox=>cases hc
 case lref=>cases hc
 case lsl=>cases hc
 case lsr=>cases hc
 case eref=>cases hc
 case iter=>cases hc
 all_goals exact single rfl (by intro cs h;cases h) (by intro cs h;cases h)
theorem sG.dropped{n:Nat}(h:sG gh n w C X):sG gh n w C (X.map AV.drop):=by
 refine⟨by simp[h.1],fun j v x hv hx=>?_⟩
 simp only[List.getElem?_map,au2] at hx;obtain⟨y,hy,rfl⟩:=hx;exact⟨VR.dropped (h.2 j v y hv hy).1,(h.2 j v y hv hy).2⟩
theorem rb:∀ (l:List Value) (off k:Nat) (C:Array Value) (j:Nat),off+k+l.length<=C.size ->
  ((l.zipIdx k).foldl (fun cs (c,i)=>cs.setIfInBounds (off+i) c) C)[j]?=if off+k<=j/\j<off+k+l.length then l[j-(off+k)]? else C[j]?
 | [],off,k,C,j,h=>dq
 | v :: l,off,k,C,j,h=>by
  have h' : off+(k+1)+l.length<=(C.setIfInBounds (off+k) v).size:=by simp at h ⊢;omega
  rw[axj,axC,rb l off (k+1) _ j h']
  grind
def pK:∀ (l:List (Value × Nat)) (off:Nat) (C:Array Value),(l.foldl (fun cs (c,i)=>cs.setIfInBounds (off+i) c) C).size=C.size
 | [],off,C=>rfl
 | v :: l,off,C=>by rw[axC,pK l off];simp
theorem vM{l:List AV}(h:off+cs.length<=l.length)(j:Nat):(putAt l off cs)[j]?=if off<=j/\j<off+cs.length then cs[j-off]? else l[j]?:=by
 have ain:min off l.length=off:=ah;unfold putAt
 grind
def si{l:List AV}(h:off+cs.length<=l.length):(putAt l off cs).length=l.length:=by
 unfold putAt;simp;omega
def sG.put{n:Nat}{D:Array Value}(h:sG gh n w C X)(hd:sG gh n w D Y)(hl:off+Y.length<=X.length) :
  sG gh n w (D.zipIdx.foldl (fun cs (c,i)=>cs.setIfInBounds (off+i) c) C) (putAt X off Y):=by
 have e:D.zipIdx.foldl (fun cs (c,i)=>cs.setIfInBounds (off+i) c) C=(D.toList.zipIdx 0).foldl (fun cs (c,i)=>cs.setIfInBounds (off+i) c) C:=by
  rw[<- Array.foldl_toList,axP]
 rw[e];refine⟨by rw[pK,si hl,h.1],fun j v x hv hx=>?_⟩
 have hD:D.toList.length=Y.length:=cY hd.1;rw[rb _ _ _ _ _ (by rw[hD,h.1];omega)] at hv
 rw[vM hl] at hx;simp only[avG,hD] at hv
 by_cases hc:off<=j/\j<off+Y.length
 ·rw[if_pos hc] at hv hx
  exact hd.2 _ v x (cY hv) hx
 ·rw[if_neg hc] at hv hx
  exact h.2 j v x hv hx
theorem CI{n:Nat}{place:Nat->Option (Nat × Nat)} : ∀ (parts:List (Nat × Value)) (ip:List (Nat × Nat × AV)) (C:Array Value) (Z Z' : List AV),sG gh n w C Z->fw Z ip=some Z'->parts.length=ip.length ->
  (∀ (j:Nat) (p:Nat × Value) (q:Nat × Nat × AV),parts[j]?=some p->ip[j]?=some q->place p.1=some (q.1,q.2.1)/\(∀ cs,q.2.2.cells=some cs->sG gh n w p.2.cells cs)) ->
  ∃ C',Instr.fill place C parts=some C'/\sG gh n w C' Z'
 | [],[],C,Z,Z',h,hb,_,_=>by simp[fw] at hb;subst hb;exact⟨C,rfl,h⟩
 | p :: parts,q :: ip,C,Z,Z',h,hb,hl,hp=>by
  obtain⟨h1,h2⟩:=hp 0 p q rfl rfl;obtain⟨i,v⟩:=p;obtain⟨off,sz,x⟩:=q;simp only[fw] at hb;split at hb
  ·cases hb
  ·rename_i cs iL
   obtain⟨h3,iR⟩:=al hb;simp only[au6,iI,avf,avv] at h3;have hr:=h2 cs iL;have kj:v.cells.size=sz:=by rw[hr.1];exact h3.1
   have hlen:(cs.map AV.drop).length=cs.length:=ag;obtain⟨C',hf,bX⟩:=CI parts ip _ _ Z' (h.put hr.dropped (off:=off) (by rw[hlen];exact h3.2)) iR (cY hl) (fun j p q oK hq'=>hp (j+1) p q (cY oK) (cY hq'))
   refine⟨C',?_,bX⟩;simp only at h1;unfold Instr.fill;rw[h1];have mJ:¬ (decide (v.cells.size≠sz) || decide (off+v.cells.size>C.size))=true:=by
    have:=hr.1;have:=h.1
    simp;omega
   grind
 | [],_ :: _,_,_,_,_,_,hl,_=>by simp at hl
 | _ :: _,[],_,_,_,_,_,hl,_=>by simp at hl
def Lc{n:Nat}{t:TypeId}(h:im P t=some z):∃ i zv,P.info? t=some i/\i.zero=some zv/\sG gh n w zv.cells z:=by
 simp only[im,au3] at h;obtain⟨zv,⟨i,hi,hz⟩,hc⟩:=h;obtain⟨h1,h2⟩:=l7 (gh:=gh) (n:=n) (w:=w) hc;exact⟨i,zv,hi,hz,cY h1,fun j v x hv hx=>h2 j v x (cY hv) hx⟩
def F1{n:Nat}{x:AV}(h:lO v=some x):VR gh n w v (oM x):=by
 have hv:VR gh n w v x:=yo h;unfold oM;split
 ·unfold lO at h
  split at h<;>first|(cases h;done)|(injection h with h;cases h;done)|exact .plain _ _ .ar
 ·exact hv
def Hp{n:Nat}{x:AV}(h:uF v=some x):VR gh n w v (oM x):=by
 have h0:=kU (gh:=gh) (n:=n) (w:=w) h;unfold uF at h;split at h
 ·simp only[au2] at h
  obtain⟨l,_,rfl⟩:=h;exact h0
 ·exact F1 h
def uG:∀ {vs:List Value} {xs:List AV},fy vs=some xs->∀ (j:Nat) (v:Value) (x:AV),vs[j]?=some v->xs[j]?=some x->lO v=some x
 | [],xs,h,j,v,x,hv,hx=>by simp at hv
 | u :: vs,xs,h,j,v,x,hv,hx=>by
  simp only[fy,au3,au2] at h;obtain⟨y,hy,ys,Qw,rfl⟩:=h;cases j with
  | zero=>simp at hv hx;subst hv hx;exact hy
  | succ j=>exact uG Qw j v x (cY hv) (cY hx)
def sx{n:Nat}{t:TypeId}{b:Bool}(h:(im P t).map (fun z=>cond b (z.map oM) z)=some z):∃ i zv,P.info? t=some i/\i.zero=some zv/\sG gh n w zv.cells z:=by
 simp only[au2] at h;obtain⟨z0,h0,rfl⟩:=h;obtain⟨i,zv,h1,h2,h3⟩:=Lc (gh:=gh) (n:=n) (w:=w) h0;refine⟨i,zv,h1,h2,?_⟩;cases b with
 | false=>exact h3
 | true =>
  refine⟨cY h3.1,fun j v x hv hx=>?_⟩
  simp only[cond_true,List.getElem?_map,au2] at hx;obtain⟨y,hy,rfl⟩:=hx;simp only[im,au3] at h0;obtain⟨zv',⟨i',kP,W6⟩,hc⟩:=h0;rw[h1] at kP;injection kP with kP
  subst kP;rw[h2] at W6;injection W6 with W6
  subst W6;exact⟨F1 (uG hc j v y (cY hv) hy),(h3.2 j v y hv hy).2⟩
def se(hW:a8 G base s.H gh w)(hF:FR L nt gh w a s)(hc:av nt x=some y):∀ cs,(y.eval G s.T).drop.cells=some cs->sG gh s.H.length w (a.eval x).cells cs:=by
 intro cs iL;have hf:aN (y.eval G s.T)=true:=by
  rw[<- kX];generalize (y.eval G s.T).drop=Y at iL
  cases Y<;>first|rfl|cases iL
 exact vn (cU hW hF hc rfl hf) iL
theorem Bk(hW:a8 G base s.H gh w)(hF:FR L nt gh w a s){t:TypeId}
  (ho:o.op=.build t parts) {kp:Bool} (hz:(im P t).map (fun z=>cond kp (z.map oM) z)=some z) (hu:P.underlying t=some (.struct fs)) (hp:o9 P nt fs.toList parts.toList=some ps)
  (ft:∃ pl,fs.toList.mapM (fun f=>(P.info? f.type).map fun i=>(f.offset,i.size))=some pl)
  (he:fw z (ps.map fun p=>(p.1,p.2.1,(p.2.2.eval G s.T).drop))=some Z) :
  ∃ v,(execOp a.eval o).run P w=.ok (.value v) w/\oZ gh s.H.length nt w s.T s.gen (gP a) v (.agg Z):=by
 obtain⟨i,zv,hi,Qx,bX⟩:=sx (gh:=gh) (n:=s.H.length) (w:=w) hz;obtain⟨pl,gW⟩:=ft;have inv:∀ (l:List (Nat × Operand)) (ps:List (Nat × Nat × aE)),o9 P nt fs.toList l=some ps->l.length=ps.length /\
   ∀ (j:Nat) (p:Nat × Operand) (q:Nat × Nat × aE),l[j]?=some p->ps[j]?=some q->(∃ f,fs.toList[p.1]?=some f/\fC P f.type=some q.2.1/\f.offset=q.1)/\av nt p.2=some q.2.2:=by
  intro l
  induction l with
  | nil=>intro ps h;simp[o9] at h;subst h;exact⟨rfl,fun j p q h=>by simp at h⟩
  | cons p l ih =>
   intro ps h;obtain⟨k,x⟩:=p;simp only[o9,au3,au2] at h
   grind
 obtain⟨hl,hinv⟩:=inv _ _ hp;have ad1:∀ (k:Nat) (f:Go.Field) (sz:Nat),fs.toList[k]?=some f->fC P f.type=some sz->pl.toArray[k]?=some (f.offset,sz):=by
  have gen:∀ (l:List Go.Field) (pl:List (Nat × Nat)),l.mapM (fun f=>(P.info? f.type).map fun i=>(f.offset,i.size))=some pl->∀ (k:Nat) (f:Go.Field) (sz:Nat),l[k]?=some f->fC P f.type=some sz->pl[k]?=some (f.offset,sz):=by
   intro l
   induction l with
   | nil=>intro pl _ k f sz h;simp at h
   | cons g l ih =>
    intro pl h k f sz hk hs;simp only[List.mapM_cons,Option.bind_eq_bind,Option.pure_def,au3,au2] at h
    grind [oU]
  intro k f sz hk hs
  simpa using gen _ _ gW k f sz hk hs
 obtain⟨C',hf,yO⟩:=CI (gh:=gh) (w:=w) (n:=s.H.length) (place:=fun x=>pl.toArray[x]?) ((parts.map fun p=>(p.1,a.eval p.2)).toList) (ps.map fun p=>(p.1,p.2.1,(p.2.2.eval G s.T).drop)) zv.cells z Z bX he (cY hl) (by
  intro j p q hp hq;simp only[axv,List.getElem?_map,au2] at hp hq;obtain⟨p0,Lj,rfl⟩:=hp;obtain⟨q0,hq0,rfl⟩:=hq;obtain⟨⟨f,hf,hs,Om⟩,hc⟩:=hinv j p0 q0 Lj hq0;exact⟨by rw[ad1 _ f _ hf hs,Om],se hW hF hc⟩)
 have hb:P.built t (parts.map fun p=>(p.1,a.eval p.2)).toList=some C':=by
  unfold Program.built;rw[hi,hu];simp only[Qx,gW];exact hf
 refine⟨.agg C',by simp[execOp,ho,run_build w t _ C' hb],.dG (.agg _ _ yO.1 (fun j v hj=>?_) (fun j v x hv hx=>(yO.2 j v x hv hx).1))⟩
 have aZ:j<Z.length:=by rw[<- yO.1];exact (avc.1 hj).1
 exact (yO.2 j v _ hj (au5 aZ)).2
end
end
section
section
variable {G:Nat->List AV}{base nt:Nat}{L:List Nat}{gh:Gh}{w w' : World}{a:Act}{s:AS}{H:ae}
def Gh.alloc(gh:Gh)(b:Nat)(p:bM)(q:Nat->Prop):Gh:={ S:=fun b' o=>gh.S b' o\/(b'=b/\q o),κ:=fun b'=>if b'=b then p else gh.κ b',ρ:=gh.ρ }
structure fQ (w w' : World) (o:Obj):Prop where
 heap:w'.heap=w.heap.push o
 os:w'.os=w.os
 tape:w'.tape=w.tape
 output:w'.output=w.output
def fQ.alloc(w:World)(o:Obj):fQ w (w.alloc o) o:=⟨rfl,rfl,rfl,rfl⟩
def fQ.drew(w:World)(o:Obj):fQ w (w.drew.alloc o) o:=⟨rfl,rfl,rfl,rfl⟩
def fQ.old{o:Obj}(h:fQ w w' o)(b:Nat)(hb:b<w.heap.size):w'.heap[b]?=w.heap[b]?:=by
 rw[h.heap,awJ,if_neg (by omega)]
def fQ.new{o:Obj}(h:fQ w w' o):w'.heap[w.heap.size]?=some o:=by
 rw[h.heap,awJ,if_pos rfl]
def fQ.size{o:Obj}(h:fQ w w' o):w'.heap.size=w.heap.size+1:=by rw[h.heap];simp
def cell_of_heap{o:Nat}(h:w'.heap[b]?=w.heap[b]?):w'.cell? ⟨b,o,none⟩=w.cell? ⟨b,o,none⟩:=by simp[World.cell?,h]
def a8.cB(hW:a8 G base H gh w)(b:Nat)(hb:w.heap.size<=b):gh.κ b≠.outer:=by rw[hW.fresh b hb];simp
def jn(hW:a8 G base H gh w){o:Obj}(hp:fQ w w' o)(dk:p≠.outer)(q:Nat->Prop)(n:Nat):Step (fun _=>False) n gh w (gh.alloc w.heap.size p q) w':=by
 refine⟨fun b o h=>.inl h,fun b o h=>cell_of_heap (hp.old b (hW.qa b o h)),by rw[hp.size];omega,hp.os,hp.tape,hp.output,?_,?_,fun _ _=>rfl,fun b ty m hb=>by
  obtain⟨C,fr,h1,h2⟩:=hb;exact⟨C,fr,by rw[hp.old b (avc.1 h1).1];exact h1,h2⟩,fun b E ck hs hb=>by rw[hp.old b (hW.qa b 0 hs)];exact hb⟩
 ·intro b hb _
  have Fx:b≠w.heap.size:=by omega
  refine⟨.inl (hp.old b hb),by simp[Gh.alloc,Fx],fun o ho=>?_⟩
  rcases ho with ho|⟨e,_⟩
  ·exact ho
  ·exact absurd e Fx
 ·intro b hb
  show (if b=w.heap.size then p else gh.κ b)≠.outer
  split
  ·exact dk
  ·exact hW.cB b hb
theorem o8(hW:a8 G base H gh w){o:Obj}(hp:fQ w w' o)(dk:p≠.outer)(q:Nat->Prop)(n:Nat):Ext n gh w (gh.alloc w.heap.size p q) w':=by
 refine⟨(jn hW hp dk q n).mono (fun _ h=>h.elim),fun b hb=>?_⟩
 have iR:(if b=w.heap.size then p else gh.κ b)=.outer:=hb
 grind
def a8.step(hW:a8 G base H gh w)(st:Step touch H.length gh w br w')(ht:∀ l,¬ touch (.hb l)/\∀ j,¬ touch (.hs l j))
  (hs:∀ b o,br.S b o->b<w'.heap.size) (hk:∀ b,br.κ b≠.none->base<=b/\b<w'.heap.size)
  (kZ:∀ b o m,br.S b o->gh.S b o\/(w'.cell? ⟨b,o,none⟩=some (.int .u8 m)->∃ C fr,w'.heap[b]?=some (.cells C jo fr))):a8 G base H br w':=by
 refine⟨avz hW.size st.size,hs,hk,fun g j x hx=>?_,fun loc ty cs hl=>?_,hW.refs,fun g hg=>(hW.BA g hg).imp fun ty h=>st.len g ty _ h,hW.mw st kZ,fun loc o hl=>?_,fun loc ty cs hl=>?_⟩
 ·obtain⟨v,h1,h2,h3⟩:=hW.aY g j x hx
  exact⟨v,(st.cell g j h3).trans h1,h2.mono st.S st.cell st.mp,st.S g j h3⟩
 ·have aZ:loc<H.length:=(au7.1 hl).1
  have h:=(hW.boxes loc ty cs hl).mono st (Nat.le_refl _) (ht loc).1 (ht loc).2;rw[st.ρ loc aZ];exact h
 ·rw[st.ρ loc (au7.1 hl).1]
  exact (hW.more loc o hl).mono st (Nat.le_refl _) (ht loc).1 (ht loc).2
 ·rw[st.ρ loc (au7.1 hl).1]
  exact fun hf=>st.len _ _ _ (hW.types loc ty cs hl hf)
def a8.alloc(hW:a8 G base H gh w){o:Obj}(hp:fQ w w' o)(dk:p≠.outer)(q:Nat->Prop)
  (hq:∀ k m,q k->w'.cell? ⟨w.heap.size,k,none⟩=some (.int .u8 m)->∃ C fr,w'.heap[w.heap.size]?=some (.cells C jo fr)):a8 G base H (gh.alloc w.heap.size p q) w':=by
 refine hW.step (jn hW hp dk q H.length) (fun l=>⟨id,fun _=>id⟩) ?_ ?_ (fun b k m h=>h.elim .inl (fun ⟨e,hk⟩=>.inr (by subst e;exact hq k m hk)))
 ·intro b o ho
  rw[hp.size]
  rcases ho with ho|⟨rfl,_⟩
  ·have:=hW.qa b o ho;omega
  ·omega
 ·intro b hb
  rw[hp.size];have iR:(if b=w.heap.size then p else gh.κ b)≠.none:=hb
  split at iR
  ·rename_i e
   have:=hW.size
   omega
  ·have:=hW.ry b iR;omega
def Gh.tZ(gh:Gh)(b:Nat)(p:bM):Gh:={ gh with κ:=fun b'=>if b'=b then p else gh.κ b' }
def mI(hW:a8 G base H gh w)(hb:b<w.heap.size)(p:bM)(n:Nat):Step (fun r=>r=gh.κ b) n gh w (gh.tZ b p) w:=by
 refine⟨fun _ _ h=>h,fun _ _ _=>rfl,Nat.le_refl _,rfl,rfl,rfl,fun b' iR hn=>⟨.inl rfl,?_,fun _ h=>h⟩,fun b' iR=>?_,fun _ _=>rfl,fun _ _ _ h=>h,fun _ _ _ _ h=>h⟩
 ·have dk:b'≠b:=by rintro rfl;exact hn rfl
  simp[Gh.tZ,dk]
 ·have dk:b'≠b:=by omega
  simp only[Gh.tZ,if_neg dk];exact hW.cB b' iR
theorem yC(hW:a8 G base H gh w)(hb:b<w.heap.size)(hp:p≠.outer)(h0:gh.κ b≠.none)(h1:gh.κ b≠.outer)(n:Nat):Ext n gh w (gh.tZ b p) w:=by
 refine⟨(mI hW hb p n).mono (fun r h=>by rw[h];exact⟨h0,h1⟩),fun b' iR=>?_⟩
 have kO:(if b'=b then p else gh.κ b')=.outer:=iR
 grind
def Mc(hW:a8 G base H gh w)(hb:b<w.heap.size)(p:bM)(h0:gh.κ b≠.none)(ht:∀ l,gh.κ b≠.hb l/\∀ j,gh.κ b≠.hs l j):a8 G base H (gh.tZ b p) w:=by
 refine hW.step (mI hW hb p H.length) (fun l=>⟨fun h=>(ht l).1 h.symm,fun j h=>(ht l).2 j h.symm⟩) hW.qa ?_ (fun _ _ _ h=>.inl h)
 intro b' iR;have kO:(if b'=b then p else gh.κ b')≠.none:=iR
 split at kO
 ·rename_i e;rw[e];exact hW.ry b h0
 ·exact hW.ry b' kO
theorem sj(hW:a8 G base H gh w)(hb:w.heap[b]?=some (.cells C ty fr))(kj:C'.size=C.size)(q:Nat->Prop)
  (di:∀ o,gh.S b o->C'[o]?=C[o]?) (p:bM) (n:Nat) :
  Step (fun r=>r=gh.κ b) n gh w { gh with S:=fun b' o=>gh.S b' o\/(b'=b/\q o),κ:=fun b'=>if b'=b then p else gh.κ b' } (w.setRow b C'):=by
 have aZ:b<w.heap.size:=(avc.1 hb).1;refine⟨fun b o h=>.inl h,fun b' o h=>?_,by simp,rfl,rfl,rfl,fun b' iR hn=>?_,fun b' iR=>?_,fun _ _=>rfl,fun b' ox m hm=>by
  obtain⟨D,fr',h1,h2⟩:=hm
  by_cases e:b'=b
  ·subst e
   rw[hb] at h1;injection h1 with h1
   injection h1 with h1 h3 h4
   subst h1 h3;exact⟨C',fr,setRow_heap w b' C C' ty fr hb,by rw[kj,h2]⟩
  ·exact⟨D,fr',by rw[setRow_other w b b' C' e];exact h1,h2⟩,fun b' E ck hs hm=>by
  have e:b'≠b:=by rintro rfl;rw[hb] at hm;cases hm
  rw[setRow_other w b b' C' e];exact hm⟩
 ·by_cases e:b'=b
  ·subst e
   rw[cell_setRow_same w b' o C C' ty fr hb,di o h];simp[World.cell?,hb]
  ·exact cell_of_heap (setRow_other w b b' C' e)
 ·have dk:b'≠b:=by rintro rfl;exact hn rfl
  refine⟨.inl (setRow_other w b b' C' dk),by simp[dk],fun o ho=>?_⟩
  grind
 ·have dk:b'≠b:=by omega
  simp only[if_neg dk];exact hW.cB b' iR
theorem B4(hW:a8 G base H gh w)(hb:w.heap[b]?=some (.cells C ty fr))(kj:C'.size=C.size)(q:Nat->Prop)
  (di:∀ o,gh.S b o->C'[o]?=C[o]?) {p:bM} (hp:p≠.outer) (h0:gh.κ b≠.none) (h1:gh.κ b≠.outer) (n:Nat) :
  Ext n gh w { gh with S:=fun b' o=>gh.S b' o\/(b'=b/\q o),κ:=fun b'=>if b'=b then p else gh.κ b' } (w.setRow b C'):=by
 refine⟨(sj hW hb kj q di p n).mono (fun r h=>by rw[h];exact⟨h0,h1⟩),fun b' iR=>?_⟩
 grind
def OY(hW:a8 G base H gh w)(hb:w.heap[b]?=some (.cells C ty fr))(kj:C'.size=C.size)(q:Nat->Prop)
  (di:∀ o,gh.S b o->C'[o]?=C[o]?) (hq:∀ k m,q k->C'[k]?=some (.int .u8 m)->ty=jo) (p:bM) (h0:gh.κ b≠.none) (ht:∀ l,gh.κ b≠.hb l/\∀ j,gh.κ b≠.hs l j) :
  a8 G base H { gh with S:=fun b' o=>gh.S b' o\/(b'=b/\q o),κ:=fun b'=>if b'=b then p else gh.κ b' } (w.setRow b C'):=by
 have aZ:b<w.heap.size:=(avc.1 hb).1;refine hW.step (sj hW hb kj q di p H.length) (fun l=>⟨fun h=>(ht l).1 h.symm,fun j h=>(ht l).2 j h.symm⟩) ?_ ?_ (fun b' k m h=>h.elim .inl (fun ⟨e,hk⟩=>.inr (fun hc=>by
   subst e;rw[cell_setRow_same w b' k C C' ty fr hb] at hc;have:=hq k m hk hc
   subst this;exact⟨C',fr,setRow_heap w b' C C' _ fr hb⟩)))
 ·intro b' o ho
  simp
  rcases ho with ho|⟨rfl,_⟩
  ·exact hW.qa b' o ho
  ·exact aZ
 ·intro b' iR
  simp;have kO:(if b'=b then p else gh.κ b')≠.none:=iR
  split at kO
  ·rename_i e;rw[e];exact hW.ry b h0
  ·exact hW.ry b' kO
theorem FR.cx(h:FR L nt gh w a s)(st:Step touch s.H.length gh w br w'){t:Nat}{X:AV}{H':ae}{lo':Nat}(hH:s.H.length<=H'.length)
  (ht:∀ i,i≠t->¬ touch (.bx i)/\¬ touch (.sl i)/\∀ j,¬ touch (.sc i j))
  (hX:(t<nt/\fz X=fz (s.T t))\/fz X=none) (hsr:t<nt->SR br H'.length nt w' s.T s.gen (gP a) t (gP a t) X) :
  FR L nt br w' a (({ s with H:=H',lo:=lo' } : AS).cx t X):=by
 refine h.update st h.defers h.size hH (Nat.le_refl _) (fun i=>i=t) ?_ ?_ ?_
 ·intro i hi
  exact⟨by simp[AS.cx,lr,hi],fun _=>⟨rfl,ht i hi⟩⟩
 ·rintro i rfl
  simp only[AS.cx,lr,awT]
  grind
 ·rintro i rfl hi
  simp only[AS.cx,lr,awT];refine SR.mono (touch:=fun _=>False) (n:=H'.length) (gh:=br) (w:=w') (Step.refl _ _ _ _ (fun b hb=>st.fresh b (avz st.size hb))) (Nat.le_refl _) (Nat.le_refl _) id id (fun _=>id) ?_ (hsr hi)
  grind [lr]
theorem FR.Vx(h:FR L nt gh w a s)(hg:s.gen<=gen')(gJ:∀ b,w.heap.size<=b->gh.κ b≠.outer)(d:Option Nat)(hd:∀ k,d=some k->k<nt){x:AV}
  (hx:fz x=none\/((∃ g,s.gen<=g/\fz x=some g)/\∀ k,d=some k->k∈L))
  (hv:∀ k,d=some k->SR gh s.H.length nt w s.T gen' (gP a) k v x):FR L nt gh w (a.put d v) (({ s with gen:=gen' } : AS).ca d x):=by
 have st:Step (fun _=>False) s.H.length gh w gh w:=Step.refl _ _ _ _ gJ
 cases d with
 | none=>exact h.update st h.defers h.size (Nat.le_refl _) hg (fun _=>False) (fun i _=>⟨rfl,fun _=>⟨rfl,id,id,fun _=>id⟩⟩) (fun _ h=>h.elim) (fun _ h=>h.elim)
 | some d =>
  have aZ:=hd d rfl;have kj:d<a.tmps.size:=by rw[h.size];exact aZ
  refine h.update (s':=({ s with gen:=gen' } : AS).ca (some d) x) st ((Bc a (some d) v).trans h.defers) ((KE a (some d) v).trans h.size) (Nat.le_refl _) hg (fun i=>i=d) ?_ ?_ ?_
  ·intro i hi
   exact⟨by simp[AS.ca,AS.cx,lr,hi],fun _=>⟨by rw[qV a d v i kj,if_neg hi],id,id,fun _=>id⟩⟩
  ·rintro i rfl
   simp only[AS.ca,AS.cx,lr,awT]
   grind
  ·rintro i rfl hi
   simp only[AS.ca,AS.cx,lr,awT];rw[qV a i v i kj,if_pos rfl];have oT:=hv i rfl;cases x
   case lref b g off =>
    obtain⟨h1,h2,h3⟩:=oT;refine⟨h1,h2,fun J0 b' iR=>?_⟩
    by_cases Tw:b=i
    ·subst Tw;simp[lr,fz] at J0
    ·simp only[lr,if_neg Tw] at J0
     rw[qV a i v b kj,if_neg Tw] at iR;exact h3 J0 b' iR
   case lsr b g =>
    obtain⟨h1,h2,h3⟩:=oT;refine⟨h1,h2,fun J0=>?_⟩
    by_cases Tw:b=i
    ·subst Tw;simp[lr,fz] at J0
    ·simp only[lr,if_neg Tw] at J0
     rw[qV a i v b kj,if_neg Tw];exact h3 J0
   case eref b g r z off =>
    obtain⟨h1,h2,h3⟩:=oT;refine⟨h1,h2,fun J0 b' k cap iR=>?_⟩
    by_cases Tw:b=i
    ·subst Tw;simp[lr,fz] at J0
    ·simp only[lr,if_neg Tw] at J0
     rw[qV a i v b kj,if_neg Tw] at iR;exact h3 J0 b' k cap iR
   all_goals exact oT
end
end
section
section
variable {P:Program}{G:Nat->List AV}{base nt:Nat}{L:List Nat}{gh:Gh}{w:World}{a:Act}{s:AS}
structure Out (G:Nat->List AV) (base nt:Nat) (L:List Nat) (gh:Gh) (w:World) (a:Act) (s:AS) (d:Option Nat) (x:AV) (s' : AS) (v' : Value) (br:Gh) (w' : World):Prop where
 W:a8 G base s'.H br w'
 F:FR L nt br w' (a.put d v') (s'.ca d x)
 E:Ext s.H.length gh w br w'
def wS(P:Program)(a:Act)(o:Oper)(w:World)(v' : Value)(w' : World):Prop :=
 (execOp a.eval o).run P w=.ok (.value v') w'\/((execOp a.eval o).run P w=.ok .skip w'/\v'=undef)
theorem wS.wp{v':Value}{w':World}{K:Act->World->Prop}{Q:Exit->Act->World->Prop}(h:wS P a o w v' w')(hK:K (a.put o.dst v') w'):o.wp P a w K Q:=by
 unfold Oper.wp
 rcases h with h|⟨h,rfl⟩
 ·rw[h];exact hK
 ·rw[h];exact hK
def Out.pure(hW:a8 G base s.H gh w)(hF:FR L nt gh w a s)(hd:∀ k,d=some k->k<nt){x:AV}(hv:oZ gh s.H.length nt w s.T s.gen (gP a) v x) :
  Out G base nt L gh w a s d x s v gh w:=by
 refine⟨hW,?_,Ext.refl _ _ _ (fun b hb=>hW.cB b hb)⟩
 have:=hF.put (touch:=fun _=>False) (H':=s.H) (lo':=s.lo) (Step.refl _ _ _ _ (fun b hb=>hW.cB b hb)) (fun i=>⟨id,id,fun _=>id⟩) (Nat.le_refl _) d hd hv
 exact this
def Wl{n:Nat}(h:CR gh n w (.sl i) v (.slice e own)):SR gh n nt w T gen tm i v (.slice e own):=h
def jz(S:Nat->Nat->Prop)(w:World)(sz:Nat)(C:Array Value)(E:List (List AV)):Prop :=
 C.size=E.length*sz/\(∀ (i:Nat) (r:List AV),E[i]?=some r->r.length=sz) /\
  ∀ (i j:Nat) (r:List AV) (x:AV),E[i]?=some r->r[j]?=some x->∃ v,C[i*sz+j]?=some v/\PR S w v x
def VR.mh{n:Nat}{x:AV}(h:VR gh n w v x)(hp:x.plain=true):PR gh.S w v x:=by
 cases h with
 | plain _ _ h=>exact h
 | full=>simp[AV.plain] at hp
 | ref=>simp[AV.plain] at hp
 | sref=>simp[AV.plain] at hp
 | mref=>simp[AV.plain] at hp
 | func f fs cs xs ys hf hc h1 h2 =>
  cases xs<;>cases ys<;>simp[AV.plain] at hp
  have e1:fs=#[]:=awU hf;have e2:cs=#[]:=awU hc;subst e1 e2;exact .func f
 | iface t v x h =>
  cases x<;>simp[AV.plain] at hp
  all_goals
   cases h with
   | plain _ _ h=>exact .iface _ _ _ h
 | agg=>simp[AV.plain] at hp
 | tuple=>simp[AV.plain] at hp
def SQ{n:Nat}{x:AV}(hx:∀ ds,x.cells=some ds->sG gh n w v.cells ds)(he:x.elem sz=some cs) :
  v.cells.size=sz/\cs.length=sz/\∀ (j:Nat) (y:AV),cs[j]?=some y->∃ u,v.cells[j]?=some u/\PR gh.S w u y:=by
 unfold AV.elem at he;split at he
 ·cases he
 ·rename_i ds hds
  obtain⟨h1,h2⟩:=al he;injection h2 with h2
  subst h2;simp only[au6,iI,avf] at h1;have hr:=(hx ds hds).dropped;refine⟨by rw[hr.1];exact h1.1,h1.1,fun j y hy=>?_⟩
  have hj:j<v.cells.size:=by rw[hr.1];exact (au7.1 hy).1
  have hv:v.cells[j]?=some v.cells[j]:=avh hj;exact⟨_,hv,((hr.2 j _ y hv hy).1).mh (ava.1 h1.2 y (avb hy))⟩
theorem xE{n:Nat}(hi:i<n)(hj:j<sz):i*sz+j<n*sz:=by
 have:(i+1)*sz<=n*sz:=avg _ hi
 grind
theorem jz.put{D:Array Value}(h:jz S w sz C E)(hi:i<E.length)(hD:D.size=sz)(iL:cs.length=sz)
  (dr:∀ (j:Nat) (y:AV),cs[j]?=some y->∃ u,D[j]?=some u/\PR S w u y):jz S w sz (D.zipIdx.foldl (fun q (c,k)=>q.setIfInBounds (i*sz+k) c) C) (E.set i cs):=by
 have e:D.zipIdx.foldl (fun q (c,k)=>q.setIfInBounds (i*sz+k) c) C=(D.toList.zipIdx 0).foldl (fun q (c,k)=>q.setIfInBounds (i*sz+k) c) C:=by
  rw[<- Array.foldl_toList,axP]
 have hDl:D.toList.length=sz:=cY hD;have hle:i*sz+sz<=C.size:=by
  have:(i+1)*sz<=E.length*sz:=avg _ hi
  rw[avV] at this;rw[h.1];omega
 rw[e];refine⟨by rw[pK,h.1];simp,fun k r hk=>?_,fun k j r x hk hj=>?_⟩
 ·rw[av2] at hk
  split at hk
  ·grind
  ·exact h.2.1 k r hk
 ·rw[rb _ _ _ _ _ (by rw[hDl];omega)]
  simp only[avG,hDl];rw[av2] at hk;split at hk
  ·grind
  ·rename_i hki
   have wz:j<sz:=by rw[<- h.2.1 k r hk];exact (au7.1 hj).1
   have mJ:¬ (i*sz<=k*sz+j/\k*sz+j<i*sz+sz):=by
    rintro ⟨c1,c2⟩
    have:i=k:=by
     rcases axf i k with h'|h'|h'
     ·have:(i+1)*sz<=k*sz:=avg _ h'
      grind
     ·exact h'
     ·have:(k+1)*sz<=i*sz:=avg _ h'
      grind
    exact hki this
   rw[if_neg mJ];exact h.2.2 k j r x hk hj
def Ga : ∀ (parts:List (Nat × Value)) (ip:List (Nat × AV)) (C:Array Value) (E E' : List (List AV)),jz S w sz C E->cN sz E ip=some E'->parts.length=ip.length ->
  (∀ (j:Nat) (p:Nat × Value) (q:Nat × AV),parts[j]?=some p->ip[j]?=some q->p.1=q.1/\∀ cs,q.2.elem sz=some cs->p.2.cells.size=sz/\cs.length=sz/\∀ (j:Nat) (y:AV),cs[j]?=some y->∃ u,p.2.cells[j]?=some u/\PR S w u y) ->
  ∃ C',Instr.fill (fun i=>some (i*sz,sz)) C parts=some C'/\jz S w sz C' E'
 | [],[],C,E,E',h,hb,_,_=>by simp[cN] at hb;subst hb;exact⟨C,rfl,h⟩
 | p :: parts,q :: ip,C,E,E',h,hb,hl,hp=>by
  obtain⟨h1,h2⟩:=hp 0 p q rfl rfl;obtain⟨i,v⟩:=p;obtain⟨i',x⟩:=q;simp only at h1;subst h1;simp only[cN] at hb;split at hb
  ·cases hb
  ·rename_i cs iL
   obtain⟨h3,iR⟩:=al hb;have hi:i<E.length:=by simpa [avn] using h3
   obtain⟨c1,c2,c3⟩:=h2 cs iL;obtain⟨C',hf,bX⟩:=Ga parts ip _ _ E' (h.put hi c1 c2 c3) iR (cY hl) (fun j p q oK hq'=>hp (j+1) p q (cY oK) (cY hq'))
   refine⟨C',?_,bX⟩;unfold Instr.fill;simp only;have hle:i*sz+sz<=C.size:=by
    have:(i+1)*sz<=E.length*sz:=avg _ hi
    rw[avV] at this;rw[h.1];omega
   have mJ:¬ (decide (v.cells.size≠sz) || decide (i*sz+v.cells.size>C.size))=true:=by
    simp at c1;simp;omega
   rw[if_neg mJ];exact hf
 | [],_ :: _,_,_,_,_,_,hl,_=>by simp at hl
 | _ :: _,[],_,_,_,_,_,hl,_=>by simp at hl
def jz.slice{w':World}(h:jz S w sz C E){gh:Gh}(hS:gh.S=S)(hp:fQ w w' (.cells C' ty))
  (hW:∀ b o,S b o->b<w.heap.size) (hC:∀ j,j<C.size->C'[j]?=C[j]?) {q:Nat->Prop} (hq:∀ j,j<E.length*sz->q j) (cap:Nat) (kY:E.length<=cap) :
  PR (gh.alloc w.heap.size p q).S w' (.slice (some ⟨w.heap.size,0,none⟩) E.length cap) (.slice E false):=by
 subst hS;have key:∀ (i j:Nat) (r:List AV) (x:AV),E[i]?=some r->r[j]?=some x->∃ v,C[i*sz+j]?=some v/\PR gh.S w v x/\i*sz+j<E.length*sz:=by
  intro i j r x hi hj;obtain⟨v,hv,dQ⟩:=h.2.2 i j r x hi hj;exact⟨v,hv,dQ,by rw[<- h.1];exact (avc.1 hv).1⟩
 refine .slice w.heap.size 0 E.length cap sz E (fun i j=>C.getD (i*sz+j) undef) rfl kY h.2.1 ?_ ?_
 ·intro i j r x hi hj
  obtain⟨v,hv,dQ,aZ⟩:=key i j r x hi hj;have uP:i*sz+j<C.size:=by rw[h.1];exact aZ
  have hg:C.getD (i*sz+j) undef=v:=by
   simp_all
  refine⟨.inr ⟨rfl,by simpa using hq _ aZ⟩,?_,by rw[hg];exact dQ.gb⟩
  rw[hg,avA];simp only[World.cell?,hp.new]
  simpa [hC _ uP] using hv
 ·intro i j r x hi hj
  obtain⟨v,hv,dQ,aZ⟩:=key i j r x hi hj;have uP:i*sz+j<C.size:=by rw[h.1];exact aZ
  have hg:C.getD (i*sz+j) undef=v:=by
   simp_all
  rw[hg];exact dQ.mono (fun b o ho=>.inl ho) (fun b o ho=>cell_of_heap (hp.old b (hW b o ho))) (fun b E ck hs hb=>by rw[hp.old b (hW b 0 hs)];exact hb)
end
end
section
section
variable {P:Program}{G:Nat->List AV}{base nt:Nat}{L:List Nat}{gh:Gh}{w w' : World}{a:Act}{s:AS}{H:ae}
def Wi:Option Nat->bM
 | some d=>.sl d
 | none=>.none
def Pr:Option Nat->bM
 | some d=>.bx d
 | none=>.none
def qS(d:Option Nat):Wi d≠.outer:=by cases d<;>simp[Wi]
def x9(d:Option Nat):Pr d≠.outer:=by cases d<;>simp[Pr]
def FR.grown(h:FR L nt gh w a s)(st:Step touch s.H.length gh w br w')(ht:∀ i,¬ touch (.bx i)/\¬ touch (.sl i)/\∀ j,¬ touch (.sc i j))
  {H' : ae} {lo' : Nat} (hH:s.H.length<=H'.length):FR L nt br w' a { s with H:=H',lo:=lo' } :=
 h.update st h.defers h.size hH (Nat.le_refl _) (fun _=>False) (fun i _=>⟨rfl,fun _=>⟨rfl,ht i⟩⟩) (fun _ h=>h.elim) (fun _ h=>h.elim)
def Gh.bK(gh:Gh)(b n:Nat):Gh:={ gh.alloc b (.hb n) (fun _=>False) with ρ:=fun l=>if l=n then b else gh.ρ l }
def gS(hW:a8 G base H gh w){o:Obj}(hp:fQ w w' o):Step (fun _=>False) H.length gh w (gh.bK w.heap.size H.length) w':=by
 have h:=jn hW hp (p:=.hb H.length) ag (fun _=>False) H.length
 refine⟨h.S,h.cell,h.size,h.os,h.tape,h.output,h.oH,h.fresh,fun loc hl=>?_,h.len,h.mp⟩
 show (if loc=H.length then _ else _)=_
 rw[if_neg ah]
theorem lq(hW:a8 G base H gh w){o:Obj}(hp:fQ w w' o):Ext H.length gh w (gh.bK w.heap.size H.length) w':=by
 refine⟨(gS hW hp).mono (fun _ h=>h.elim),fun b hb=>?_⟩
 have iR:(if b=w.heap.size then bM.hb H.length else gh.κ b)=.outer:=hb
 grind
theorem a8.bK(hW:a8 G base H gh w)(hp:fQ w w' (.cells C ty))(bX:sG gh H.length w C cs)(hr:cs.all (bf H.length)=true) :
  a8 G base (H++[.box ty cs]) (gh.bK w.heap.size H.length) w':=by
 have st:=gS hW hp;refine⟨avz hW.size st.size,?_,?_,fun g j x hx=>?_,fun loc ox ds hl=>?_,fun loc ox ds hl=>?_,fun g hg=>(hW.BA g hg).imp fun ty h=>st.len g ty _ h,hW.mw st (fun b o m h=>h.elim .inl (fun h=>h.2.elim)),fun loc o hl=>?_,fun loc ox ds hl=>?_⟩
 ·intro b o ho
  rw[hp.size]
  rcases ho with ho|⟨_,ho⟩
  ·have:=hW.qa b o ho;omega
  ·exact ho.elim
 ·intro b hb
  rw[hp.size];have iR:(if b=w.heap.size then bM.hb H.length else gh.κ b)≠.none:=hb
  split at iR
  ·rename_i e
   have:=hW.size
   omega
  ·have:=hW.ry b iR;omega
 ·obtain⟨v,h1,h2,h3⟩:=hW.aY g j x hx
  exact⟨v,(st.cell g j h3).trans h1,h2.mono st.S st.cell st.mp,st.S g j h3⟩
 ·rw[List.length_append,avX]
  by_cases aZ:loc<H.length
  ·rw[avd aZ] at hl
   have h:=(hW.boxes loc ox ds hl).mono st (n':=H.length+1) (Nat.le_succ _) id (fun _=>id)
   rw[st.ρ loc aZ];exact h
  ·rw[List.getElem?_append_right ah] at hl
   have hz:loc=H.length:=by
    grind
   subst hz;simp only[awR,avk,au4,bS.box.injEq] at hl;obtain⟨rfl,rfl⟩:=hl;have hρ:(gh.bK w.heap.size H.length).ρ H.length=w.heap.size:=by simp[Gh.bK]
   rw[hρ];refine⟨by simp[Gh.bK,Gh.alloc],?_,C,ty,hp.new,awn bX.1.symm,fun j v x hv hx=>?_⟩
   ·rintro o (ho|⟨_,ho⟩)
    ·have:=hW.qa _ o ho;omega
    ·exact ho
   ·obtain⟨h1,h2⟩:=bX.2 j v x hv hx
    exact⟨h2,.inl (h1.mono st (Nat.le_succ _))⟩
 ·by_cases aZ:loc<H.length
  ·rw[avd aZ] at hl
   exact hW.refs loc ox ds hl
  ·grind
 ·rw[List.length_append,avX]
  by_cases aZ:loc<H.length
  ·rw[avd aZ] at hl
   rw[st.ρ loc aZ];exact (hW.more loc o hl).mono st (Nat.le_succ _) id (fun _=>id)
  ·rw[List.getElem?_append_right ah] at hl
   have hz:loc=H.length:=by
    grind
   subst hz;simp only[awR,avk,au4] at hl;subst hl;trivial
 ·by_cases aZ:loc<H.length
  ·rw[avd aZ] at hl
   rw[st.ρ loc aZ];exact fun hf=>st.len _ _ _ (hW.types loc ox ds hl hf)
  ·rw[List.getElem?_append_right ah] at hl
   have hz:loc=H.length:=by
    grind
   subst hz;simp only[awR,avk,au4,bS.box.injEq] at hl;obtain⟨rfl,rfl⟩:=hl;have hρ:(gh.bK w.heap.size H.length).ρ H.length=w.heap.size:=by simp[Gh.bK]
   rw[hρ];exact fun _=>⟨C,(0,0),hp.new,bX.1⟩
def Out.bK(hW:a8 G base s.H gh w)(hF:FR L nt gh w a s)(hd:∀ k,d=some k->k<nt)(hp:fQ w w' (.cells C ty))(bX:sG gh s.H.length w C cs)
  (hr:cs.all (bf s.H.length)=true) :
  Out G base nt L gh w a s d (.ref s.H.length 0) (s.iK ⟨s.H++[.box ty cs],s.H.length⟩) (.pointer (some ⟨w.heap.size,0,none⟩)) (gh.bK w.heap.size s.H.length) w':=by
 have hρ:(gh.bK w.heap.size s.H.length).ρ s.H.length=w.heap.size:=by simp[Gh.bK]
 have hv:VR (gh.bK w.heap.size s.H.length) (s.H++[bS.box ty cs]).length w' (.pointer (some ⟨w.heap.size,0,none⟩)) (.ref s.H.length 0):=by
  have:=VR.ref (gh:=gh.bK w.heap.size s.H.length) (w:=w') (n:=(s.H++[bS.box ty cs]).length) s.H.length 0 ag
  rw[hρ] at this;exact this
 exact⟨hW.bK hp bX hr,hF.put (gS hW hp) (fun i=>⟨id,id,fun _=>id⟩) ag d hd (.dG hv),lq hW hp⟩
def Fi{x:AV}(h:lO v=some x):x.drop.plain=true:=by
 unfold lO at h
 split at h<;>first|(injection h with h;subst h;rfl)|cases h
theorem pD:∀ {vs:List Value} {xs:List AV},fy vs=some xs->∀ x,x∈xs->x.drop.plain=true
 | [],xs,h=>by simp[fy] at h;subst h;simp
 | v :: r,xs,h=>by
  simp only[fy,au3,au2] at h;obtain⟨x,hx,ys,hy,rfl⟩:=h;intro z hz
  rcases avs.1 hz with rfl|hz
  ·exact Fi hx
  ·exact pD hy z hz
theorem AA{t:TypeId}(h:im P t=some z):∀ x,x∈z->x.drop.plain=true:=by
 simp only[im,au3] at h
 grind [pD]
def yJ{x:AV}(h:x.drop.plain=true):bf loc x=true:=by
 cases x<;>first|exact h|(simp[AV.drop,AV.plain] at h;done)|skip
 rename_i f fs cs
 cases fs<;>cases cs<;>first|rfl|(simp[AV.drop,AV.plain] at h)
theorem re{x:AV}(h:bf loc x=true):bf loc x.drop=true:=by
 cases x<;>exact h
def Aq{t:TypeId}{i:TypeInfo}(hi:P.info? t=some i)(hz:i.zero=some zv)(w:World) :
  (Instr.alloc t true (.tuple #[])).run P w=.ok (.pointer (some ⟨w.heap.size,0,none⟩)) (w.alloc (.cells zv.cells t)):=by
 simp[Instr.alloc,zeroValue,typeInfo,hi,hz,newVar,newRow]
def Ru{t:TypeId}(h:(im P t).map (fun z=>cond kp (z.map oM) z)=some z):∀ x,x∈z->x.drop.plain=true:=by
 simp only[au2] at h;obtain⟨z0,h0,rfl⟩:=h;cases kp with
 | false=>exact AA h0
 | true =>
  intro x hx;obtain⟨y,hy,rfl⟩:=List.mem_map.1 hx;have:=AA h0 y hy
  unfold oM;split
  ·rfl
  ·exact this
def PM(hW:a8 G base s.H gh w)(hF:FR L nt gh w a s){t:TypeId}(ho:o.op=.alloc t)(hz:(im P t).map (fun z=>cond kp (z.map oM) z)=some z)(hd:∀ k,o.dst=some k->k<nt) :
  ∃ v' br w',wS P a o w v' w'/\Out G base nt L gh w a s o.dst (.ref s.H.length 0) (s.iK ⟨s.H++[.box t z],s.H.length⟩) v' br w':=by
 obtain⟨i,zv,hi,Qx,bX⟩:=sx (gh:=gh) (n:=s.H.length) (w:=w) hz;refine⟨_,_,_,.inl ?_,Out.bK hW hF hd (.alloc w (.cells zv.cells t)) bX ?_⟩
 ·simp[execOp,ho,Aq hi Qx]
 ·exact ava.2 fun x hx=>yJ (Ru hz x hx)
theorem acV(hW:a8 G base s.H gh w)(hF:FR L nt gh w a s){t:TypeId}(ho:o.op=.box t x)(hc:av nt x=some y)(iL:(y.eval G s.T).drop.cells=some cs)
  (ft:cs.all (bf s.H.length)=true) (hd:∀ k,o.dst=some k->k<nt) :
  ∃ v' br w',wS P a o w v' w'/\Out G base nt L gh w a s o.dst (.ref s.H.length 0) (s.iK ⟨s.H++[.box t (cs.map AV.drop)],s.H.length⟩) v' br w':=by
 have bX:=(se hW hF hc cs iL).dropped;refine⟨_,_,_,.inl ?_,Out.bK hW hF hd (.alloc w (.cells (a.eval x).cells t)) bX ?_⟩
 ·simp[execOp,ho,Instr.box,newVar,newRow]
 ·grind [re]
def PN(hW:a8 G base s.H gh w)(hF:FR L nt gh w a s){t:TypeId}(ho:o.op=.alloc t)(hz:(im P t).map (fun z=>cond kp (z.map oM) z)=some z)(hd:∀ k,o.dst=some k->k<nt/\k∈L) :
  ∃ v' br w',wS P a o w v' w'/\Out G base nt L gh w a s o.dst (.lbox s.gen z) { s with gen:=s.gen+1 } v' br w':=by
 obtain⟨i,zv,hi,Qx,bX⟩:=sx (gh:=gh) (n:=s.H.length) (w:=w) hz;have hp:=fQ.alloc w (.cells zv.cells t);have dk:=x9 o.dst;have st:=jn hW hp dk (fun _=>False) s.H.length
 have JM:=hF.grown (H':=s.H) (lo':=s.lo) st (fun i=>⟨id,id,fun _=>id⟩) (Nat.le_refl _)
 have nW:=hW.alloc hp dk (fun _=>False) (fun _ _ h=>h.elim)
 refine⟨.pointer (some ⟨w.heap.size,0,none⟩),_,_,.inl ?_,nW,JM.Vx (gen':=s.gen+1) (Nat.le_succ _) (fun b hb=>nW.cB b hb) o.dst (fun k hk=>(hd k hk).1) (.inr ⟨⟨s.gen,Nat.le_refl _,rfl⟩,fun k hk=>(hd k hk).2⟩) ?_,o8 hW hp dk _ _⟩
 ·simp[execOp,ho,Aq hi Qx]
 ·intro k hk
  refine⟨aw5 _,w.heap.size,rfl,?_⟩;rw[hk] at st ⊢;refine⟨by simp[Gh.alloc,Pr],?_,zv.cells,t,hp.new,awn bX.1.symm,fun j v x hv hx=>?_⟩
  ·rintro o (ho|⟨_,ho⟩)
   ·have:=hW.qa _ o ho;omega
   ·exact ho
  ·obtain⟨h1,h2⟩:=bX.2 j v x hv hx
   exact⟨h2,.inl (h1.mono st (Nat.le_refl _))⟩
def XB(hW:a8 G base s.H gh w)(hF:FR L nt gh w a s){t:TypeId}(ho:o.op=.box t x)(hc:av nt x=some y)(iL:(y.eval G s.T).drop.cells=some cs)(hd:∀ k,o.dst=some k->k<nt/\k∈L) :
  ∃ v' br w',wS P a o w v' w'/\Out G base nt L gh w a s o.dst (.lbox s.gen (cs.map AV.drop)) { s with gen:=s.gen+1 } v' br w':=by
 have bX:=(se hW hF hc cs iL).dropped;have hp:=fQ.alloc w (.cells (a.eval x).cells t);have dk:=x9 o.dst;have st:=jn hW hp dk (fun _=>False) s.H.length
 have JM:=hF.grown (H':=s.H) (lo':=s.lo) st (fun i=>⟨id,id,fun _=>id⟩) (Nat.le_refl _)
 have nW:=hW.alloc hp dk (fun _=>False) (fun _ _ h=>h.elim)
 refine⟨.pointer (some ⟨w.heap.size,0,none⟩),_,_,.inl ?_,nW,JM.Vx (gen':=s.gen+1) (Nat.le_succ _) (fun b hb=>nW.cB b hb) o.dst (fun k hk=>(hd k hk).1) (.inr ⟨⟨s.gen,Nat.le_refl _,rfl⟩,fun k hk=>(hd k hk).2⟩) ?_,o8 hW hp dk _ _⟩
 ·simp[execOp,ho,Instr.box,newVar,newRow]
 ·intro k hk
  refine⟨aw5 _,w.heap.size,rfl,?_⟩;rw[hk] at st ⊢;refine⟨by simp[Gh.alloc,Pr],?_,(a.eval x).cells,t,hp.new,awn bX.1.symm,fun j v x hv hx=>?_⟩
  ·rintro o (ho|⟨_,ho⟩)
   ·have:=hW.qa _ o ho;omega
   ·exact ho
  ·obtain⟨h1,h2⟩:=bX.2 j v x hv hx
   exact⟨h2,.inl (h1.mono st (Nat.le_refl _))⟩
theorem CF(hW:a8 G base s.H gh w)(hF:FR L nt gh w a s){t e:TypeId}{n:Nat}
  (ho:o.op=.build t parts) {kp:Bool} (hz:(im P t).map (fun z=>cond kp (z.map oM) z)=some z) (hu:P.underlying t=some (.array n e)) (hs:fC P e=some sz) (hp:lM nt sz parts.toList=some ps)
  (he:fw z (ps.map fun p=>(p.1,p.2.1,(p.2.2.eval G s.T).drop))=some Z) :
  ∃ v,(execOp a.eval o).run P w=.ok (.value v) w/\oZ gh s.H.length nt w s.T s.gen (gP a) v (.agg Z):=by
 obtain⟨i,zv,hi,Qx,bX⟩:=sx (gh:=gh) (n:=s.H.length) (w:=w) hz;obtain⟨ie,hie,TJ⟩:=oU hs;have inv:∀ (l:List (Nat × Operand)) (ps:List (Nat × Nat × aE)),lM nt sz l=some ps->l.length=ps.length /\
   ∀ (j:Nat) (p:Nat × Operand) (q:Nat × Nat × aE),l[j]?=some p->ps[j]?=some q->q.1=p.1*sz/\q.2.1=sz/\av nt p.2=some q.2.2:=by
  intro l
  induction l with
  | nil=>intro ps h;simp[lM] at h;subst h;exact⟨rfl,fun j p q h=>by simp at h⟩
  | cons p l ih =>
   intro ps h;obtain⟨k,x⟩:=p;simp only[lM,au3,au2] at h
   grind
 obtain⟨hl,hinv⟩:=inv _ _ hp;obtain⟨C',hf,yO⟩:=CI (gh:=gh) (w:=w) (n:=s.H.length) (place:=fun i=>some (i*ie.size,ie.size)) ((parts.map fun p=>(p.1,a.eval p.2)).toList) (ps.map fun p=>(p.1,p.2.1,(p.2.2.eval G s.T).drop)) zv.cells z Z bX he (cY hl) (by
  intro j p q hp hq;simp only[axv,List.getElem?_map,au2] at hp hq;obtain⟨p0,Lj,rfl⟩:=hp;obtain⟨q0,hq0,rfl⟩:=hq;obtain⟨h1,h2,hc⟩:=hinv j p0 q0 Lj hq0;exact⟨by simp[h1,h2,TJ],se hW hF hc⟩)
 have hb:P.built t (parts.map fun p=>(p.1,a.eval p.2)).toList=some C':=by
  unfold Program.built;rw[hi,hu];simp only[Qx,hie];exact hf
 refine⟨.agg C',by simp[execOp,ho,run_build w t _ C' hb],.dG (.agg _ _ yO.1 (fun j v hj=>?_) (fun j v x hv hx=>(yO.2 j v x hv hx).1))⟩
 have aZ:j<Z.length:=by rw[<- yO.1];exact (avc.1 hj).1
 exact (yO.2 j v _ hj (au5 aZ)).2
theorem Rv{t:TypeId}(bX:sG gh H.length w zv.cells z)(ft:∀ x,x∈z->x.drop.plain=true)(hz:z.length=sz)(Ab:0<sz) :
  jz gh.S w sz ((Array.range (len*sz)).map (zv.cells[· % zv.cells.size]!)) (List.replicate len (z.map AV.drop)):=by
 have kj:zv.cells.size=sz:=by rw[bX.1,hz]
 refine⟨ag,fun i r hi=>?_,fun i j r x hi hj=>?_⟩
 ·grind
 ·rw[List.getElem?_replicate] at hi
  split at hi
  ·rename_i aZ
   injection hi with hi;subst hi
   simp only[List.getElem?_map,au2] at hj;obtain⟨y,hy,rfl⟩:=hj;have hj:j<sz:=by rw[<- hz];exact (au7.1 hy).1
   have Bq:j<zv.cells.size:=ah;have aip:(i*sz+j) % zv.cells.size=j:=by rw[kj,Nat.mul_add_mod',Nat.mod_eq_of_lt hj]
   refine⟨zv.cells[j],?_,?_⟩
   ·grind [xE]
   ·have hv:=avh Bq
    exact (VR.dropped (bX.2 j _ y hv hy).1).mh (ft y (avb hy))
  ·cases hi
theorem vg{n:Nat}(h:k<n*sz):k / sz<n/\k % sz<sz/\k / sz*sz+k % sz=k:=by
 have kj:0<sz:=by
  grind
 refine⟨Nat.div_lt_of_lt_mul (by rw[axW];exact h),Nat.mod_lt _ kj,?_⟩
 have:=Nat.div_add_mod k sz
 grind
def p9{A:Array Value}(h:jz S w sz A E)(ri:nP isB E=true)(hB:isB=true->ty=jo)(hk:k<E.length*sz)
  (hc:A[k]?=some (.int .u8 m)):ty=jo:=by
 cases isB with
 | true=>exact hB rfl
 | false =>
  exfalso;obtain⟨h1,h2,h3⟩:=vg hk;have hr:=au5 h1;obtain⟨x,hx⟩:∃ x,E[k / sz][k % sz]?=some x:=⟨_,au5 (show k % sz<E[k / sz].length by rw[h.2.1 _ _ hr];exact h2)⟩
  obtain⟨v,hv,hp⟩:=h.2.2 _ _ _ _ hr hx;rw[h3,hc] at hv;injection hv with hv
  subst hv;have hn:=ri;have h4:=ava.1 (ava.1 hn _ (avb hr)) _ (avb hx);cases hp<;>simp at h4
theorem A8(hW:a8 G base s.H gh w)(hF:FR L nt gh w a s){t e:TypeId}{ps:List (Nat × aE)}
  (hu:P.underlying t=some (.slice e)) (hs:fC P e=some sz) (hz:im P e=some z) (hp:mH nt parts.toList=some ps) (HO:len*sz<=16777216) (Ub:z.length=sz) (Ab:0<sz)
  (he:cN sz (List.replicate len (z.map AV.drop)) (ps.map fun p=>(p.1,(p.2.eval G s.T).drop))=some E) :
  ∃ C',(Instr.buildSlice t len (parts.map fun p=>(p.1,a.eval p.2))).run P w=.ok (.slice (some ⟨w.heap.size,0,none⟩) len len) (w.alloc (.cells C' e))/\jz gh.S w sz C' E/\E.length=len:=by
 obtain⟨i,zv,hi,Qx,bX⟩:=Lc (gh:=gh) (n:=s.H.length) (w:=w) hz;obtain⟨ie,hie,TJ⟩:=oU hs;rw[hi] at hie;injection hie with hie;subst hie
 have inv:∀ (l:List (Nat × Operand)) (ps:List (Nat × aE)),mH nt l=some ps->l.length=ps.length /\
   ∀ (j:Nat) (p:Nat × Operand) (q:Nat × aE),l[j]?=some p->ps[j]?=some q->q.1=p.1/\av nt p.2=some q.2:=by
  intro l
  induction l with
  | nil=>intro ps h;simp[mH] at h;subst h;exact⟨rfl,fun j p q h=>by simp at h⟩
  | cons p l ih =>
   intro ps h;obtain⟨k,x⟩:=p;simp only[mH,au3,au2] at h
   grind
 obtain⟨hl,hinv⟩:=inv _ _ hp;obtain⟨C',hf,dw⟩:=Ga (w:=w) (S:=gh.S) (sz:=sz) ((parts.map fun p=>(p.1,a.eval p.2)).toList) (ps.map fun p=>(p.1,(p.2.eval G s.T).drop)) _ _ E (Rv (t:=e) (len:=len) bX (AA hz) Ub Ab) he (cY hl) (by
  intro j p q hp hq;simp only[axv,List.getElem?_map,au2] at hp hq;obtain⟨p0,Lj,rfl⟩:=hp;obtain⟨q0,hq0,rfl⟩:=hq;obtain⟨h1,hc⟩:=hinv j p0 q0 Lj hq0;exact⟨h1.symm,fun cs iL=>SQ (se hW hF hc) iL⟩)
 have Gm:E.length=len:=by
  have:∀ (ip:List (Nat × AV)) (es E:List (List AV)),cN sz es ip=some E->E.length=es.length:=by
   intro ip
   induction ip with
   | nil=>intro es E h;simp[cN] at h;rw[h]
   | cons q ip ih =>
    intro es E h;obtain⟨i,v⟩:=q;simp only[cN] at h
    grind
  rw[this _ _ _ he];simp
 have dO:(Instr.buildSlice t len (parts.map fun p=>(p.1,a.eval p.2))).run P w=.ok (.slice (some ⟨w.heap.size,0,none⟩) len len) (w.alloc (.cells C' e)):=by
  by_cases h0:len*sz=0
  ·have aik:len=0:=by rcases Nat.mul_eq_zero.1 h0 with h|h<;>omega
   subst aik;have hE:ps=[]:=by
    cases hps:ps with
    | nil=>rfl
    | cons q r =>
     rw[hps] at he;simp only[avm,cN,axT,List.length_nil] at he;split at he
     ·cases he
     ·obtain⟨h,_⟩:=al he
      simp[avn] at h
   have gW:parts.toList=[]:=by
    have:parts.toList.length=0:=by rw[hl,hE];rfl
    exact avl.1 this
   have hpa:parts=#[]:=cY gW;subst hpa;have Yi:Array.range 0=#[]:=rfl;have Qd:C'=#[]:=by simpa [Instr.fill,Yi] using hf.symm
   subst Qd;simp[Instr.buildSlice,run_underlying hu,sizeOf,typeInfo,hi,Instr.fill,newRow,Yi]
  ·exact run_buildSlice w t e len _ C' i zv hu hi Qx (by rw[TJ];omega) (by rw[TJ];exact h0) (by rw[TJ];exact hf)
 exact⟨C',dO,dw,Gm⟩
def L7(hW:a8 G base s.H gh w)(hF:FR L nt gh w a s){t e:TypeId}{ps:List (Nat × aE)}
  (ho:o.op=.buildSlice t len parts) (hu:P.underlying t=some (.slice e)) (hs:fC P e=some sz) (hz:im P e=some z) (hp:mH nt parts.toList=some ps)
  (ri:nP isB E=true) (TK:isB=true->e=jo) (HO:len*sz<=16777216) (Ub:z.length=sz) (Ab:0<sz)
  (he:cN sz (List.replicate len (z.map AV.drop)) (ps.map fun p=>(p.1,(p.2.eval G s.T).drop))=some E) (hd:∀ k,o.dst=some k->k<nt) :
  ∃ v' br w',wS P a o w v' w'/\Out G base nt L gh w a s o.dst (.slice E true) s v' br w':=by
 obtain⟨C',dO,dw,Gm⟩:=A8 (P:=P) hW hF hu hs hz hp HO Ub Ab he;have oK:=fQ.alloc w (.cells C' e);have dk:=qS o.dst;have Md:=dw.slice (gh:=gh) rfl oK (p:=Wi o.dst) hW.qa (fun j _=>rfl) (q:=fun _=>True) (fun _ _=>trivial) E.length (Nat.le_refl _)
 have hv:VR (gh.alloc w.heap.size (Wi o.dst) fun _=>True) s.H.length (w.alloc (.cells C' e)) (.slice (some ⟨w.heap.size,0,none⟩) E.length E.length) (.slice E true):=.full _ _ _ Md trivial
 rw[Gm] at hv;have st:=jn hW oK dk (fun _=>True) s.H.length
 have JM:=hF.grown (H':=s.H) (lo':=s.lo) st (fun i=>⟨id,id,fun _=>id⟩) (Nat.le_refl _)
 have nW:=hW.alloc oK dk (fun _=>True) (fun k m _ hc=>by
  rw[cell_of_row _ _ k _ _ _ oK.new] at hc;have hk:k<E.length*sz:=by rw[<- dw.1];exact (avc.1 hc).1
  have:=p9 dw ri TK hk hc
  subst this;exact⟨C',(0,0),oK.new⟩)
 refine⟨.slice (some ⟨w.heap.size,0,none⟩) len len,_,_,.inl ?_,nW,JM.Vx (gen':=s.gen) (Nat.le_refl _) (fun b hb=>nW.cB b hb) o.dst hd (.inl rfl) (fun k hk=>?_),o8 hW oK dk _ _⟩
 ·have:(parts.map fun x=>(x.1,a.eval x.2))=parts.map fun p=>(p.1,a.eval p.2):=rfl
  simp[execOp,ho,dO]
 ·exact Wl (.inl hv)
end
end
section
section
variable {P:Program}{G:Nat->List AV}{base nt:Nat}{L:List Nat}{gh:Gh}{w w' : World}{a:Act}{s:AS}{H:ae}
def ze(hW:a8 G base s.H gh w)(hF:FR L nt gh w a s){t:Nat}(ht:t<nt)(hT:s.T t=.slice e own)(p:bM)(hp:p≠.outer) :
  ∃ br,a8 G base s.H br w/\FR L nt br w a (s.cx t (.slice e false))/\Ext s.H.length gh w br w/\Step (fun r=>r=.sl t) s.H.length gh w br w/\CR br s.H.length w p (gP a t) (.slice e own):=by
 have gJ:=fun b hb=>hW.cB (gh:=gh) b hb
 have h:CR gh s.H.length w (.sl t) (gP a t) (.slice e own):=by
  have h:=hF.slot t ht;rw[hT] at h;exact h
 rcases h with hv|⟨e',heq,Md,b,cap,C,ty,lo,hi,sz,js,hk,he,hb,hC,hr,hl,hh,hS⟩
 ·refine⟨gh,hW,?_,Ext.refl _ _ _ gJ,Step.refl _ _ _ _ gJ,.inl hv⟩
  exact hF.cx (touch:=fun _=>False) (H':=s.H) (lo':=s.lo) (Step.refl _ _ _ _ gJ) (Nat.le_refl _) (fun i _=>⟨id,id,fun _=>id⟩) (.inr rfl) (fun _=>.inl hv.dropped)
 ·injection heq with h1 h2
  subst h1 h2;have aZ:=(avc.1 hb).1;have st:=mI hW aZ p s.H.length;rw[hk] at st;have hn:gh.κ b≠.none:=by rw[hk];simp
  refine⟨gh.tZ b p,Mc hW aZ p hn (by rw[hk];simp),?_,yC hW aZ hp hn (by rw[hk];simp) _,st,.inr ⟨e,rfl,Md,b,cap,C,ty,lo,hi,sz,js,by simp[Gh.tZ],he,hb,hC,hr,hl,hh,hS⟩⟩
  refine hF.cx (H':=s.H) (lo':=s.lo) st (Nat.le_refl _) (fun i hi=>⟨ag,cY hi,ag⟩) (.inr rfl) (fun _=>?_)
  show CR (gh.tZ b p) s.H.length w (.sl t) (gP a t) (.slice e false)
  exact .inl (.plain _ _ Md)
def Out.of{s1:AS}{x:AV}(hW:a8 G base s1.H br w')(hF:FR L nt br w' a s1)(hE:Ext s.H.length gh w br w')(hg:s1.gen<=gen')(hd:∀ k,d=some k->k<nt)
  (hx:fz x=none\/((∃ g,s1.gen<=g/\fz x=some g)/\∀ k,d=some k->k∈L)) (hv:∀ k,d=some k->SR br s1.H.length nt w' s1.T gen' (gP a) k v x) :
  Out G base nt L gh w a s d x { s1 with gen:=gen' } v br w' :=
 ⟨hW,hF.Vx hg (fun b hb=>hW.cB b hb) d hd hx hv,hE⟩
theorem kR{t:Nat}(h:av nt x=some (.tmp t)):x=.tmp t/\t<nt:=by
 cases x with
 | tmp k =>
  simp only[av] at h;rcases awg (Nat.blt k nt) with hb|hb<;>rw[hb] at h<;>simp at h
  simp_all
 | const v =>
  simp only[av,au2] at h
  grind
 | global g=>simp[av] at h
 | func f=>simp[av] at h
theorem JI(hW:a8 G base s.H gh w)(hF:FR L nt gh w a s){g:Nat}(hb:b<nt)(hT:s.T b=.lsl g e)(ri:ng e=true)(p:bM)(hp:p≠.outer) :
  ∃ br,a8 G base s.H br w/\FR L nt br w a (s.cx b (.slice e false))/\Ext s.H.length gh w br w/\CR br s.H.length w p (gP a b) (.slice e true):=by
 have gJ:=fun b hb=>hW.cB (gh:=gh) b hb
 have iC:(gP a b).oneCell'=true:=by obtain⟨ad,cap,hv,_⟩:=qe hF hb hT;rw[hv];rfl
 obtain⟨ad,cap,hV,⟨rfl,rfl,J4⟩|⟨k,C,ty,sz,dk,rfl,hκ,hS,hk,hC,hl,hr,iL⟩⟩:=qe hF hb hT
 ·have hp:PR gh.S w (.slice ad 0 0) (.slice [] false):=by
   cases ad with
   | none=>exact .dF
   | some ad =>
    obtain⟨b',o',sp⟩:=ad;have:=(J4 _ rfl).1
    simp only at this;subst this;exact .slice b' o' 0 0 0 [] (fun _ _=>undef) rfl (Nat.le_refl _) (fun i r h=>by simp at h) (fun i j r x h=>by simp at h) (fun i j r x h=>by simp at h)
  refine⟨gh,hW,?_,Ext.refl _ _ _ gJ,.inl ?_⟩
  ·exact hF.cx (touch:=fun _=>False) (H':=s.H) (lo':=s.lo) (Step.refl _ _ _ _ gJ) (Nat.le_refl _) (fun i _=>⟨id,id,fun _=>id⟩) (.inr rfl) (fun _=>.inl (.plain _ _ (by rw[hV];exact hp)))
  ·rw[hV]
   exact .full ad 0 [] hp trivial
 ·have mJ:∀ o,gh.S k o->C[o]?=C[o]?:=fun _ _=>rfl
  have hn:gh.κ k≠.none:=by rw[hκ];simp
  have Fw:∀ j m,j<e.length*sz->C[j]?=some (.int .u8 m)->ty=jo:=by
   intro j m hj hc;have dw:jz gh.S w sz (C.toList.take (e.length*sz)).toArray e:=by
    have hle:e.length*sz<=C.size:=by rw[hC];exact avg _ hl
    refine⟨dq,hr,fun i j r x hi hj=>?_⟩
    grind [xE]
   refine p9 (isB:=false) (m:=m) dw ri (fun h=>by cases h) hj ?_
   grind
  have st:=sj hW hk rfl (fun o=>o<e.length*sz) mJ p s.H.length
  have hE:=B4 hW hk rfl (fun o=>o<e.length*sz) mJ (p:=p) hp hn (by rw[hκ];simp) s.H.length
  have nW:=OY hW hk rfl (fun o=>o<e.length*sz) mJ Fw p hn (by rw[hκ];simp)
  have T6:=setRow_self w k C ty (0,0) hk;rw[T6] at hE nW st;rw[hκ] at st;have slc:∀ S' : Nat->Nat->Prop,(∀ o,o<e.length*sz->S' k o)->(∀ b o,gh.S b o->S' b o)->PR S' w (gP a b) (.slice e false):=by
   intro S' HM Yb;rw[hV];have key:∀ (i j:Nat) (r:List AV) (x:AV),e[i]?=some r->r[j]?=some x->C[i*sz+j]?=some (C.getD (i*sz+j) undef)/\PR gh.S w (C.getD (i*sz+j) undef) x/\i*sz+j<e.length*sz:=by
    intro i j r x hi hj;obtain⟨u,hu,hp⟩:=iL i j r x hi hj;have aZ:=(avc.1 hu).1;have:C.getD (i*sz+j) undef=u:=by
     simp_all
    rw[this];exact⟨hu,hp,xE (au7.1 hi).1 (by rw[<- hr i r hi];exact (au7.1 hj).1)⟩
   refine .slice k 0 e.length cap sz e (fun i j=>C.getD (i*sz+j) undef) rfl hl hr (fun i j r x hi hj=>?_) (fun i j r x hi hj=>?_)
   ·obtain⟨h1,h2,h3⟩:=key i j r x hi hj
    refine⟨by have:=HM _ h3;simpa using this,?_,h2.gb⟩
    rw[avA,cell_of_row w k _ C ty _ hk];exact h1
   ·exact (key i j r x hi hj).2.1.mono Yb (fun _ _ _=>rfl) (fun _ _ _ _ h=>h)
  refine⟨_,nW,?_,hE,.inr ⟨e,rfl,?_,k,cap,C,ty,0,0,sz,hV,ag,dk,hk,hC,hr,hl,avB _,?_⟩⟩
  ·exact hF.cx (H':=s.H) (lo':=s.lo) st (Nat.le_refl _) (fun i hi=>⟨cY hi,ag,ag⟩) (.inr rfl) (fun _=>.inl (.plain _ _ (slc _ (fun o h=>.inr ⟨rfl,h⟩) (fun b o h=>.inl h))))
  ·grind
  ·grind
def Hy(hW:a8 G base s.H gh w)(hF:FR L nt gh w a s){take obj:Bool}{z:AV}(ho:o.op=.move x\/o.op=.assign x)(hc:av nt x=some y)
  (he:rN G s take obj y=some (z,some s')) (hd:∀ k,o.dst=some k->k<nt) (hL:obj=true->∀ k,o.dst=some k->k∈L) :
  ∃ v' br w',wS P a o w v' w'/\Out G base nt L gh w a s o.dst z s' v' br w':=by
 have dO:(execOp a.eval o).run P w=.ok (.value (a.eval x)) w:=by rcases ho with ho|ho<;>simp[execOp,ho]
 cases y<;>simp only[rN] at he<;>try (cases he;done)
 rename_i t;obtain⟨rfl,ht⟩:=kR hc
 change (execOp a.eval o).run P w=.ok (.value (gP a t)) w at dO
 split at he
 ·cases he
 ·rename_i g e hT
  cases take
  ·cases he
  simp only[cond_true] at he;cases hob:obj with
  | false =>
   rw[hob] at he;simp only[cond_false,MX] at he;obtain⟨ri,rfl,rfl⟩:=he;obtain⟨br,h1,h2,h3,h4⟩:=JI hW hF ht hT ri (Wi o.dst) (qS _);refine⟨_,br,w,.inl dO,Out.of (s1:=s.cx t (.slice e false)) (gen':=s.gen) h1 h2 h3 (Nat.le_refl _) hd (.inl rfl) (fun k hk=>?_)⟩
   rw[hk] at h4;exact h4
  | true =>
  rw[hob] at he;simp only[cond_true,MX] at he;obtain⟨rfl,rfl⟩:=he;have bX:=qe hF ht hT;have gJ:=fun b hb=>hW.cB (gh:=gh) b hb
  have iC:(gP a t).oneCell'=true:=by obtain⟨ad,cap,hv,_⟩:=bX;rw[hv];rfl
  have key:∃ br,a8 G base s.H br w/\FR L nt br w a (s.cx t .any)/\Ext s.H.length gh w br w/\uk br w (Pr o.dst) (gP a t) e:=by
   obtain⟨ad,cap,hv,bX⟩:=bX
   rcases bX with hz|⟨b,C,ty,sz,adQ,ha,hk,hS,hb,hC,hl,hr,iL⟩
   ·refine⟨gh,hW,?_,Ext.refl _ _ _ gJ,ad,cap,hv,.inl hz⟩
    exact hF.cx (touch:=fun _=>False) (H':=s.H) (lo':=s.lo) (Step.refl _ _ _ _ gJ) (Nat.le_refl _) (fun i _=>⟨id,id,fun _=>id⟩) (.inr rfl) (fun _=>.inl (.plain _ _ (.any _ iC)))
   ·have aZ:=(avc.1 hb).1
    have st:=mI hW aZ (Pr o.dst) s.H.length;rw[hk] at st;have hn:gh.κ b≠.none:=by rw[hk];simp
    refine⟨gh.tZ b (Pr o.dst),Mc hW aZ _ hn (by rw[hk];simp),?_,yC hW aZ (x9 _) hn (by rw[hk];simp) _,ad,cap,hv,.inr ⟨b,C,ty,sz,adQ,ha,by simp[Gh.tZ],hS,hb,hC,hl,hr,iL⟩⟩
    exact hF.cx (H':=s.H) (lo':=s.lo) st (Nat.le_refl _) (fun i hi=>⟨cY hi,ag,ag⟩) (.inr rfl) (fun _=>.inl (.plain _ _ (.any _ iC)))
  obtain⟨br,h1,h2,h3,h4⟩:=key;refine⟨_,br,w,.inl dO,Out.of (s1:=s.cx t .any) (gen':=s.gen+1) h1 h2 h3 (Nat.le_succ _) hd (.inr ⟨⟨s.gen,Nat.le_refl _,rfl⟩,hL hob⟩) (fun k hk=>⟨aw5 _,?_⟩)⟩
  rw[hk] at h4;exact h4
 ·rename_i e own hT
  simp only[au4,au8] at he;obtain⟨rfl,he⟩:=he;cases Ou:(take&&own) with
  | false=>rw[Ou] at he;cases he
  | true =>
   rw[Ou] at he;simp only[cond_true,au4] at he;subst he;obtain⟨br,h1,h2,h3,_,h4⟩:=ze hW hF ht hT (Wi o.dst) (qS _);refine⟨_,br,w,.inl dO,Out.of (s1:=s.cx t (.slice e false)) (gen':=s.gen) h1 h2 h3 (Nat.le_refl _) hd (.inl rfl) (fun k hk=>?_)⟩
   rw[hk] at h4;have adV:own=true:=by cases take<;>simp_all
   subst adV;exact h4
 ·cases he
 ·cases he
theorem xD : (cM off cs)[j]?=if j=off then (cs[j]?).map AV.drop else cs[j]?:=by
 unfold cM
 grind
def FX{q:Nat->bM}{n:Nat}(hW:a8 G base H gh w)(hB:iT gh n w b p q cs){v:AV}(hv:cs[off]?=some v)(r:bM)(hr:r≠.outer)(hq:∀ j,q j≠.none/\q j≠.outer/\q j≠p)(amP:∀ i j,q i=q j->i=j)(m:Nat) :
  ∃ br u,(∀ b o,br.S b o->gh.S b o)/\Step (fun o=>o=q off) m gh w br w/\Ext m gh w br w/\(∀ b o,br.S b o->b<w.heap.size)/\(∀ b,br.κ b≠.none->base<=b/\b<w.heap.size)/\iT br n w b p q (cM off cs) /\
   w.cell? ⟨b,off,none⟩=some u/\u.oneCell'=true/\CR br n w r u v:=by
 have gJ:=fun b hb=>hW.cB (gh:=gh) b hb
 obtain⟨hκ,hS,C,ty,hb,hC,iL⟩:=hB;have og:=(au7.1 hv).1;have aiu:off<C.size:=ah;have hu:=avh aiu;have di:w.cell? ⟨b,off,none⟩=some C[off]:=by rw[cell_of_row w b off C ty _ hb,hu]
 obtain⟨h1,h2⟩:=iL off _ v hu hv
 rcases h2 with Ua|⟨e,rfl,Md,b',cap,C',ox,lo,hi,sz,js,hk,he,iR,Qd,IU,hl,hh,hS'⟩
 ·refine⟨gh,C[off],fun _ _ h=>h,Step.refl _ _ _ _ gJ,Ext.refl _ _ _ gJ,hW.qa,hW.ry,⟨hκ,hS,C,ty,hb,by simp[cM];exact hC,fun j u x Gk Br=>?_⟩,di,h1,.inl Ua⟩
  rw[xD] at Br;split at Br
  ·simp only[au2] at Br
   obtain⟨y,hy,rfl⟩:=Br;obtain⟨k1,k2⟩:=iL j u y Gk hy;exact⟨k1,.inl k2.dropped⟩
  ·exact iL j u x Gk Br
 ·have aZ:=(avc.1 iR).1
  have st:=mI hW aZ r m;rw[hk] at st;have dk:b≠b':=by rintro rfl;rw[hκ] at hk;exact (hq off).2.2 hk.symm
  have hn:gh.κ b'≠.none:=by rw[hk];exact (hq off).1
  refine⟨gh.tZ b' r,C[off],fun _ _ h=>h,st,yC hW aZ hr hn (by rw[hk];exact (hq off).2.1) m,hW.qa,?_,⟨by simp[Gh.tZ,dk,hκ],hS,C,ty,hb,by simp[cM];exact hC,fun j u x Gk Br=>?_⟩,di,h1,
   .inr ⟨e,rfl,Md,b',cap,C',ox,lo,hi,sz,js,by simp[Gh.tZ],he,iR,Qd,IU,hl,hh,hS'⟩⟩
  ·intro b1 Ft
   have kO:(if b1=b' then r else gh.κ b1)≠.none:=Ft
   split at kO
   ·rename_i e;rw[e];exact hW.ry b' hn
   ·exact hW.ry b1 kO
  ·have wK:=mI hW aZ r n
   rw[hk] at wK;rw[xD] at Br;split at Br
   ·rename_i hj
    subst hj;rw[hv] at Br;simp only[ave,au4] at Br;subst Br;rw[hu] at Gk;injection Gk with Gk;subst Gk
    exact⟨h1,.inl (.plain _ _ Md)⟩
   ·rename_i hj
    obtain⟨k1,k2⟩:=iL j u x Gk Br;exact⟨k1,k2.mono wK (Nat.le_refl _) (fun e=>hj (amP _ _ e))⟩
theorem a8.Nk(hW:a8 G base H gh w)(st:Step touch H.length gh w br w'){cs0:List AV}(hH:H[loc]?=some (.box ty cs0))(ht:∀ l,l≠loc->¬ touch (.hb l)/\∀ j,¬ touch (.hs l j))
  (hs:∀ b o,br.S b o->b<w'.heap.size) (hk:∀ b,br.κ b≠.none->base<=b/\b<w'.heap.size) {cs:List AV} (hB:iT br H.length w' (br.ρ loc) (.hb loc) (fun j=>.hs loc j) cs) (hr:cs.all (bf loc)=true) (kZ:∀ b o,br.S b o->gh.S b o) (hlen:cs.length=cs0.length) :
  a8 G base (H.set loc (.box ty cs)) br w':=by
 have aZ:=(au7.1 hH).1;refine⟨avz hW.size st.size,hs,hk,fun g j x hx=>?_,fun l ox ds hl=>?_,fun l ox ds hl=>?_,fun g hg=>(hW.BA g hg).imp fun ty h=>st.len g ty _ h,hW.mw st (fun b o m h=>.inl (kZ b o h)),fun l o hl=>?_,fun l ox ds hl=>?_⟩
 ·obtain⟨v,h1,h2,h3⟩:=hW.aY g j x hx
  exact⟨v,(st.cell g j h3).trans h1,h2.mono st.S st.cell st.mp,st.S g j h3⟩
 ·rw[List.length_set]
  rw[av2] at hl;split at hl
  ·grind
  ·rename_i e
   have h:=(hW.boxes l ox ds hl).mono st (Nat.le_refl _) (ht l (awr e)).1 (ht l (awr e)).2;rw[st.ρ l (au7.1 hl).1];exact h
 ·rw[av2] at hl
  split at hl
  ·grind
  ·exact hW.refs l ox ds hl
 ·rw[List.length_set]
  rw[av2] at hl;split at hl
  ·rename_i e
   subst e;injection hl with hl
   subst hl;trivial
  ·rename_i e
   rw[st.ρ l (au7.1 hl).1];exact (hW.more l o hl).mono st (Nat.le_refl _) (ht l (awr e)).1 (ht l (awr e)).2
 ·rw[av2] at hl
  split at hl
  ·rename_i e
   subst e;simp only[au4,bS.box.injEq] at hl;obtain⟨rfl,rfl⟩:=hl;intro hf;have hm:=hW.types loc _ cs0 hH hf;rw[st.ρ loc aZ,hlen];exact st.len _ _ _ hm
  ·rename_i e
   rw[st.ρ l (au7.1 hl).1];exact fun hf=>st.len _ _ _ (hW.types l ox ds hl hf)
theorem a8.B5(hW:a8 G base H gh w)(st:Step touch H.length gh w br w')(aZ:loc<H.length)(ht:∀ l,l≠loc->¬ touch (.hb l)/\∀ j,¬ touch (.hs l j))
  (hs:∀ b o,br.S b o->b<w'.heap.size) (hk:∀ b,br.κ b≠.none->base<=b/\b<w'.heap.size) {o:bS} (Fw:∀ ty cs,o≠.box ty cs) (hM:wR br H.length w' (br.ρ loc) loc o)
  (kZ:∀ b o m,br.S b o->gh.S b o\/(w'.cell? ⟨b,o,none⟩=some (.int .u8 m)->∃ C fr,w'.heap[b]?=some (.cells C jo fr))):a8 G base (H.set loc o) br w':=by
 have box:∀ {l:Nat} {ty:TypeId} {ds:List AV},(H.set loc o)[l]?=some (.box ty ds)->l≠loc/\H[l]?=some (.box ty ds):=by
  grind
 refine⟨avz hW.size st.size,hs,hk,fun g j x hx=>?_,fun l ox ds hl=>?_,fun l ox ds hl=>?_,fun g hg=>(hW.BA g hg).imp fun ty h=>st.len g ty _ h,hW.mw st kZ,fun l o' hl=>?_,fun l ox ds hl hf=>?_⟩
 ·obtain⟨v,h1,h2,h3⟩:=hW.aY g j x hx
  exact⟨v,(st.cell g j h3).trans h1,h2.mono st.S st.cell st.mp,st.S g j h3⟩
 ·obtain⟨dk,hl⟩:=box hl
  rw[List.length_set,st.ρ l (au7.1 hl).1];exact (hW.boxes l ox ds hl).mono st (Nat.le_refl _) (ht l dk).1 (ht l dk).2
 ·exact hW.refs l ox ds (box hl).2
 ·rw[List.length_set]
  rw[av2] at hl;split at hl
  ·grind
  ·rename_i e
   rw[st.ρ l (au7.1 hl).1];exact (hW.more l o' hl).mono st (Nat.le_refl _) (ht l (awr e)).1 (ht l (awr e)).2
 ·obtain⟨dk,hl⟩:=box hl
  rw[st.ρ l (au7.1 hl).1];exact st.len _ _ _ (hW.types l ox ds hl hf)
theorem a8.Dx(hW:a8 G base H gh w){ob:Obj}(hp:fQ w w' ob){o:bS}(Fw:∀ ty cs,o≠.box ty cs)(hM:wR (gh.bK w.heap.size H.length) (H.length+1) w' w.heap.size H.length o) :
  a8 G base (H++[o]) (gh.bK w.heap.size H.length) w':=by
 have st:=gS hW hp;have old:∀ {l:Nat} {o' : bS},(H++[o])[l]?=some o'->(l<H.length/\H[l]?=some o')\/(l=H.length/\o'=o):=by
  grind
 refine⟨avz hW.size st.size,?_,?_,fun g j x hx=>?_,fun l ox ds hl=>?_,fun l ox ds hl=>?_,fun g hg=>(hW.BA g hg).imp fun ty h=>st.len g ty _ h,hW.mw st (fun b o m h=>h.elim .inl (fun h=>h.2.elim)),fun l o' hl=>?_,fun l ox ds hl hf=>?_⟩
 ·intro b o ho
  rw[hp.size]
  rcases ho with ho|⟨_,ho⟩
  ·have:=hW.qa b o ho;omega
  ·exact ho.elim
 ·intro b hb
  rw[hp.size];have iR:(if b=w.heap.size then bM.hb H.length else gh.κ b)≠.none:=hb
  split at iR
  ·rename_i e
   have:=hW.size
   omega
  ·have:=hW.ry b iR;omega
 ·obtain⟨v,h1,h2,h3⟩:=hW.aY g j x hx
  exact⟨v,(st.cell g j h3).trans h1,h2.mono st.S st.cell st.mp,st.S g j h3⟩
 ·rcases old hl with ⟨aZ,hl⟩|⟨_,h⟩
  ·rw[List.length_append,avX,st.ρ l aZ]
   exact (hW.boxes l ox ds hl).mono st (Nat.le_succ _) id (fun _=>id)
  ·grind
 ·rcases old hl with ⟨aZ,hl⟩|⟨_,h⟩
  ·exact hW.refs l ox ds hl
  ·grind
 ·rw[List.length_append,avX]
  rcases old hl with ⟨aZ,hl⟩|⟨rfl,rfl⟩
  ·rw[st.ρ l aZ]
   exact (hW.more l o' hl).mono st (Nat.le_succ _) id (fun _=>id)
  ·have hρ:(gh.bK w.heap.size H.length).ρ H.length=w.heap.size:=by simp[Gh.bK]
   rw[hρ];exact hM
 ·rcases old hl with ⟨aZ,hl⟩|⟨_,h⟩
  ·rw[st.ρ l aZ]
   exact st.len _ _ _ (hW.types l ox ds hl hf)
  ·grind
theorem Kj{y:AV}(h:y∈cM off cs):y∈cs\/∃ x,x∈cs/\y=x.drop:=by
 obtain⟨j,hj⟩:=avu h
 grind [xD]
theorem Iz(h:cs.all (bf loc)=true):(cM off cs).all (bf loc)=true:=by
 grind [Kj,re]
def qf{n:Nat}{x:AV}(hx:aN x=true)(h:CR gh n w (.sl i) v x):SR gh n nt w T gen tm i v x:=by
 cases x<;>first|exact h|(simp[aN] at hx)
def CR.aN{n:Nat}{x:AV}(h:CR gh n w p v x):aN x=true:=by
 rcases h with h|⟨e,rfl,_⟩
 ·cases h with
  | plain _ _ h=>cases h<;>rfl
  | full=>rfl
  | ref=>rfl
  | sref=>rfl
  | mref=>rfl
  | func=>rfl
  | iface=>rfl
  | agg=>rfl
  | tuple=>rfl
 ·rfl
def mn{x:AV}(h:Abs.aN x=true):fz x=none:=by cases x<;>first|rfl|(simp[Abs.aN] at h)
def GV{t:TypeId}(hg:n7 P t=some false)(hc:w.cell? ⟨b,off,none⟩=some u):(Instr.loadAt t (.pointer (some ⟨b,off,none⟩))).run P w=.ok u w:=by
 simp[Instr.loadAt,Instr.sureAddr,loadVar,ju hg,hc]
def Hw(hW:a8 G base s.H gh w)(hF:FR L nt gh w a s){t:TypeId}{take:Bool}{z:AV}(ho:o.op=.load t x)(hc:av nt x=some y)(hg:n7 P t=some agg)(hs:fC P t=some sz)
  (he:cS s take agg sz (y.addr G s.T)=some (z,some s')) (hd:∀ k,o.dst=some k->k<nt) :
  ∃ v' br w',wS P a o w v' w'/\Out G base nt L gh w a s o.dst z s' v' br w':=by
 have hv:=arg_val hW hF hc;generalize hY:y.addr G s.T=Y at hv he;cases Y<;>simp only[cS] at he<;>try (cases he;done)
 case eptr cs=>simp at he
 case ref loc off =>
  obtain⟨aZ,tU⟩:=VR.kF (hv:VR gh s.H.length w (a.eval x) (.ref loc off));split at he
  ·rename_i W9 cs hH
   simp only[au2,au8] at he;obtain⟨u,hu,rfl,hn⟩:=he;cases hq:(take&&!agg) with
   | false=>rw[hq] at hn;cases hn
   | true =>
    rw[hq] at hn;simp only[cond_true,au4] at hn;subst hn;simp only[au6,avo] at hq;obtain⟨rfl,rfl⟩:=hq;simp only[ab,cond_false,cond_true,au2] at hu;obtain⟨u',hu,rfl⟩:=hu;obtain⟨br,uv,hSS,st,hE,wA,tV,hB,di,iC,oJ⟩:=FX hW (hW.boxes loc _ cs hH) hu (Wi o.dst) (qS _) ag ag s.H.length;have hρ:=st.ρ loc aZ;have nW:=hW.Nk st hH (by intro l hl;simp[hl]) wA tV (by rw[hρ];exact hB) (Iz (hW.refs loc _ cs hH)) hSS (by simp[cM])
    have JM:FR L nt br w a (s.iK ⟨s.H.set loc (.box W9 (cM off cs)),loc⟩):=hF.grown st (fun i=>⟨ag,ag,ag⟩) ag
    refine⟨uv,br,w,.inl ?_,Out.of (s1:=s.iK ⟨s.H.set loc (.box W9 (cM off cs)),loc⟩) (gen':=s.gen) nW JM hE (Nat.le_refl _) hd (.inl (mn oJ.aN)) (fun k hk=>?_)⟩
    ·simp[execOp,ho,tU,GV hg di]
    ·rw[hk] at oJ
     have:(s.iK ⟨s.H.set loc (.box W9 (cM off cs)),loc⟩).H.length=s.H.length:=by simp[AS.iK]
     rw[this];exact qf oJ.aN oJ
  ·simp at he
  ·simp at he
  ·cases he
 case lref b g off =>
  obtain⟨hb,RB,hr⟩:=(hv:_/\_/\_);split at he
  ·rename_i g' cs hT
   obtain⟨h0,iZ⟩:=al he;clear he;have JZ:g=g':=by simpa [iI] using h0
   subst JZ
   rename _=some (z,some s')=>he
   simp only[au2,au8] at he;obtain⟨u,hu,rfl,hn⟩:=he;cases hq:(take&&!agg) with
   | false=>rw[hq] at hn;cases hn
   | true =>
    rw[hq] at hn;simp only[cond_true,au4] at hn;subst hn;simp only[au6,avo] at hq;obtain⟨rfl,rfl⟩:=hq;simp only[ab,cond_false,cond_true,au2] at hu;obtain⟨u',hu,rfl⟩:=hu;obtain⟨k,hk,Qh⟩:=zp hF hb hT;have tU:=hr (by rw[hT];rfl) k hk
    obtain⟨br,uv,hSS,st,hE,wA,tV,hB,di,iC,oJ⟩:=FX hW Qh hu (Wi o.dst) (qS _) ag ag s.H.length;have nW:=hW.step st ag wA tV (fun b o _ h=>.inl (hSS b o h))
    have JM:FR L nt br w a (s.cx b (.lbox g (cM off cs))) :=
     hF.cx (H':=s.H) (lo':=s.lo) st (Nat.le_refl _) (fun i hi=>⟨ag,ag,by intro j e;injection e with e _;exact hi e⟩) (.inl ⟨hb,by rw[hT];rfl⟩) (fun _=>⟨by
      have h:=hF.slot b hb;rw[hT] at h;exact h.1,k,hk,hB⟩)
    refine⟨uv,br,w,.inl ?_,Out.of (s1:=s.cx b (.lbox g (cM off cs))) (gen':=s.gen) nW JM hE (Nat.le_refl _) hd (.inl (mn oJ.aN)) (fun k hk=>?_)⟩
    ·simp[execOp,ho,tU,GV hg di]
    ·rw[hk] at oJ
     exact qf oJ.aN oJ
  ·cases he
 case eref b g i zz off =>
  split at he
  ·simp only[MX] at he;obtain⟨_,r,_,_,he⟩:=he
   simp at he
  ·cases he
end
end
end Go.Abs
end
