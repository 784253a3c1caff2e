/-
  A part of the proof of PrintLossless: AbsOps3, AbsOps4, AbsOps5, AbsOps6, AbsStep, AbsOps7, AbsOps8, AbsOps9.
-/
import Derived.Great.BuildSlice
import Derived.Test.YtnhpoddlmjpapaaGreatDoorQ02
set_option linter.unusedSimpArgs false
set_option linter.unusedVariables false
set_option linter.defProp false
noncomputable section
namespace Go.Abs
variable {s':AS}{parts:Array (Nat × Operand)}{fs:Array Go.Field}{C C' ds:Array Value}{op:BinOp}{agg isB kp own:Bool}{bt:Gh}{m:Int}{E e:List (List AV)}{ps:List (Nat × Nat × aE)}{X Y Z cs l xs z:List AV}{b cap gen gen' h i j k len loc off sz:Nat}{fr:Nat × Nat}{S:Nat->Nat->Prop}{tm:Nat->Value}{o:Oper}{x:Operand}{d:Option Nat}{hi lo mx:Option Operand}{HX OJ QE:Option aE}{e0 ty:TypeId}{u v zv:Value}{T:aD}{ii ix y:aE}{p:bL}{touch:bL->Prop}
section
section
variable {P:Program}{G:Nat->List AV}{base nt:Nat}{L:List Nat}{gh:Gh}{w:World}{a:Act}{s:AS}
theorem Ve{n:Nat}{z:AV}(hl:ab false agg sz off xs=some z){t:TypeId}(hg:nP P t=some agg)(hs:fD P t=some sz)
  {cs:Array Value} (j9:cs.size=xs.length) (iw:∀ (j:Nat) (v:Value),cs[j]?=some v->v.oneCell'=true)
  (h:∀ (j:Nat) (v:Value) (x:AV),cs[j]?=some v->xs[j]?=some x->VR gh n w v x) :
  ∃ v,(part t cs off).run P w=.ok v w/\VR gh n w v z:=by
 unfold ab at hl;cases agg
 ·simp only[cond_false,auP] at hl
  obtain⟨x,hx,rfl⟩:=hl;have hj:off<cs.size:=by rw[j9];exact (auU.1 hx).1
  have hv:cs[off]?=some cs[off]:=au' hj;exact⟨cs[off],by simp[part,jk hg,hv],VR.dropped (h off _ x hv hx)⟩
 ·simp only[cond_true] at hl
  obtain⟨h0,h1⟩:=al hl;have XJ:off+sz<=xs.length:=by simpa [avm] using h0
  injection h1 with h1
  subst h1;refine⟨.agg (cs.extract off (off+sz)),by simp[part,jk hg,fC hs],.agg _ _ dw ?_ ?_⟩
  ·intro j v hj
   rw[axv] at hj
   grind
  ·grind [VR.dropped]
def SZ(hW:bf G base s.H gh w)(hF:FR L nt gh w a s){t e:TypeId}{i:Operand}{n:Nat}{z:AV}
  (ho:o.op=.index t x i) (hc:ar nt x=some ix) (hi:ar nt i=some ii) (hu:P.underlying t=some (.array n e)) (hs:fD P e=some sz) (hg:nP P e=some agg)
  (hk:asNat (ii.eval G s.T)=some k) (Qr:k<n) (hz:ix.eval G s.T=.agg xs) (he:ab false agg sz (k*sz) xs=some z) :
  ∃ v,(execOp a.eval o).run P w=.ok (.value v) w/\oN gh s.H.length nt w s.T s.gen (gN a) v z:=by
 obtain⟨cs,hA,j9,iw,h⟩:=(cX hW hF hc hz rfl).mf;obtain⟨kd,HP⟩:=mC hW hF hi hk;obtain⟨v,h1,h2⟩:=Ve he hg hs j9 iw h;exact⟨v,by simp[execOp,ho,hA,HP,Instr.index,asIntOf,run_underlying hu,fC hs,Qr,h1],.dU h2⟩
def JJ(hW:bf G base s.H gh w)(hF:FR L nt gh w a s){t:TypeId}{i:Operand}{l:List UInt8}{b:UInt8}
  (ho:o.op=.index t x i) (hc:ar nt x=some ix) (hi:ar nt i=some ii) (hu:P.underlying t=some .string)
  (hk:asNat (ii.eval G s.T)=some k) (hz:ix.eval G s.T=.str l) (hb:l[k]?=some b) :
  ∃ v,(execOp a.eval o).run P w=.ok (.value v) w/\oN gh s.H.length nt w s.T s.gen (gN a) v (.int .u8 b.toNat):=by
 obtain⟨q,hA,hl⟩:=(cX hW hF hc hz rfl).kE;obtain⟨kd,HP⟩:=mC hW hF hi hk;have hq:q[k]?=some b:=by
  obtain⟨⟨d⟩⟩:=q;simp at hl;subst hl;have Ft:=(auU.1 hb).1;have gG:k<(ByteArray.mk ⟨d⟩).size:=Ft;rw[ByteArray.getElem?_lt' _ _ gG];rw[auS Ft] at hb;exact hb
 exact⟨_,by simp[execOp,ho,hA,HP,Instr.index,asIntOf,run_underlying hu,hq],.dU (.plain _ _ (.int _ _))⟩
theorem VR.Cp{n:Nat}{x:AV}(h:VR gh n w v x):VR gh n w v x.dk:=by
 cases x<;>try exact VR.dropped h
 obtain⟨cs,rfl,hs,iw,h⟩:=h.mf;refine .agg _ _ (xD hs) iw fun j v x hj hx=>?_
 grind [VR.dropped]
def Mm(hW:bf G base s.H gh w)(hF:FR L nt gh w a s){vs:List AV}{z:AV}
  (ho:o.op=.extract x i) (hc:ar nt x=some ix) (hz:ix.eval G s.T=.tuple vs) (hi:vs[i]?=some z) :
  ∃ v,(execOp a.eval o).run P w=.ok (.value v) w/\oN gh s.H.length nt w s.T s.gen (gN a) v z.dk:=by
 obtain⟨us,hA,j9,h⟩:=(cX hW hF hc hz rfl).vk;have hj:i<us.size:=by rw[j9];exact (auU.1 hi).1
 have hv:us[i]?=some us[i]:=au' hj;exact⟨us[i],by simp[execOp,ho,hA,Instr.extract,hv],.dU (VR.Cp (h i _ z hv hi))⟩
def Xn{t:TypeId}{k:rT}{V:Value}{X z:AV}{n:Nat}(hv:VR gh n w V X.drop)(ht:match k with|.str=>P.underlying t=some .string|.sl=>∃ e,P.underlying t=some (.slice e)|.arr m=>∃ e,P.underlying t=some (.array m e))
  (he:cZ k X=some z) (ty:TypeId):∃ v,(Builtin.len_ #[t] ty #[V]).run P w=.ok v w/\VR gh n w v z:=by
 cases k<;>cases X<;>simp only[cZ,auR,reduceCtorEq] at he<;>subst he
 case str.str l =>
  obtain⟨q,rfl,rfl⟩:=hv.kE;refine⟨.int .i64 q.size,by simp[Builtin.len_,run_underlying ht,goInt],?_⟩
  exact .plain _ _ (by rw[show (q.data.toList.length:Int)=(q.size:Int) by simp];exact .int _ _)
 case sl.slice el own =>
  obtain⟨e,ht⟩:=ht;have hp:=hv.iT;cases hp with
  | dq=>exact⟨.int .i64 0,by simp[Builtin.len_,run_underlying ht,goInt],.plain _ _ (.int _ _)⟩
  | slice b of m cap sz _ f hn kT bU dm dv=>exact⟨.int .i64 el.length,by simp[Builtin.len_,run_underlying ht,goInt,hn],.plain _ _ (.int _ _)⟩
 case sl.sref loc off m zz =>
  obtain⟨e,ht⟩:=ht;obtain⟨_,cap,_,_,rfl⟩:=hv.kU;exact⟨.int .i64 m,by simp[Builtin.len_,run_underlying ht,goInt],.plain _ _ (.int _ _)⟩
 case sl.aq =>
  obtain⟨e,ht⟩:=ht;have hp:=hv.mI;subst hp;exact⟨.int .i64 0,by simp[Builtin.len_,run_underlying ht,goInt],.plain _ _ (.int _ _)⟩
 all_goals
  obtain⟨e,ht⟩:=ht;exact⟨.int .i64 _,by simp[Builtin.len_,run_underlying ht,goInt],.plain _ _ (.int _ _)⟩
theorem mV:∀ {xs:List Operand} {ys:List aE},kN nt xs=some ys->xs.length=ys.length/\∀ (j:Nat) (x:Operand) (y:aE),xs[j]?=some x->ys[j]?=some y->ar nt x=some y
 | [],ys,h=>by simp[kN] at h;subst h;exact⟨rfl,fun j x y h=>by simp at h⟩
 | x :: r,ys,h=>by
  simp only[kN,auQ,auP] at h;obtain⟨y,hy,zs,hz,rfl⟩:=h;obtain⟨h1,h2⟩:=mV hz
  grind
theorem Ho(hW:bf G base s.H gh w)(hF:FR L nt gh w a s){xs:List Operand}{ys:List aE}(hc:kN nt xs=some ys)(hf:(ys.map fun y=>y.addr G s.T).all aM=true) :
  ∀ (j:Nat) (v:Value) (x:AV),(xs.map a.eval)[j]?=some v->(ys.map fun y=>(y.addr G s.T).drop)[j]?=some x->VR gh s.H.length w v x:=by
 grind [mV,qh]
def P7(hW:bf G base s.H gh w)(hF:FR L nt gh w a s){f:Fn}{fs cs:Array Operand}{ifs ics:List aE}
  (ho:o.op=.makeFunc f fs cs) (h1:kN nt fs.toList=some ifs) (h2:kN nt cs.toList=some ics)
  (hf1:(ifs.map fun y=>y.addr G s.T).all aM=true) (Wu:(ics.map fun y=>y.addr G s.T).all aM=true) :
  ∃ v,(execOp a.eval o).run P w=.ok (.value v) w/\oN gh s.H.length nt w s.T s.gen (gN a) v (.func f (ifs.map fun y=>(y.addr G s.T).drop) (ics.map fun y=>(y.addr G s.T).drop)):=by
 refine⟨.func f (fs.map a.eval) (cs.map a.eval),by simp[execOp,ho,Instr.makeFunc],.dU (.func _ _ _ _ _ ?_ ?_ ?_ ?_)⟩
 ·simpa using (mV h1).1
 ·simpa using (mV h2).1
 ·intro j v x hj hx
  exact Ho hW hF h1 hf1 j v x (cT hj) hx
 ·intro j v x hj hx
  exact Ho hW hF h2 Wu j v x (cT hj) hx
end
end
section
section
variable {P:Program}{G:Nat->List AV}{base nt:Nat}{L:List Nat}{gh:Gh}{w:World}{a:Act}{s:AS}
def lD(hW:bf G base s.H gh w)(hF:FR L nt gh w a s){x:Option Operand}{ix:Option aE}(hc:iR nt x=some ix){d jy n:Nat}(hb:bound d (ix.map (·.eval G s.T)) jy=some n) :
  (x.map a.eval=none/\ix=none/\n=d)\/(ix.isSome=true/\n<=jy/\∃ k,x.map a.eval=some (.int k (n:Int))):=by
 cases x with
 | none=>simp[iR] at hc;subst hc;simp[bound] at hb;exact .inl ⟨rfl,rfl,hb.symm⟩
 | some x =>
  simp only[iR,auP] at hc;obtain⟨y,hy,rfl⟩:=hc;simp only[bound,au2,auQ] at hb;obtain⟨m,hm,hb⟩:=hb;obtain⟨h1,h2⟩:=al hb;injection h2 with h2
  subst h2;obtain⟨k,hk⟩:=mC hW hF hy hm
  simp_all
theorem td{isSlice:Bool}{l m:Nat}{lo hi mx:Option Value}
  (hm:(mx=none/\m=cap)\/(m<=cap/\∃ k,mx=some (.int k (m:Int)))) (hh:(hi=none/\h=len/\mx=none)\/(h<=m/\∃ k,hi=some (.int k (h:Int))))
  (hl:(lo=none/\l=0)\/(l<=h/\∃ k,lo=some (.int k (l:Int)))) :
  (Instr.sliceBounds isSlice len cap lo hi mx).run P w=.ok (l,h,m) w:=by
 have sb:∀ (k:IntKind) (n y:Nat) (code:BoundsCode),n<=y->(Instr.sliceBound (.int k (n:Int)) y code).run P w=.ok n w:=by
  intro k n y code hn;rw[run_sliceBound w k n y code ah ah];simp
 rcases hm with ⟨rfl,rfl⟩|⟨hm,km,rfl⟩<;>rcases hh with ⟨rfl,rfl,hx⟩|⟨hh,kh,rfl⟩<;>rcases hl with ⟨rfl,rfl⟩|⟨hl,kl,rfl⟩ <;>
  first|(cases hx;done)|simp[Instr.sliceBounds, *]
theorem HD(hW:bf G base s.H gh w)(hF:FR L nt gh w a s){t:TypeId}{z:AV}
  (ho:o.op=.slice t x lo hi mx) (hc:ar nt x=some ix) (h1:iR nt lo=some QE) (h2:iR nt hi=some OJ) (h3:iR nt mx=some HX) (hu:P.underlying t=some .string)
  (he:bD .str (ix.eval G s.T) (QE.map (·.eval G s.T)) (OJ.map (·.eval G s.T)) (HX.map (·.eval G s.T))=some z) :
  ∃ v,(execOp a.eval o).run P w=.ok (.value v) w/\oN gh s.H.length nt w s.T s.gen (gN a) v z:=by
 generalize hz:ix.eval G s.T=X at he;cases X<;>simp only[bD,reduceCtorEq,auQ] at he
 rename_i l;obtain⟨h,hh,l0,hl,he⟩:=he;obtain⟨hn,he⟩:=al he;injection he with he
 subst he;obtain⟨q,hA,hq⟩:=(cX hW hF hc hz rfl).kE;have j9:q.size=l.length:=by rw[<- hq];simp
 have hmn:mx.map a.eval=none/\HX=none:=by
  cases mx with
  | none=>simp[iR] at h3;subst h3;exact⟨rfl,rfl⟩
  | some m=>simp only[iR,auP] at h3;obtain⟨_,_,rfl⟩:=h3;simp at hn
 have bh:=lD hW hF h2 hh;have bl:=lD hW hF h1 hl;have hb:(Instr.sliceBounds false q.size q.size (lo.map a.eval) (hi.map a.eval) none).run P w=.ok (l0,h,q.size) w:=by
  grind [td]
 refine⟨.string (q.extract l0 h),?_,.dU (.plain _ _ (.str _ _ ?_))⟩
 ·have hA':=hA
  have ri:(Instr.slice t (.string q) (lo.map a.eval) (hi.map a.eval) none).run P w=.ok (.string (q.extract l0 h)) w:=by
   simp[Instr.slice,run_underlying hu,hb]
  simp only[execOp,ho,hA',hmn.1,Sem.run_bind,run_sliceAt_string w t (.string q) _ _ _ hu,ri,Result.andThen_ok,Sem.run_pure]
 ·rw[<- hq]
  rw[ByteArray.data_extract,Array.toList_extract,List.extract_eq_take_drop,List.drop_take]
def CM{lp:Nat}(h:gF sz e=true)(hr:∀ (i:Nat) (r:List AV),e[i]?=some r->r.length=lp)(dp:e≠[]):lp=sz:=by
 cases e with
 | nil=>exact absurd rfl dp
 | cons r e =>
  simp[gF,iE] at h;rw[<- hr 0 r rfl,h]
theorem PR.part{o n:Nat}(hv:PR S w (.slice (some ⟨b,o,none⟩) n cap) (.slice e false))(j9:e≠[]->∀ (i:Nat) (r:List AV),e[i]?=some r->r.length=sz)
  {l h c:Nat} (hl:l<=h) (hh:h<=n) (hc:h-l<=c):PR S w (.slice (some ⟨b,o+l*sz,none⟩) (h-l) c) (.slice ((e.take h).drop l) false):=by
 cases hv with
 | slice _ _ _ _ lp _ f hn kT bU dm dv =>
  have idx:∀ (i:Nat) (r:List AV),((e.take h).drop l)[i]?=some r->e[l+i]?=some r:=by
   grind
  have hz:∀ (i:Nat) (r:List AV),e[i]?=some r->lp=sz:=by
   intro i r hi;have dp:e≠[]:=by rintro rfl;simp at hi
   grind
  refine .slice b (o+l*sz) (h-l) c sz _ (fun i j=>f (l+i) j) dw hc ?_ ?_ ?_
  ·grind
  ·grind
  ·grind
theorem PR.GI{o c:Nat}{l:Nat}(hl:h<=l):PR S w (.slice (some ⟨b,o,none⟩) 0 c) (.slice ((e.take h).drop l) false):=by
 have:(e.take h).drop l=[]:=dw
 rw[this];exact .slice b o 0 c 0 [] (fun _ _=>undef) rfl (Nat.zero_le _) (fun i r h=>by simp at h) (fun i j r x h=>by simp at h) (fun i j r x h=>by simp at h)
theorem Fo(hW:bf G base s.H gh w)(hF:FR L nt gh w a s){t:TypeId}{z:AV}
  (ho:o.op=.slice t x lo hi mx) (hc:ar nt x=some ix) (h1:iR nt lo=some QE) (h2:iR nt hi=some OJ) (h3:iR nt mx=some HX) (hu:P.underlying t=some (.slice e0)) (hs:fD P e0=some sz)
  {ll o0 n zz:Nat} (hz:ix.eval G s.T=.sref ll o0 n zz) (he:∃ h,bound n (OJ.map (·.eval G s.T)) n=some h/\∃ l0,bound 0 (QE.map (·.eval G s.T)) h=some l0 /\
   cond ((HX.map (·.eval G s.T)).isNone&&Nat.beq zz sz) (some (cond (Nat.blt l0 n) (.sref ll (o0+l0*zz) (h-l0) zz) (.slice [] false))) none=some z) :
  ∃ v,(execOp a.eval o).run P w=.ok (.value v) w/\oN gh s.H.length nt w s.T s.gen (gN a) v z:=by
 obtain⟨h,hh,l0,hl,he⟩:=he;obtain⟨hn,iY⟩:=al he;clear he;simp only[auT,awD,axw,iE,au1] at hn;obtain⟨rfl,rfl⟩:=hn;have hmx:mx.map a.eval=none:=by
  cases mx with
  | none=>rfl
  | some m=>simp only[iR,auP,reduceCtorEq,and_false,exists_false] at h3
 obtain⟨aZ,cap,hk,adh,hA⟩:=(cX hW hF hc hz rfl).kU;have bh:=lD hW hF h2 hh;have bl:=lD hW hF h1 hl
 have hhn:h<=n:=by rcases bh with ⟨_,_,e⟩|⟨_,e,_⟩<;>omega
 have hlh:l0<=h:=by rcases bl with ⟨_,_,e⟩|⟨_,e,_⟩<;>omega
 have hb:(Instr.sliceBounds true n cap (lo.map a.eval) (hi.map a.eval) (mx.map a.eval)).run P w=.ok (l0,h,cap) w:=by
  grind [td]
 have hr:(Instr.sliceAt t (a.eval x) (lo.map a.eval) (hi.map a.eval) (mx.map a.eval)).run P w=.ok (.slice (if cap=l0 then some ⟨gh.ρ ll,o0,none⟩ else (some (⟨gh.ρ ll,o0,none⟩:Addr)).map (·.add (l0*zz))) (h-l0) (cap-l0)) w:=by
  rw[hA];simp[Instr.sliceAt,run_underlying hu,Instr.slice,hb,fC hs]
 refine⟨_,by simp only[execOp,ho,Sem.run_bind,hr,Result.andThen_ok,Sem.run_pure];rfl,?_⟩
 injection iY with iY
 subst iY;cases hq:Nat.blt l0 n with
 | true =>
  have hq' : l0<n:=by simpa [avh] using hq
  rw[if_neg ah,au2,addr_add];refine .dU (.sref ll (o0+l0*zz) (h-l0) (cap-l0) zz aZ ah (fun h0=>?_))
  obtain⟨ty,w5⟩:=adh h0;refine⟨ty,?_⟩;have:o0+l0*zz+(cap-l0)*zz=o0+cap*zz:=by
   have h3:(l0+(cap-l0))*zz=l0*zz+(cap-l0)*zz:=avG _ _ _
   grind
  rw[this];exact w5
 | false =>
  have hq' : ¬ l0<n:=fun h=>by rw[<- avh] at h;rw[h] at hq;cases hq
  have e0:h-l0=0:=ah;rw[e0];have hp:∀ (b of c:Nat),PR gh.S w (.slice (some ⟨b,of,none⟩) 0 c) (.slice [] false):=fun b of c=>.slice b of 0 c 0 [] (fun _ _=>undef) rfl (Nat.zero_le _) (fun i r h=>by simp at h) (fun i j r x h=>by simp at h) (fun i j r x h=>by simp at h)
  split
  ·exact .dU (.plain _ _ (hp _ _ _))
  ·rw[au2,addr_add];exact .dU (.plain _ _ (hp _ _ _))
theorem JM(hW:bf G base s.H gh w)(hF:FR L nt gh w a s){t:TypeId}{z:AV}
  (ho:o.op=.slice t x lo hi mx) (hc:ar nt x=some ix) (h1:iR nt lo=some QE) (h2:iR nt hi=some OJ) (h3:iR nt mx=some HX) (hu:P.underlying t=some (.slice e0)) (hs:fD P e0=some sz)
  (he:bD (.sl sz) (ix.eval G s.T) (QE.map (·.eval G s.T)) (OJ.map (·.eval G s.T)) (HX.map (·.eval G s.T))=some z) :
  ∃ v,(execOp a.eval o).run P w=.ok (.value v) w/\oN gh s.H.length nt w s.T s.gen (gN a) v z:=by
 generalize hz:ix.eval G s.T=X at he;cases X<;>simp only[bD,reduceCtorEq,auQ] at he
 case sref=>exact Fo hW hF ho hc h1 h2 h3 hu hs hz he
 rename_i e own;obtain⟨m,hm,h,hh,l0,hl,he⟩:=he;obtain⟨hn,he⟩:=al he;injection he with he
 subst he;have hp:=VR.iT (cX hW hF hc hz rfl);have bm:=lD hW hF h3 hm;have bh:=lD hW hF h2 hh;have bl:=lD hW hF h1 hl;have hmx:HX=none->mx.map a.eval=none:=by
  grind
 have we:lo.map a.eval=none->l0=0:=by
  grind
 simp only[auT,awl,awD,axw] at hn;obtain⟨HR,XX⟩:=hn
 have hlh:l0<=h:=by rcases bl with ⟨_,_,e⟩|⟨_,e,_⟩<;>omega
 have hhm:h<=m:=by
  grind
 have hml:m<=e.length:=by rcases bm with ⟨_,_,e⟩|⟨_,e,_⟩<;>omega
 have key:∀ len cap:Nat,len=e.length->len<=cap->∀ ad,∃ m',(m'=if HX=none then cap else m) /\
   (Instr.slice t (.slice ad len cap) (lo.map a.eval) (hi.map a.eval) (mx.map a.eval)).run P w=.ok (.slice (if m'=l0 then ad else ad.map (·.add (l0*sz))) (h-l0) (m' - l0)) w:=by
  intro len cap hlen kT ad;refine⟨_,rfl,?_⟩;have hb:(Instr.sliceBounds true len cap (lo.map a.eval) (hi.map a.eval) (mx.map a.eval)).run P w=.ok (l0,h,if HX=none then cap else m) w:=by
   grind [td]
  simp[Instr.slice,run_underlying hu,hb,fC hs]
 have fin:∀ {V:Value} {R:Value},a.eval x=V->(Instr.slice t V (lo.map a.eval) (hi.map a.eval) (mx.map a.eval)).run P w=.ok R w->(∃ ad n c,V=.slice ad n c) ->
   (execOp a.eval o).run P w=.ok (.value R) w:=by
  rintro V R hA hR ⟨ad,n,c,rfl⟩
  have:(Instr.sliceAt t (.slice ad n c) (lo.map a.eval) (hi.map a.eval) (mx.map a.eval)).run P w=.ok R w:=by simp[Instr.sliceAt,run_underlying hu,hR]
  simp only[execOp,ho,hA,Sem.run_bind,this,Result.andThen_ok,Sem.run_pure]
 generalize hA:a.eval x=V at hp;have Lx:=hp;cases hp with
 | dq =>
  have hlen:([]:List (List AV)).length=0:=rfl;simp only[List.length_nil] at hml;have e1:m=0:=ah;have e2:h=0:=ah;have e3:l0=0:=ah;subst e1 e2 e3;obtain⟨m',RL,hr⟩:=key 0 0 rfl (Nat.le_refl _) none;have:m'=0:=by rw[RL];split<;>rfl
  subst this;refine⟨_,fin hA hr ⟨_,_,_,rfl⟩,.dU ?_⟩;simp;generalize HX.isSome=q;cases q
  ·exact .plain _ _ .dq
  ·exact .full none 0 [] .dq trivial
 | slice b of n cap lp _ f IY kT bU dm dv =>
  obtain⟨m',RL,hr⟩:=key n cap IY.symm kT (some ⟨b,of,none⟩);refine⟨_,fin hA hr ⟨_,_,_,rfl⟩,.dU ?_⟩;have asa:h<=m':=by rw[RL];split<;>omega
  have fg:PR gh.S w (.slice (if m'=l0 then some ⟨b,of,none⟩ else (some (⟨b,of,none⟩:Addr)).map (·.add (l0*sz))) (h-l0) (m' - l0)) (.slice ((e.take h).drop l0) false):=by
   by_cases aiy:m'=l0
   ·rw[if_pos aiy]
    have:h-l0=0:=ah
    rw[this];exact PR.GI ah
   ·rw[if_neg aiy,au2,addr_add]
    by_cases ais:l0=0
    ·have:=PR.part Lx (sz:=lp) (fun _=>bU) hlh (c:=m' - l0) ah ah
     rw[ais,aw2] at this ⊢;exact this
    ·refine PR.part Lx (fun dp i r hi=>?_) hlh ah ah
     have anz:¬ (QE=none):=by
      rintro rfl
      rcases bl with ⟨_,_,e2⟩|⟨e1,_⟩
      ·exact ais e2
      ·cases e1
     have:=CM (XX.resolve_left anz) bU dp
     rw[bU i r hi,this]
  generalize hq:((Option.map (fun x=>aE.eval G s.T x) HX).isSome&&m.beq h)=q
  cases q
  ·exact .plain _ _ fg
  ·simp only[auT,Option.isSome_map,iE,au1] at hq
   have dp:HX≠none:=by rintro rfl;simp at hq
   have:m'=h:=by rw[RL,if_neg dp];exact hq.2
   subst this;exact .full _ _ _ fg trivial
theorem sf(sz:Nat):∀ (n:Nat) (l:List AV) (i:Nat),(chunks sz n l)[i]?=if i<n then some ((l.drop (i*sz)).take sz) else none
 | 0,l,i=>by simp[chunks]
 | n+1,l,0=>by simp[chunks]
 | n+1,l,i+1=>by
  simp only[chunks,avy,sf sz n,av',Nat.add_lt_add_iff_right]
  grind
def Ci(sz:Nat):∀ (n:Nat) (l:List AV),(chunks sz n l).length=n
 | 0,l=>rfl
 | n+1,l=>by simp[chunks,Ci sz n]
theorem PR.chunks{o n:Nat}(hv:PR S w (.pointer (some ⟨b,o,none⟩)) (.eptr cs))(hl:cs.length=n*sz) :
  PR S w (.slice (some ⟨b,o,none⟩) n n) (.slice (chunks sz n cs) false):=by
 cases hv with
 | eptr _ _ _ f dm dv =>
  have idx:∀ (i j:Nat) (r:List AV) (x:AV),(Abs.chunks sz n cs)[i]?=some r->r[j]?=some x->cs[i*sz+j]?=some x:=by
   grind [sf]
  refine .slice b o n n sz _ (fun i j=>f (i*sz+j)) (Ci sz n cs) (Nat.le_refl _) ?_ ?_ ?_
  ·intro i r hi
   rw[sf] at hi;split at hi
   ·rename_i aZ
    injection hi with hi
    subst hi;have:(i+1)*sz<=n*sz:=au6 _ aZ
    grind
   ·cases hi
  ·grind
  ·grind
theorem HC(hW:bf G base s.H gh w)(hF:FR L nt gh w a s){t:TypeId}{n:Nat}{z:AV}
  (ho:o.op=.slice t x lo hi mx) (hc:ar nt x=some ix) (h1:iR nt lo=some QE) (h2:iR nt hi=some OJ) (h3:iR nt mx=some HX) (hu:P.underlying t=some (.array n e0)) (hs:fD P e0=some sz) (h0:0<sz)
  (he:bD (.arr n sz) (ix.eval G s.T) (QE.map (·.eval G s.T)) (OJ.map (·.eval G s.T)) (HX.map (·.eval G s.T))=some z) :
  ∃ v,(execOp a.eval o).run P w=.ok (.value v) w/\oN gh s.H.length nt w s.T s.gen (gN a) v z:=by
 generalize hz:ix.eval G s.T=X at he;cases X<;>simp only[bD,reduceCtorEq] at he
 rename_i cs;obtain⟨hlen,he⟩:=al he;simp only[auQ] at he;obtain⟨h,hh,l0,hl,he⟩:=he;obtain⟨hn,he⟩:=al he;injection he with he
 subst he;have Gn:cs.length=n*sz:=by simpa [iE] using hlen
 have hp:=VR.yE (cX hW hF hc hz rfl);have hmn:mx.map a.eval=none:=by
  cases mx with
  | none=>rfl
  | some m=>simp only[iR,auP] at h3;obtain⟨_,_,rfl⟩:=h3;simp at hn
 have bh:=lD hW hF h2 hh;have bl:=lD hW hF h1 hl
 have hlh:l0<=h:=by rcases bl with ⟨_,_,e⟩|⟨_,e,_⟩<;>omega
 have hhn:h<=n:=by rcases bh with ⟨_,_,e⟩|⟨_,e,_⟩<;>omega
 have hb:(Instr.sliceBounds false n n (lo.map a.eval) (hi.map a.eval) none).run P w=.ok (l0,h,n) w:=by
  grind [td]
 generalize hA:a.eval x=V at hp;have Lx:=hp;cases hp with
 | eptr b of _ f dm dv =>
  refine⟨.slice (some (if n=l0 then ⟨b,of,none⟩ else (⟨b,of,none⟩:Addr).add (l0*sz))) (h-l0) (n-l0),?_,.dU (.plain _ _ ?_)⟩
  ·simp[execOp,ho,hA,hmn,Instr.sliceAt,run_underlying hu,Instr.sureAddr,hb,fC hs]
  ·have hc:=PR.chunks (sz:=sz) Lx Gn
   by_cases uF:n=l0
   ·have:h-l0=0:=ah
    grind [PR.GI]
   ·rw[if_neg uF,addr_add]
    refine PR.part hc (fun _ i r hi=>?_) hlh hhn ah
    cases hc with
    | slice _ _ _ _ lp _ f' IY kT bU amQ ap6 =>
     rw[sf] at hi;split at hi
     ·rename_i aZ
      injection hi with hi
      subst hi;have:(i+1)*sz<=n*sz:=au6 _ aZ
      grind
     ·cases hi
end
end
section
section
variable {P:Program}{G:Nat->List AV}{base nt:Nat}{L:List Nat}{gh:Gh}{w:World}{a:Act}{s:AS}
def gz{t:TypeId}{y:Operand}(h1:∀ c,u≠.agg c)(h2:u≠.nilIface\/v≠.nilIface):(eqGuard op t x y u v).run P w=.ok () w:=by
 have key:∀ (op:BinOp),op=.eql\/op=.neq\/(eqGuard op t x y u v)=pure ():=by
  intro op
  cases op<;>first|exact .inl rfl|exact .inr (.inl rfl)|exact .inr (.inr rfl)
 have k2:∀ op,op=BinOp.eql\/op=.neq->(eqGuard op t x y u v).run P w=.ok () w:=by
  rintro op (rfl|rfl)<;>simp only[eqGuard,avW,av4,axF] <;>
   (cases u<;>first|rfl|exact absurd rfl (h1 _)|skip)<;>(cases v<;>first|rfl|(simp at h2))
 rcases key op with h|h|h
 ·exact k2 op (.inl h)
 ·exact k2 op (.inr h)
 ·rw[h];rfl
def LZ{k:IntKind}{n:Int}{z:AV}(h:aa op k m n=some z)(t:TypeId):∃ v,(binOp op t (.int k m) (.int k n)).run P w=.ok v w/\PR gh.S w v z:=by
 unfold aa at h;cases op<;>simp only[reduceCtorEq,auR] at h
 case quo =>
  rcases av7 (decide (n=0)) with hb|hb<;>rw[hb] at h<;>simp at h
  subst h;have hn:¬ n=0:=cT hb;exact⟨_,by simp[binOp,Op.intDiv,hn],.int _ _⟩
 case rem =>
  rcases av7 (decide (n=0)) with hb|hb<;>rw[hb] at h<;>simp at h
  subst h;have hn:¬ n=0:=cT hb;exact⟨_,by simp[binOp,Op.intDiv,hn],.int _ _⟩
 all_goals
  subst h;first
   | exact⟨_,by simp[binOp,Op.intArith],.int _ _⟩
   | exact⟨_,by simp[binOp,Op.intCmp],.bool _⟩
def L0{x y:ByteArray}{z:AV}(h:cn op x.data.toList y.data.toList=some z)(t:TypeId):∃ v,(binOp op t (.string x) (.string y)).run P w=.ok v w/\PR gh.S w v z:=by
 have hx:=ByteArray.toList_eq x;have hy:=ByteArray.toList_eq y;unfold cn at h;cases op<;>simp only[reduceCtorEq,auR] at h
 case add =>
  obtain⟨h1,h2⟩:=al h;injection h2 with h2
  subst h2;have Wt:x.size+y.size<=4611686018427387904:=cT h1;have h3:¬ (((x.size+y.size:Nat):Int)>IntKind.i64.max):=by
   have:IntKind.i64.max=9223372036854775807:=a8
   rw[this];omega
  exact⟨.string (x++y),by simp only[binOp,Op.stringOp];rw[if_neg h3];rfl,.str _ _ ag⟩
 all_goals
  subst h;exact⟨_,by simp[binOp,Op.stringOp,hx,hy],.bool _⟩
def vZ:∀ (k ks:List CK) (X Y:List AV) (b:Bool),cD (k++ks) X Y=some b ->
  ∃ b1 b2,cD k X Y=some b1/\cD ks (X.drop k.length) (Y.drop k.length)=some b2/\b=(b1&&b2)
 | [],ks,X,Y,b,h=>⟨true,b,rfl,cT h,ag⟩
 | c :: k,ks,X,Y,b,h=>by
  have step:∀ (e:Bool) (X' Y' : List AV),(cD (k++ks) X' Y').map (e&&·)=some b->∃ b1 b2,(cD k X' Y').map (e&&·)=some b1/\cD ks (X'.drop k.length) (Y'.drop k.length)=some b2/\b=(b1&&b2):=by
   intro e X' Y' h;simp only[auP] at h;obtain⟨b',iJ,rfl⟩:=h;obtain⟨b1,b2,h1,h2,rfl⟩:=vZ k ks X' Y' b' iJ;exact⟨e&&b1,b2,by simp[h1],h2,by rw[Bool.and_assoc]⟩
  cases c<;>cases X<;>try (cases h;done)
  all_goals (rename_i x X';cases x<;>try (cases h;done))
  all_goals (cases Y<;>try (cases h;done))
  all_goals (rename_i y Y';cases y<;>try (cases h;done))
  ·exact step _ _ _ h
  ·simp only[avU,cD] at h
   obtain⟨h0,h⟩:=al h;obtain⟨b1,b2,h1,h2,h3⟩:=step _ _ _ h;exact⟨b1,b2,by simp only[cD];rw[h0];exact h1,h2,h3⟩
  ·exact step _ _ _ h
def ql:∀ (k:List CK) (X Y:List AV) (n:Nat),k.length<=n->cD k (X.take n) (Y.take n)=cD k X Y
 | [],X,Y,n,_=>rfl
 | c :: k,[],Y,n,h=>by rw[aw8];cases c<;>rfl
 | c :: k,x :: X,[],n,h=>by
  obtain⟨m,rfl⟩:∃ m,n=m+1:=⟨n-1,by simp at h;omega⟩
  rw[aw8,av2];cases c<;>cases x<;>rfl
 | c :: k,x :: X,y :: Y,n,h=>by
  obtain⟨m,rfl⟩:∃ m,n=m+1:=⟨n-1,by simp at h;omega⟩
  have ih:=ql k X Y m (by simp at h;omega)
  rw[av2,av2]
  cases c<;>cases x<;>first|rfl|(cases y<;>first|rfl|simp only[cD,ih])
def Row(gh:Gh)(n:Nat)(w:World)(cs:Array Value)(X:List AV):Prop :=
 cs.size=X.length/\∀ (j:Nat) (v:Value) (x:AV),cs[j]?=some v->X[j]?=some x->VR gh n w v x
def Row.extract{n:Nat}{cs:Array Value}(h:Row gh n w cs X)(o k:Nat):Row gh n w (cs.extract o (o+k)) ((X.drop o).take k):=by
 refine⟨by have:=h.1;simp;omega,fun j v x hj hx=>?_⟩
 rw[axv] at hj;rw[avn,avY] at hx;split at hj
 ·split at hx
  ·exact h.2 _ v x hj hx
  ·cases hx
 ·cases hj
def nQ{t:TypeId}{d:TypeDesc}(h:P.underlying t=some d)(hd:(match d with|.struct _=>true|.array _ _=>true|_=>false)=false):nP P t=some false:=by
 unfold nP;rw[h];simp[];cases d<;>simp_all
def uo{n:Nat}{c:CK}{t:TypeId}{D o:Nat}{cs:Array Value}{b:Bool}(hX:Row gh n w cs X)(hY:Row gh n w ds Y)(hD:1<=D)
  (ht:match c with|.b=>P.underlying t=some .bool|.i=>∃ k,P.underlying t=some (.int k)|.s=>P.underlying t=some .string)
  (h:cD [c] (X.drop o) (Y.drop o)=some b):∃ u v,(part t cs o).run P w=.ok u w/\(part t ds o).run P w=.ok v w/\(Op.equalIn D t u v).run P w=.ok b w:=by
 obtain⟨D,rfl⟩:∃ m,D=m+1:=⟨D-1,ah⟩
 have hg:nP P t=some false:=by cases c<;>first|exact nQ ht rfl|(obtain⟨k,ht⟩:=ht;exact nQ ht rfl)
 have get:∀ {cs:Array Value} {X:List AV} {x:AV} {X' : List AV},Row gh n w cs X->X.drop o=x :: X'->∃ u,(part t cs o).run P w=.ok u w/\VR gh n w u x:=by
  intro cs X x X' hR hd;have hx:X[o]?=some x:=by
   have:(X.drop o)[0]?=some x:=by rw[hd];rfl
   rw[avY] at this;simpa using this
  have aZ:o<cs.size:=by rw[hR.1];exact (auU.1 hx).1
  have hv:cs[o]?=some cs[o]:=au' aZ;exact⟨cs[o],by simp[part,jk hg,hv],hR.2 o _ x hv hx⟩
 generalize hXd:X.drop o=Xd at h;generalize hYd:Y.drop o=Yd at h;cases c<;>cases Xd<;>try (cases h;done)
 all_goals (rename_i x X';cases x<;>try (cases h;done))
 all_goals (cases Yd<;>try (cases h;done))
 all_goals (rename_i y Y';cases y<;>try (cases h;done))
 all_goals
  obtain⟨u,I1,X7⟩:=get hX hXd;obtain⟨v,X8,RM⟩:=get hY hYd
 ·obtain rfl:=X7.lW
  obtain rfl:=RM.lW;simp[cD] at h;exact⟨_,_,I1,X8,by rw[run_equalIn_bool' w D t _ _ ht,h]⟩
 ·obtain rfl:=X7.kC
  obtain rfl:=RM.kC;obtain⟨k,ht⟩:=ht;simp only[cD] at h;obtain⟨h0,h'⟩:=al h;simp at h' h0;exact⟨_,_,I1,X8,by rw[h0,run_equalIn_int w D t _ _ _ _ ht,h']⟩
 ·obtain⟨p,rfl,rfl⟩:=X7.kE
  obtain⟨q,rfl,rfl⟩:=RM.kE;simp[cD] at h;refine⟨_,_,I1,X8,?_⟩;rw[run_equalIn_string w D t _ _ ht,ByteArray.toList_eq,ByteArray.toList_eq,<- h];simp
def Hf(P:Program)(gh:Gh)(w:World)(d:Nat):Prop :=
 ∀ (t:TypeId) (k:List CK),ox P d t=some k->∀ (n D o:Nat) (cs ds:Array Value) (X Y:List AV) (b:Bool),Row gh n w cs X->Row gh n w ds Y->d<=D ->
  cD k (X.drop o) (Y.drop o)=some b->∃ u v,(part t cs o).run P w=.ok u w/\(part t ds o).run P w=.ok v w/\(Op.equalIn D t u v).run P w=.ok b w
def Mq{d:Nat}(hd:Hf P gh w d){n D:Nat}(hD:d<=D){cs:Array Value}(hX:Row gh n w cs X)(hY:Row gh n w ds Y) :
  ∀ (fs:List Go.Field) (q:Nat) (ks:List CK) (b:Bool),qo (ox P d) fs q=some ks->cD ks (X.drop q) (Y.drop q)=some b->(Op.eqFields D cs ds fs).run P w=.ok b w:=by
 intro fs
 induction fs with
 | nil=>intro q ks b h1 h2;simp[qo] at h1;subst h1;simp[cD] at h2;subst h2;rfl
 | cons f fs ih =>
  intro q ks b h1 h2;unfold qo at h1;obtain⟨h3,h1⟩:=al h1;simp only[auQ,auP] at h1;obtain⟨kf,hkf,kr,hkr,rfl⟩:=h1;simp only[auT,iE,au1,bne_iff_ne] at h3;obtain⟨hof,sJ⟩:=h3;obtain⟨b1,b2,e1,e2,rfl⟩:=vZ kf kr _ _ b h2;rw[av',av'] at e2;obtain⟨u,v,p1,p2,p3⟩:=hd f.type kf hkf n D q cs ds X Y b1 hX hY hD e1;have hr:=ih (q+kf.length) kr b2 hkr e2;unfold Op.eqFields;rw[if_pos sJ,hof];simp only[Sem.run_bind,p1,p2,p3,Result.andThen_ok];cases b1
  ·simp
  ·simp only[avW,av4,axF,hr,avv]
def tg{d:Nat}{t:TypeId}{k:List CK}(h:ox P (d+1) t=some k)(hu:P.underlying t=some (.struct fs)) :
  P.stoodInHeld t=false/\qo (ox P d) fs.toList 0=some k/\∃ sz,fD P t=some sz/\sz=k.length:=by
 unfold ox at h;rw[hu] at h;obtain⟨h1,h⟩:=al h;simp only[auQ] at h;obtain⟨ks,gG,h⟩:=h;obtain⟨h2,h⟩:=al h;injection h with h
 subst h;refine⟨cT h1,gG,?_⟩;cases hq:fD P t with
 | none=>rw[hq] at h2;cases h2
 | some m=>rw[hq] at h2;exact⟨m,rfl,by simpa [iE] using h2⟩
def xF{d:Nat}(hd:Hf P gh w d){t:TypeId}{k:List CK}(h:ox P (d+1) t=some k)(hu:P.underlying t=some (.struct fs))
  {n D:Nat} (hD:d<=D) {cs ds:Array Value} {X Y:List AV} {b:Bool} (hX:Row gh n w cs X) (hY:Row gh n w ds Y) (he:cD k X Y=some b) :
  (Op.equalIn (D+1) t (.agg cs) (.agg ds)).run P w=.ok b w:=by
 obtain⟨D6,gG,_⟩:=tg h hu;have hf:P.fieldsOf t=fs:=by unfold Program.fieldsOf;rw[hu]
 rw[run_equalIn_struct w D t _ _ (by rw[hf];exact hu) D6,hf]
 exact Mq hd hD hX hY fs.toList 0 k b gG (cT he)
def zN:∀ d:Nat,Hf P gh w d
 | 0=>fun t k h=>by cases h
 | d+1=>by
  intro t k h n D o cs ds X Y b hX hY hD he;have h0:=h;unfold ox at h;cases hu:P.underlying t with
  | none=>rw[hu] at h;cases h
  | some dd =>
   rw[hu] at h;cases dd<;>try (cases h;done)
   case bool=>injection h with h;subst h;exact uo (c:=.b) hX hY ah hu he
   case int kk=>injection h with h;subst h;exact uo (c:=.i) hX hY ah ⟨kk,hu⟩ he
   case string=>injection h with h;subst h;exact uo (c:=.s) hX hY ah hu he
   case struct fs =>
    obtain⟨_,_,sz,j9,hlen⟩:=tg h0 hu;have hg:nP P t=some true:=by unfold nP;rw[hu];rfl
    refine⟨.agg (cs.extract o (o+sz)),.agg (ds.extract o (o+sz)),by simp[part,jk hg,fC j9],by simp[part,jk hg,fC j9],?_⟩
    obtain⟨D,rfl⟩:∃ m,D=m+1:=⟨D-1,ah⟩;rw[<- ql k _ _ sz ah] at he;exact xF (zN d) h0 hu ah (hX.extract o sz) (hY.extract o sz) he
def Ng{b:Bool}{z:AV}(h:cq op b=some z):(op=.eql/\z=.bool b)\/(op=.neq/\z=.bool !b):=by
 cases op<;>simp[cq] at h
 ·exact .inl ⟨rfl,h.symm⟩
 ·exact .inr ⟨rfl,h.symm⟩
def oR{t:TypeId}{b:Bool}{z:AV}(h:cq op b=some z)(hr:(Op.equal t u v).run P w=.ok b w)
  (h1:∀ q,(binOp .eql t u v)=q->q=(do pure (.bool (<- Op.equal t u v)))) (h2:(binOp .neq t u v)=(do pure (.bool (!(<- Op.equal t u v))))) :
  ∃ r,(binOp op t u v).run P w=.ok r w/\PR gh.S w r z:=by
 rcases Ng h with ⟨rfl,rfl⟩|⟨rfl,rfl⟩
 ·exact⟨.bool b,by rw[h1 _ rfl];simp[hr],.bool _⟩
 ·exact⟨.bool !b,by rw[h2];simp[hr],.bool _⟩
def acO(hW:bf G base s.H gh w)(hF:FR L nt gh w a s){t u:TypeId}{y:Operand}{iy:aE}{z:AV}
  (ho:o.op=.binOp op t x y u) (hx:ar nt x=some ix) (hy:ar nt y=some iy)
  (he:Av op (pa P t) (dc ix || dc iy) (ix.eval G s.T) (iy.eval G s.T)=some z) :
  ∃ v,(execOp a.eval o).run P w=.ok (.value v) w/\oN gh s.H.length nt w s.T s.gen (gN a) v z:=by
 generalize hX:ix.eval G s.T=X at he;generalize hY:iy.eval G s.T=Y at he;have fin:∀ {U V:Value},a.eval x=U->a.eval y=V->(eqGuard op t x y U V).run P w=.ok () w->(∃ r,(binOp op t U V).run P w=.ok r w/\PR gh.S w r z) ->
   ∃ v,(execOp a.eval o).run P w=.ok (.value v) w/\oN gh s.H.length nt w s.T s.gen (gN a) v z:=by
  rintro U V hU hV hg ⟨r,hr,hp⟩
  exact⟨r,by simp[execOp,ho,hU,hV,hg,hr],.dU (.plain _ _ hp)⟩
 have acA:(dc ix || dc iy)=true->(∃ v,x=.const v)\/(∃ v,y=.const v):=by
  intro h
  rcases Bool.or_eq_true_iff.1 h with h|h
  ·left
   cases x<;>simp only[ar] at hx
   ·have:=(al hx).2;injection this with this;subst this;cases h
   ·exact⟨_,rfl⟩
   ·injection hx with hx;subst hx;cases h
   ·injection hx with hx;subst hx;cases h
  ·right
   cases y<;>simp only[ar] at hy
   ·have:=(al hy).2;injection this with this;subst this;cases h
   ·exact⟨_,rfl⟩
   ·injection hy with hy;subst hy;cases h
   ·injection hy with hy;subst hy;cases h
 unfold Av at he;split at he
 ·
  obtain⟨h0,yw⟩:=al he;have hk:=of_decide_eq_true h0;have h1:=(cX hW hF hx hX rfl).kC;have h2:=(cX hW hF hy hY rfl).kC;rw[<- hk] at h2;exact fin h1 h2 (gz (by intro c;simp) (.inl ag)) (LZ yw t)
 ·
  obtain⟨p,h1,hp⟩:=(cX hW hF hx hX rfl).kE;obtain⟨q,h2,hq⟩:=(cX hW hF hy hY rfl).kE;subst hp hq;exact fin h1 h2 (gz (by intro c;simp) (.inl ag)) (L0 he t)
 ·
  rename_i p q;have h1:=(cX hW hF hx hX rfl).lW;have h2:=(cX hW hF hy hY rfl).lW;generalize hQ:pa P t=Q at he;cases Q<;>simp only[reduceCtorEq] at he
  have ht:P.underlying t=some .bool:=by
   unfold pa at hQ
   split at hQ<;>first|assumption|(cases hQ)|skip
   cases hb:(!P.eqGuardType P.depth t)<;>rw[hb] at hQ<;>simp at hQ
   split at hQ<;>cases hQ
  exact fin h1 h2 (gz (by intro c;simp) (.inl ag)) (oR he (run_equal_bool w t p q ht) (by rintro _ rfl;rfl) rfl)
 ·
  rename_i xs ys;obtain⟨cs,h1,qa,_,CV⟩:=(cX hW hF hx hX rfl).mf;obtain⟨ds,h2,xe,_,MJ⟩:=(cX hW hF hy hY rfl).mf;generalize hQ:pa P t=Q at he;cases Q<;>simp only[reduceCtorEq,auQ] at he
  rename_i ks;obtain⟨b,hb,he⟩:=he;obtain⟨hg,hk⟩:P.eqGuardType P.depth t=false/\ox P 8 t=some ks:=by
   unfold pa at hQ
   split at hQ<;>first|(cases hQ;done)|skip
   cases hb:(P.eqGuardType P.depth t)<;>rw[hb] at hQ<;>simp at hQ
   split at hQ<;>first|(cases hQ;done)|skip
   injection hQ with hQ
   subst hQ;exact⟨rfl,by assumption⟩
  obtain⟨fs,hu⟩:∃ fs,P.underlying t=some (.struct fs):=by
   unfold pa at hQ;cases hu:P.underlying t with
   | none=>rw[hu] at hQ;cases hQ
   | some d =>
    rw[hu] at hQ;cases d<;>simp only[reduceCtorEq] at hQ
    exact⟨_,rfl⟩
  have fe:(Op.equal t (.agg cs) (.agg ds)).run P w=.ok b w :=
   xF (zN 7) hk hu (D:=9999) ah (n:=s.H.length) ⟨qa,CV⟩ ⟨xe,MJ⟩ hb
  exact fin h1 h2 (run_eqGuard_agg w op t x y cs ds hg) (oR he fe (by rintro _ rfl;rfl) rfl)
 ·
  obtain⟨h0,he⟩:=al he;obtain⟨amU,hq⟩:=Bool.and_eq_true_iff.1 h0;simp only[auQ] at he;obtain⟨b,hb,he⟩:=he;have ht:∃ m,P.underlying t=some (.interface m):=by
   generalize hQ:pa P t=Q at hq;cases Q<;>simp only[reduceCtorEq] at hq
   unfold pa at hQ
   split at hQ<;>first|exact⟨_,by assumption⟩|(cases hQ;done)|skip
   cases hb:(!P.eqGuardType P.depth t)<;>rw[hb] at hQ<;>simp at hQ
   split at hQ<;>cases hQ
  obtain⟨m,ht⟩:=ht;have h2:=(cX hW hF hy hY rfl).yF;split at hb
  ·injection hb with hb
   subst hb;have h1:=(cX hW hF hx hX rfl).yF;have hr:(Op.equal t .nilIface .nilIface).run P w=.ok true w:=(fun d=>(by simp[Op.equalIn,run_underlying ht]:(Op.equalIn (d+1) t .nilIface .nilIface).run P w=.ok true w)) 9999
   refine fin h1 h2 ?_ (oR he hr (by rintro _ rfl;rfl) rfl)
   rcases acA amU with ⟨v,rfl⟩|⟨v,rfl⟩
   ·cases op<;>simp[eqGuard]
   ·cases op<;>simp[eqGuard]
  ·injection hb with hb
   subst hb;obtain⟨q,h1⟩:=(cX hW hF hx hX rfl).QI;have hr:∀ ti,(Op.equal t (.iface ti q) .nilIface).run P w=.ok false w:=fun ti=>(fun d=>(by simp[Op.equalIn,run_underlying ht]:(Op.equalIn (d+1) t (.iface ti q) .nilIface).run P w=.ok false w)) 9999
   exact fin h1 h2 (gz (by intro c;simp) (.inl ag)) (oR he (hr _) (by rintro _ rfl;rfl) rfl)
  ·cases hb
 ·
  obtain⟨h0,he⟩:=al he;simp only[auQ] at he;obtain⟨b,hb,he⟩:=he;have ht:∃ p q r,P.underlying t=some (.func p q r):=by
   generalize hQ:pa P t=Q at h0;cases Q<;>simp only[reduceCtorEq] at h0
   unfold pa at hQ
   split at hQ<;>first|exact⟨_,_,_,by assumption⟩|(cases hQ;done)|skip
   cases hb:(!P.eqGuardType P.depth t)<;>rw[hb] at hQ<;>simp at hQ
   split at hQ<;>cases hQ
  obtain⟨p,q,r,ht⟩:=ht;have h2:=(cX hW hF hy hY rfl).AR;split at hb
  ·injection hb with hb
   subst hb;have h1:=(cX hW hF hx hX rfl).AR;have hr:(Op.equal t .nilFunc .nilFunc).run P w=.ok true w:=(fun d=>(by simp[Op.equalIn,run_underlying ht]:(Op.equalIn (d+1) t .nilFunc .nilFunc).run P w=.ok true w)) 9999
   exact fin h1 h2 (gz (by intro c;simp) (.inl ag)) (oR he hr (by rintro _ rfl;rfl) rfl)
  ·injection hb with hb
   subst hb;obtain⟨fs,cs,h1,_⟩:=(cX hW hF hx hX rfl).uH;have hr:∀ f,(Op.equal t (.func f fs cs) .nilFunc).run P w=.ok false w:=fun f=>(fun d=>(by simp[Op.equalIn,run_underlying ht]:(Op.equalIn (d+1) t (.func f fs cs) .nilFunc).run P w=.ok false w)) 9999
   exact fin h1 h2 (gz (by intro c;simp) (.inl ag)) (oR he (hr _) (by rintro _ rfl;rfl) rfl)
  ·cases hb
 ·cases he
end
end
section
section
variable {P:Program}{G:Nat->List AV}{base nt:Nat}{L:List Nat}{gh:Gh}{w:World}{a:Act}{s:AS}
def rU(gh:Gh)(n:Nat)(w:World)(C:Array Value)(X:List AV):Prop :=
 C.size=X.length/\∀ (j:Nat) (v:Value) (x:AV),C[j]?=some v->X[j]?=some x->VR gh n w v x/\v.oneCell'=true
def VR.gm{n:Nat}{x:AV}(h:VR gh n w v x)(hx:∀ cs,x≠.agg cs)(tV:∀ cs,x≠.tuple cs):v.oneCell'=true:=by
 cases h with
 | plain _ _ h=>exact h.gm
 | full=>rfl
 | ref=>rfl
 | sref=>rfl
 | mref=>rfl
 | func=>rfl
 | iface=>rfl
 | agg _ xs=>exact absurd rfl (hx xs)
 | tuple _ xs=>exact absurd rfl (tV xs)
theorem vd{n:Nat}{x:AV}(h:VR gh n w v x)(hc:x.cells=some cs):rU gh n w v.cells cs:=by
 have single:x.cells=some [x]->(∀ cs,x≠.agg cs)->(∀ cs,x≠.tuple cs)->rU gh n w v.cells cs:=by
  intro h1 h2 h3;rw[h1] at hc;injection hc with hc
  subst hc;have iw:=h.gm h2 h3;have:v.cells=#[v]:=by cases v<;>first|rfl|(simp[Value.oneCell'] at iw)
  rw[this];refine⟨rfl,fun j u y hu hy=>?_⟩
  grind
 cases x
 case agg xs =>
  obtain⟨C,rfl,hs,iw,h⟩:=h.mf;injection hc with hc
  subst hc;exact⟨hs,fun j v x hv hx=>⟨h j v x hv hx,iw j v hv⟩⟩
 case any=>cases hc
 case tuple=>cases hc
 case lbox=>cases hc
 case lref=>cases hc
 case lsl=>cases hc
 case lsr=>cases hc
 case eref=>cases hc
 case iter=>cases hc
 all_goals exact single rfl (by intro cs h;cases h) (by intro cs h;cases h)
theorem rU.dropped{n:Nat}(h:rU gh n w C X):rU gh n w C (X.map AV.drop):=by
 refine⟨by simp[h.1],fun j v x hv hx=>?_⟩
 simp only[List.getElem?_map,auP] at hx;obtain⟨y,hy,rfl⟩:=hx;exact⟨VR.dropped (h.2 j v y hv hy).1,(h.2 j v y hv hy).2⟩
theorem qB:∀ (l:List Value) (off k:Nat) (C:Array Value) (j:Nat),off+k+l.length<=C.size ->
  ((l.zipIdx k).foldl (fun cs (c,i)=>cs.setIfInBounds (off+i) c) C)[j]?=if off+k<=j/\j<off+k+l.length then l[j-(off+k)]? else C[j]?
 | [],off,k,C,j,h=>dw
 | v :: l,off,k,C,j,h=>by
  have h' : off+(k+1)+l.length<=(C.setIfInBounds (off+k) v).size:=by simp at h ⊢;omega
  rw[axa,axr,qB l off (k+1) _ j h']
  grind
def pg:∀ (l:List (Value × Nat)) (off:Nat) (C:Array Value),(l.foldl (fun cs (c,i)=>cs.setIfInBounds (off+i) c) C).size=C.size
 | [],off,C=>rfl
 | v :: l,off,C=>by rw[axr,pg l off];simp
theorem vC(h:off+cs.length<=l.length)(j:Nat):(putAt l off cs)[j]?=if off<=j/\j<off+cs.length then cs[j-off]? else l[j]?:=by
 have anE:min off l.length=off:=ah;unfold putAt
 grind
def rG(h:off+cs.length<=l.length):(putAt l off cs).length=l.length:=by
 unfold putAt;simp;omega
def rU.put{n:Nat}{D:Array Value}(h:rU gh n w C X)(hd:rU gh n w D Y)(hl:off+Y.length<=X.length) :
  rU gh n w (D.zipIdx.foldl (fun cs (c,i)=>cs.setIfInBounds (off+i) c) C) (putAt X off Y):=by
 have e:D.zipIdx.foldl (fun cs (c,i)=>cs.setIfInBounds (off+i) c) C=(D.toList.zipIdx 0).foldl (fun cs (c,i)=>cs.setIfInBounds (off+i) c) C:=by
  rw[<- Array.foldl_toList,axJ]
 rw[e];refine⟨by rw[pg,rG hl,h.1],fun j v x hv hx=>?_⟩
 have hD:D.toList.length=Y.length:=cT hd.1;rw[qB _ _ _ _ _ (by rw[hD,h.1];omega)] at hv
 rw[vC hl] at hx;simp only[au7,hD] at hv
 by_cases hc:off<=j/\j<off+Y.length
 ·rw[if_pos hc] at hv hx
  exact hd.2 _ v x (cT hv) hx
 ·rw[if_neg hc] at hv hx
  exact h.2 j v x hv hx
theorem Cy{n:Nat}{place:Nat->Option (Nat × Nat)} : ∀ (parts:List (Nat × Value)) (ip:List (Nat × Nat × AV)) (C:Array Value) (Z Z' : List AV),rU gh n w C Z->fw Z ip=some Z'->parts.length=ip.length ->
  (∀ (j:Nat) (p:Nat × Value) (q:Nat × Nat × AV),parts[j]?=some p->ip[j]?=some q->place p.1=some (q.1,q.2.1)/\(∀ cs,q.2.2.cells=some cs->rU gh n w p.2.cells cs)) ->
  ∃ C',Instr.fill place C parts=some C'/\rU gh n w C' Z'
 | [],[],C,Z,Z',h,hb,_,_=>by simp[fw] at hb;subst hb;exact⟨C,rfl,h⟩
 | p :: parts,q :: ip,C,Z,Z',h,hb,hl,hp=>by
  obtain⟨h1,h2⟩:=hp 0 p q rfl rfl;obtain⟨i,v⟩:=p;obtain⟨off,sz,x⟩:=q;simp only[fw] at hb;split at hb
  ·cases hb
  ·rename_i cs iG
   obtain⟨h3,iJ⟩:=al hb;simp only[auT,iE,au1,avm] at h3;have hr:=h2 cs iG;have j9:v.cells.size=sz:=by rw[hr.1];exact h3.1
   have hlen:(cs.map AV.drop).length=cs.length:=ag;obtain⟨C',hf,bU⟩:=Cy parts ip _ _ Z' (h.put hr.dropped (off:=off) (by rw[hlen];exact h3.2)) iJ (cT hl) (fun j p q oz hq'=>hp (j+1) p q (cT oz) (cT hq'))
   refine⟨C',?_,bU⟩;simp only at h1;unfold Instr.fill;rw[h1];have mH:¬ (decide (v.cells.size≠sz) || decide (off+v.cells.size>C.size))=true:=by
    have:=hr.1;have:=h.1
    simp;omega
   grind
 | [],_ :: _,_,_,_,_,_,hl,_=>by simp at hl
 | _ :: _,[],_,_,_,_,_,hl,_=>by simp at hl
def Ln{n:Nat}{t:TypeId}(h:gX P t=some z):∃ i zv,P.info? t=some i/\i.zero=some zv/\rU gh n w zv.cells z:=by
 simp only[gX,auQ] at h;obtain⟨zv,⟨i,hi,hz⟩,hc⟩:=h;obtain⟨h1,h2⟩:=lP (gh:=gh) (n:=n) (w:=w) hc;exact⟨i,zv,hi,hz,cT h1,fun j v x hv hx=>h2 j v x (cT hv) hx⟩
def F4{n:Nat}{x:AV}(h:lG v=some x):VR gh n w v (oB x):=by
 have hv:VR gh n w v x:=x8 h;unfold oB;split
 ·unfold lG at h
  split at h<;>first|(cases h;done)|(injection h with h;cases h;done)|exact .plain _ _ .aq
 ·exact hv
def Ht{n:Nat}{x:AV}(h:uk v=some x):VR gh n w v (oB x):=by
 have h0:=kP (gh:=gh) (n:=n) (w:=w) h;unfold uk at h;split at h
 ·simp only[auP] at h
  obtain⟨l,_,rfl⟩:=h;exact h0
 ·exact F4 h
def um:∀ {vs:List Value} {xs:List AV},fy vs=some xs->∀ (j:Nat) (v:Value) (x:AV),vs[j]?=some v->xs[j]?=some x->lG v=some x
 | [],xs,h,j,v,x,hv,hx=>by simp at hv
 | u :: vs,xs,h,j,v,x,hv,hx=>by
  simp only[fy,auQ,auP] at h;obtain⟨y,hy,ys,QC,rfl⟩:=h;cases j with
  | zero=>simp at hv hx;subst hv hx;exact hy
  | succ j=>exact um QC j v x (cT hv) (cT hx)
def rR{n:Nat}{t:TypeId}{b:Bool}(h:(gX P t).map (fun z=>cond b (z.map oB) z)=some z):∃ i zv,P.info? t=some i/\i.zero=some zv/\rU gh n w zv.cells z:=by
 simp only[auP] at h;obtain⟨z0,h0,rfl⟩:=h;obtain⟨i,zv,h1,h2,h3⟩:=Ln (gh:=gh) (n:=n) (w:=w) h0;refine⟨i,zv,h1,h2,?_⟩;cases b with
 | false=>exact h3
 | true =>
  refine⟨cT h3.1,fun j v x hv hx=>?_⟩
  simp only[cond_true,List.getElem?_map,auP] at hx;obtain⟨y,hy,rfl⟩:=hx;simp only[gX,auQ] at h0;obtain⟨zv',⟨i',j8,WD⟩,hc⟩:=h0;rw[h1] at j8;injection j8 with j8
  subst j8;rw[h2] at WD;injection WD with WD
  subst WD;exact⟨F4 (um hc j v y (cT hv) hy),(h3.2 j v y hv hy).2⟩
def rE(hW:bf G base s.H gh w)(hF:FR L nt gh w a s)(hc:ar nt x=some y):∀ cs,(y.eval G s.T).drop.cells=some cs->rU gh s.H.length w (a.eval x).cells cs:=by
 intro cs iG;have hf:aM (y.eval G s.T)=true:=by
  rw[<- kS];generalize (y.eval G s.T).drop=Y at iG
  cases Y<;>first|rfl|cases iG
 exact vd (cX hW hF hc rfl hf) iG
theorem Bb(hW:bf G base s.H gh w)(hF:FR L nt gh w a s){t:TypeId}
  (ho:o.op=.build t parts) {kp:Bool} (hz:(gX P t).map (fun z=>cond kp (z.map oB) z)=some z) (hu:P.underlying t=some (.struct fs)) (hp:oP P nt fs.toList parts.toList=some ps)
  (fq:∃ pl,fs.toList.mapM (fun f=>(P.info? f.type).map fun i=>(f.offset,i.size))=some pl)
  (he:fw z (ps.map fun p=>(p.1,p.2.1,(p.2.2.eval G s.T).drop))=some Z) :
  ∃ v,(execOp a.eval o).run P w=.ok (.value v) w/\oN gh s.H.length nt w s.T s.gen (gN a) v (.agg Z):=by
 obtain⟨i,zv,hi,QD,bU⟩:=rR (gh:=gh) (n:=s.H.length) (w:=w) hz;obtain⟨pl,ij⟩:=fq;have inv:∀ (l:List (Nat × Operand)) (ps:List (Nat × Nat × aE)),oP P nt fs.toList l=some ps->l.length=ps.length /\
   ∀ (j:Nat) (p:Nat × Operand) (q:Nat × Nat × aE),l[j]?=some p->ps[j]?=some q->(∃ f,fs.toList[p.1]?=some f/\fD P f.type=some q.2.1/\f.offset=q.1)/\ar nt p.2=some q.2.2:=by
  intro l
  induction l with
  | nil=>intro ps h;simp[oP] at h;subst h;exact⟨rfl,fun j p q h=>by simp at h⟩
  | cons p l ih =>
   intro ps h;obtain⟨k,x⟩:=p;simp only[oP,auQ,auP] at h
   grind
 obtain⟨hl,hinv⟩:=inv _ _ hp;have adS:∀ (k:Nat) (f:Go.Field) (sz:Nat),fs.toList[k]?=some f->fD P f.type=some sz->pl.toArray[k]?=some (f.offset,sz):=by
  have gen:∀ (l:List Go.Field) (pl:List (Nat × Nat)),l.mapM (fun f=>(P.info? f.type).map fun i=>(f.offset,i.size))=some pl->∀ (k:Nat) (f:Go.Field) (sz:Nat),l[k]?=some f->fD P f.type=some sz->pl[k]?=some (f.offset,sz):=by
   intro l
   induction l with
   | nil=>intro pl _ k f sz h;simp at h
   | cons g l ih =>
    intro pl h k f sz hk hs;simp only[List.mapM_cons,Option.bind_eq_bind,Option.pure_def,auQ,auP] at h
    grind [oH]
  intro k f sz hk hs
  simpa using gen _ _ ij k f sz hk hs
 obtain⟨C',hf,yC⟩:=Cy (gh:=gh) (w:=w) (n:=s.H.length) (place:=fun x=>pl.toArray[x]?) ((parts.map fun p=>(p.1,a.eval p.2)).toList) (ps.map fun p=>(p.1,p.2.1,(p.2.2.eval G s.T).drop)) zv.cells z Z bU he (cT hl) (by
  intro j p q hp hq;simp only[axm,List.getElem?_map,auP] at hp hq;obtain⟨p0,Lx,rfl⟩:=hp;obtain⟨q0,hq0,rfl⟩:=hq;obtain⟨⟨f,hf,hs,OE⟩,hc⟩:=hinv j p0 q0 Lx hq0;exact⟨by rw[adS _ f _ hf hs,OE],rE hW hF hc⟩)
 have hb:P.built t (parts.map fun p=>(p.1,a.eval p.2)).toList=some C':=by
  unfold Program.built;rw[hi,hu];simp only[QD,ij];exact hf
 refine⟨.agg C',by simp[execOp,ho,run_build w t _ C' hb],.dU (.agg _ _ yC.1 (fun j v hj=>?_) (fun j v x hv hx=>(yC.2 j v x hv hx).1))⟩
 have aZ:j<Z.length:=by rw[<- yC.1];exact (auZ.1 hj).1
 exact (yC.2 j v _ hj (auS aZ)).2
end
end
section
section
variable {G:Nat->List AV}{base nt:Nat}{L:List Nat}{gh:Gh}{w w' : World}{a:Act}{s:AS}{H:ae}
def Gh.alloc(gh:Gh)(b:Nat)(p:bL)(q:Nat->Prop):Gh:={ S:=fun b' o=>gh.S b' o\/(b'=b/\q o),κ:=fun b'=>if b'=b then p else gh.κ b',ρ:=gh.ρ }
structure fS (w w' : World) (o:Obj):Prop where
 heap:w'.heap=w.heap.push o
 os:w'.os=w.os
 tape:w'.tape=w.tape
 output:w'.output=w.output
def fS.alloc(w:World)(o:Obj):fS w (w.alloc o) o:=⟨rfl,rfl,rfl,rfl⟩
def fS.drew(w:World)(o:Obj):fS w (w.drew.alloc o) o:=⟨rfl,rfl,rfl,rfl⟩
def fS.old{o:Obj}(h:fS w w' o)(b:Nat)(hb:b<w.heap.size):w'.heap[b]?=w.heap[b]?:=by
 rw[h.heap,awy,if_neg (by omega)]
def fS.new{o:Obj}(h:fS w w' o):w'.heap[w.heap.size]?=some o:=by
 rw[h.heap,awy,if_pos rfl]
def fS.size{o:Obj}(h:fS w w' o):w'.heap.size=w.heap.size+1:=by rw[h.heap];simp
def cell_of_heap{o:Nat}(h:w'.heap[b]?=w.heap[b]?):w'.cell? ⟨b,o,none⟩=w.cell? ⟨b,o,none⟩:=by simp[World.cell?,h]
def bf.cA(hW:bf G base H gh w)(b:Nat)(hb:w.heap.size<=b):gh.κ b≠.outer:=by rw[hW.fresh b hb];simp
def jf(hW:bf G base H gh w){o:Obj}(hp:fS w w' o)(dp:p≠.outer)(q:Nat->Prop)(n:Nat):Step (fun _=>False) n gh w (gh.alloc w.heap.size p q) w':=by
 refine⟨fun b o h=>.inl h,fun b o h=>cell_of_heap (hp.old b (hW.pN b o h)),by rw[hp.size];omega,hp.os,hp.tape,hp.output,?_,?_,fun _ _=>rfl,fun b ty m hb=>by
  obtain⟨C,fr,h1,h2⟩:=hb;exact⟨C,fr,by rw[hp.old b (auZ.1 h1).1];exact h1,h2⟩,fun b E ck hs hb=>by rw[hp.old b (hW.pN b 0 hs)];exact hb⟩
 ·intro b hb _
  have Fv:b≠w.heap.size:=by omega
  refine⟨.inl (hp.old b hb),by simp[Gh.alloc,Fv],fun o ho=>?_⟩
  rcases ho with ho|⟨e,_⟩
  ·exact ho
  ·exact absurd e Fv
 ·intro b hb
  show (if b=w.heap.size then p else gh.κ b)≠.outer
  split
  ·exact dp
  ·exact hW.cA b hb
theorem oO(hW:bf G base H gh w){o:Obj}(hp:fS w w' o)(dp:p≠.outer)(q:Nat->Prop)(n:Nat):Ext n gh w (gh.alloc w.heap.size p q) w':=by
 refine⟨(jf hW hp dp q n).mono (fun _ h=>h.elim),fun b hb=>?_⟩
 have iJ:(if b=w.heap.size then p else gh.κ b)=.outer:=hb
 grind
def bf.step(hW:bf G base H gh w)(st:Step touch H.length gh w bt w')(ht:∀ l,¬ touch (.hb l)/\∀ j,¬ touch (.hs l j))
  (hs:∀ b o,bt.S b o->b<w'.heap.size) (hk:∀ b,bt.κ b≠.none->base<=b/\b<w'.heap.size)
  (jX:∀ b o m,bt.S b o->gh.S b o\/(w'.cell? ⟨b,o,none⟩=some (.int .u8 m)->∃ C fr,w'.heap[b]?=some (.cells C jg fr))):bf G base H bt w':=by
 refine⟨avx hW.size st.size,hs,hk,fun g j x hx=>?_,fun loc ty cs hl=>?_,hW.refs,fun g hg=>(hW.Bq g hg).imp fun ty h=>st.len g ty _ h,hW.mj st jX,fun loc o hl=>?_,fun loc ty cs hl=>?_⟩
 ·obtain⟨v,h1,h2,h3⟩:=hW.aW g j x hx
  exact⟨v,(st.cell g j h3).trans h1,h2.mono st.S st.cell st.mp,st.S g j h3⟩
 ·have aZ:loc<H.length:=(auU.1 hl).1
  have h:=(hW.boxes loc ty cs hl).mono st (Nat.le_refl _) (ht loc).1 (ht loc).2;rw[st.ρ loc aZ];exact h
 ·rw[st.ρ loc (auU.1 hl).1]
  exact (hW.more loc o hl).mono st (Nat.le_refl _) (ht loc).1 (ht loc).2
 ·rw[st.ρ loc (auU.1 hl).1]
  exact fun hf=>st.len _ _ _ (hW.types loc ty cs hl hf)
def bf.alloc(hW:bf G base H gh w){o:Obj}(hp:fS w w' o)(dp:p≠.outer)(q:Nat->Prop)
  (hq:∀ k m,q k->w'.cell? ⟨w.heap.size,k,none⟩=some (.int .u8 m)->∃ C fr,w'.heap[w.heap.size]?=some (.cells C jg fr)):bf G base H (gh.alloc w.heap.size p q) w':=by
 refine hW.step (jf hW hp dp q H.length) (fun l=>⟨id,fun _=>id⟩) ?_ ?_ (fun b k m h=>h.elim .inl (fun ⟨e,hk⟩=>.inr (by subst e;exact hq k m hk)))
 ·intro b o ho
  rw[hp.size]
  rcases ho with ho|⟨rfl,_⟩
  ·have:=hW.pN b o ho;omega
  ·omega
 ·intro b hb
  rw[hp.size];have iJ:(if b=w.heap.size then p else gh.κ b)≠.none:=hb
  split at iJ
  ·rename_i e
   have:=hW.size
   omega
  ·have:=hW.qN b iJ;omega
def Gh.tN(gh:Gh)(b:Nat)(p:bL):Gh:={ gh with κ:=fun b'=>if b'=b then p else gh.κ b' }
def mF(hW:bf G base H gh w)(hb:b<w.heap.size)(p:bL)(n:Nat):Step (fun r=>r=gh.κ b) n gh w (gh.tN b p) w:=by
 refine⟨fun _ _ h=>h,fun _ _ _=>rfl,Nat.le_refl _,rfl,rfl,rfl,fun b' iJ hn=>⟨.inl rfl,?_,fun _ h=>h⟩,fun b' iJ=>?_,fun _ _=>rfl,fun _ _ _ h=>h,fun _ _ _ _ h=>h⟩
 ·have dp:b'≠b:=by rintro rfl;exact hn rfl
  simp[Gh.tN,dp]
 ·have dp:b'≠b:=by omega
  simp only[Gh.tN,if_neg dp];exact hW.cA b' iJ
theorem yp(hW:bf G base H gh w)(hb:b<w.heap.size)(hp:p≠.outer)(h0:gh.κ b≠.none)(h1:gh.κ b≠.outer)(n:Nat):Ext n gh w (gh.tN b p) w:=by
 refine⟨(mF hW hb p n).mono (fun r h=>by rw[h];exact⟨h0,h1⟩),fun b' iJ=>?_⟩
 have j7:(if b'=b then p else gh.κ b')=.outer:=iJ
 grind
def Mu(hW:bf G base H gh w)(hb:b<w.heap.size)(p:bL)(h0:gh.κ b≠.none)(ht:∀ l,gh.κ b≠.hb l/\∀ j,gh.κ b≠.hs l j):bf G base H (gh.tN b p) w:=by
 refine hW.step (mF hW hb p H.length) (fun l=>⟨fun h=>(ht l).1 h.symm,fun j h=>(ht l).2 j h.symm⟩) hW.pN ?_ (fun _ _ _ h=>.inl h)
 intro b' iJ;have j7:(if b'=b then p else gh.κ b')≠.none:=iJ
 split at j7
 ·rename_i e;rw[e];exact hW.qN b h0
 ·exact hW.qN b' j7
theorem rH(hW:bf G base H gh w)(hb:w.heap[b]?=some (.cells C ty fr))(j9:C'.size=C.size)(q:Nat->Prop)
  (dm:∀ o,gh.S b o->C'[o]?=C[o]?) (p:bL) (n:Nat) :
  Step (fun r=>r=gh.κ b) n gh w { gh with S:=fun b' o=>gh.S b' o\/(b'=b/\q o),κ:=fun b'=>if b'=b then p else gh.κ b' } (w.setRow b C'):=by
 have aZ:b<w.heap.size:=(auZ.1 hb).1;refine⟨fun b o h=>.inl h,fun b' o h=>?_,by simp,rfl,rfl,rfl,fun b' iJ hn=>?_,fun b' iJ=>?_,fun _ _=>rfl,fun b' oe m hm=>by
  obtain⟨D,fr',h1,h2⟩:=hm
  by_cases e:b'=b
  ·subst e
   rw[hb] at h1;injection h1 with h1
   injection h1 with h1 h3 h4
   subst h1 h3;exact⟨C',fr,setRow_heap w b' C C' ty fr hb,by rw[j9,h2]⟩
  ·exact⟨D,fr',by rw[setRow_other w b b' C' e];exact h1,h2⟩,fun b' E ck hs hm=>by
  have e:b'≠b:=by rintro rfl;rw[hb] at hm;cases hm
  rw[setRow_other w b b' C' e];exact hm⟩
 ·by_cases e:b'=b
  ·subst e
   rw[cell_setRow_same w b' o C C' ty fr hb,dm o h];simp[World.cell?,hb]
  ·exact cell_of_heap (setRow_other w b b' C' e)
 ·have dp:b'≠b:=by rintro rfl;exact hn rfl
  refine⟨.inl (setRow_other w b b' C' dp),by simp[dp],fun o ho=>?_⟩
  grind
 ·have dp:b'≠b:=by omega
  simp only[if_neg dp];exact hW.cA b' iJ
theorem BS(hW:bf G base H gh w)(hb:w.heap[b]?=some (.cells C ty fr))(j9:C'.size=C.size)(q:Nat->Prop)
  (dm:∀ o,gh.S b o->C'[o]?=C[o]?) {p:bL} (hp:p≠.outer) (h0:gh.κ b≠.none) (h1:gh.κ b≠.outer) (n:Nat) :
  Ext n gh w { gh with S:=fun b' o=>gh.S b' o\/(b'=b/\q o),κ:=fun b'=>if b'=b then p else gh.κ b' } (w.setRow b C'):=by
 refine⟨(rH hW hb j9 q dm p n).mono (fun r h=>by rw[h];exact⟨h0,h1⟩),fun b' iJ=>?_⟩
 grind
def O4(hW:bf G base H gh w)(hb:w.heap[b]?=some (.cells C ty fr))(j9:C'.size=C.size)(q:Nat->Prop)
  (dm:∀ o,gh.S b o->C'[o]?=C[o]?) (hq:∀ k m,q k->C'[k]?=some (.int .u8 m)->ty=jg) (p:bL) (h0:gh.κ b≠.none) (ht:∀ l,gh.κ b≠.hb l/\∀ j,gh.κ b≠.hs l j) :
  bf G base H { gh with S:=fun b' o=>gh.S b' o\/(b'=b/\q o),κ:=fun b'=>if b'=b then p else gh.κ b' } (w.setRow b C'):=by
 have aZ:b<w.heap.size:=(auZ.1 hb).1;refine hW.step (rH hW hb j9 q dm p H.length) (fun l=>⟨fun h=>(ht l).1 h.symm,fun j h=>(ht l).2 j h.symm⟩) ?_ ?_ (fun b' k m h=>h.elim .inl (fun ⟨e,hk⟩=>.inr (fun hc=>by
   subst e;rw[cell_setRow_same w b' k C C' ty fr hb] at hc;have:=hq k m hk hc
   subst this;exact⟨C',fr,setRow_heap w b' C C' _ fr hb⟩)))
 ·intro b' o ho
  simp
  rcases ho with ho|⟨rfl,_⟩
  ·exact hW.pN b' o ho
  ·exact aZ
 ·intro b' iJ
  simp;have j7:(if b'=b then p else gh.κ b')≠.none:=iJ
  split at j7
  ·rename_i e;rw[e];exact hW.qN b h0
  ·exact hW.qN b' j7
theorem FR.cy(h:FR L nt gh w a s)(st:Step touch s.H.length gh w bt w'){t:Nat}{X:AV}{H':ae}{lo':Nat}(hH:s.H.length<=H'.length)
  (ht:∀ i,i≠t->¬ touch (.bx i)/\¬ touch (.sl i)/\∀ j,¬ touch (.sc i j))
  (hX:(t<nt/\fz X=fz (s.T t))\/fz X=none) (hsr:t<nt->SR bt H'.length nt w' s.T s.gen (gN a) t (gN a t) X) :
  FR L nt bt w' a (({ s with H:=H',lo:=lo' } : AS).cy t X):=by
 refine h.update st h.defers h.size hH (Nat.le_refl _) (fun i=>i=t) ?_ ?_ ?_
 ·intro i hi
  exact⟨by simp[AS.cy,kZ,hi],fun _=>⟨rfl,ht i hi⟩⟩
 ·rintro i rfl
  simp only[AS.cy,kZ,awE]
  grind
 ·rintro i rfl hi
  simp only[AS.cy,kZ,awE];refine SR.mono (touch:=fun _=>False) (n:=H'.length) (gh:=bt) (w:=w') (Step.refl _ _ _ _ (fun b hb=>st.fresh b (avx st.size hb))) (Nat.le_refl _) (Nat.le_refl _) id id (fun _=>id) ?_ (hsr hi)
  grind [kZ]
theorem FR.Vk(h:FR L nt gh w a s)(hg:s.gen<=gen')(gI:∀ b,w.heap.size<=b->gh.κ b≠.outer)(d:Option Nat)(hd:∀ k,d=some k->k<nt){x:AV}
  (hx:fz x=none\/((∃ g,s.gen<=g/\fz x=some g)/\∀ k,d=some k->k∈L))
  (hv:∀ k,d=some k->SR gh s.H.length nt w s.T gen' (gN a) k v x):FR L nt gh w (a.put d v) (({ s with gen:=gen' } : AS).bW d x):=by
 have st:Step (fun _=>False) s.H.length gh w gh w:=Step.refl _ _ _ _ gI
 cases d with
 | none=>exact h.update st h.defers h.size (Nat.le_refl _) hg (fun _=>False) (fun i _=>⟨rfl,fun _=>⟨rfl,id,id,fun _=>id⟩⟩) (fun _ h=>h.elim) (fun _ h=>h.elim)
 | some d =>
  have aZ:=hd d rfl;have j9:d<a.tmps.size:=by rw[h.size];exact aZ
  refine h.update (s':=({ s with gen:=gen' } : AS).bW (some d) x) st ((A3 a (some d) v).trans h.defers) ((KQ a (some d) v).trans h.size) (Nat.le_refl _) hg (fun i=>i=d) ?_ ?_ ?_
  ·intro i hi
   exact⟨by simp[AS.bW,AS.cy,kZ,hi],fun _=>⟨by rw[qw a d v i j9,if_neg hi],id,id,fun _=>id⟩⟩
  ·rintro i rfl
   simp only[AS.bW,AS.cy,kZ,awE]
   grind
  ·rintro i rfl hi
   simp only[AS.bW,AS.cy,kZ,awE];rw[qw a i v i j9,if_pos rfl];have oG:=hv i rfl;cases x
   case lref b g off =>
    obtain⟨h1,h2,h3⟩:=oG;refine⟨h1,h2,fun Mz b' iJ=>?_⟩
    by_cases Tw:b=i
    ·subst Tw;simp[kZ,fz] at Mz
    ·simp only[kZ,if_neg Tw] at Mz
     rw[qw a i v b j9,if_neg Tw] at iJ;exact h3 Mz b' iJ
   case lsr b g =>
    obtain⟨h1,h2,h3⟩:=oG;refine⟨h1,h2,fun Mz=>?_⟩
    by_cases Tw:b=i
    ·subst Tw;simp[kZ,fz] at Mz
    ·simp only[kZ,if_neg Tw] at Mz
     rw[qw a i v b j9,if_neg Tw];exact h3 Mz
   case eref b g r z off =>
    obtain⟨h1,h2,h3⟩:=oG;refine⟨h1,h2,fun Mz b' k cap iJ=>?_⟩
    by_cases Tw:b=i
    ·subst Tw;simp[kZ,fz] at Mz
    ·simp only[kZ,if_neg Tw] at Mz
     rw[qw a i v b j9,if_neg Tw] at iJ;exact h3 Mz b' k cap iJ
   all_goals exact oG
end
end
section
section
variable {P:Program}{G:Nat->List AV}{base nt:Nat}{L:List Nat}{gh:Gh}{w:World}{a:Act}{s:AS}
structure Out (G:Nat->List AV) (base nt:Nat) (L:List Nat) (gh:Gh) (w:World) (a:Act) (s:AS) (d:Option Nat) (x:AV) (s' : AS) (v' : Value) (bt:Gh) (w' : World):Prop where
 W:bf G base s'.H bt w'
 F:FR L nt bt w' (a.put d v') (s'.bW d x)
 E:Ext s.H.length gh w bt w'
def wJ(P:Program)(a:Act)(o:Oper)(w:World)(v' : Value)(w' : World):Prop :=
 (execOp a.eval o).run P w=.ok (.value v') w'\/((execOp a.eval o).run P w=.ok .skip w'/\v'=undef)
theorem wJ.wp{v':Value}{w':World}{K:Act->World->Prop}{Q:Exit->Act->World->Prop}(h:wJ P a o w v' w')(hK:K (a.put o.dst v') w'):o.wp P a w K Q:=by
 unfold Oper.wp
 rcases h with h|⟨h,rfl⟩
 ·rw[h];exact hK
 ·rw[h];exact hK
def Out.pure(hW:bf G base s.H gh w)(hF:FR L nt gh w a s)(hd:∀ k,d=some k->k<nt){x:AV}(hv:oN gh s.H.length nt w s.T s.gen (gN a) v x) :
  Out G base nt L gh w a s d x s v gh w:=by
 refine⟨hW,?_,Ext.refl _ _ _ (fun b hb=>hW.cA b hb)⟩
 have:=hF.put (touch:=fun _=>False) (H':=s.H) (lo':=s.lo) (Step.refl _ _ _ _ (fun b hb=>hW.cA b hb)) (fun i=>⟨id,id,fun _=>id⟩) (Nat.le_refl _) d hd hv
 exact this
def V5{n:Nat}(h:CR gh n w (.sl i) v (.slice e own)):SR gh n nt w T gen tm i v (.slice e own):=h
def jr(S:Nat->Nat->Prop)(w:World)(sz:Nat)(C:Array Value)(E:List (List AV)):Prop :=
 C.size=E.length*sz/\(∀ (i:Nat) (r:List AV),E[i]?=some r->r.length=sz) /\
  ∀ (i j:Nat) (r:List AV) (x:AV),E[i]?=some r->r[j]?=some x->∃ v,C[i*sz+j]?=some v/\PR S w v x
def VR.l8{n:Nat}{x:AV}(h:VR gh n w v x)(hp:x.plain=true):PR gh.S w v x:=by
 cases h with
 | plain _ _ h=>exact h
 | full=>simp[AV.plain] at hp
 | ref=>simp[AV.plain] at hp
 | sref=>simp[AV.plain] at hp
 | mref=>simp[AV.plain] at hp
 | func f fs cs xs ys hf hc h1 h2 =>
  cases xs<;>cases ys<;>simp[AV.plain] at hp
  have e1:fs=#[]:=awH hf;have e2:cs=#[]:=awH hc;subst e1 e2;exact .func f
 | iface t v x h =>
  cases x<;>simp[AV.plain] at hp
  all_goals
   cases h with
   | plain _ _ h=>exact .iface _ _ _ h
 | agg=>simp[AV.plain] at hp
 | tuple=>simp[AV.plain] at hp
def SS{n:Nat}{x:AV}(hx:∀ ds,x.cells=some ds->rU gh n w v.cells ds)(he:x.elem sz=some cs) :
  v.cells.size=sz/\cs.length=sz/\∀ (j:Nat) (y:AV),cs[j]?=some y->∃ u,v.cells[j]?=some u/\PR gh.S w u y:=by
 unfold AV.elem at he;split at he
 ·cases he
 ·rename_i ds hds
  obtain⟨h1,h2⟩:=al he;injection h2 with h2
  subst h2;simp only[auT,iE,au1] at h1;have hr:=(hx ds hds).dropped;refine⟨by rw[hr.1];exact h1.1,h1.1,fun j y hy=>?_⟩
  have hj:j<v.cells.size:=by rw[hr.1];exact (auU.1 hy).1
  have hv:v.cells[j]?=some v.cells[j]:=au' hj;exact⟨_,hv,((hr.2 j _ y hv hy).1).l8 (auX.1 h1.2 y (au0 hy))⟩
theorem xw{n:Nat}(hi:i<n)(hj:j<sz):i*sz+j<n*sz:=by
 have:(i+1)*sz<=n*sz:=au6 _ hi
 grind
theorem jr.put{D:Array Value}(h:jr S w sz C E)(hi:i<E.length)(hD:D.size=sz)(iG:cs.length=sz)
  (dv:∀ (j:Nat) (y:AV),cs[j]?=some y->∃ u,D[j]?=some u/\PR S w u y):jr S w sz (D.zipIdx.foldl (fun q (c,k)=>q.setIfInBounds (i*sz+k) c) C) (E.set i cs):=by
 have e:D.zipIdx.foldl (fun q (c,k)=>q.setIfInBounds (i*sz+k) c) C=(D.toList.zipIdx 0).foldl (fun q (c,k)=>q.setIfInBounds (i*sz+k) c) C:=by
  rw[<- Array.foldl_toList,axJ]
 have hDl:D.toList.length=sz:=cT hD;have hle:i*sz+sz<=C.size:=by
  have:(i+1)*sz<=E.length*sz:=au6 _ hi
  rw[avG] at this;rw[h.1];omega
 rw[e];refine⟨by rw[pg,h.1];simp,fun k r hk=>?_,fun k j r x hk hj=>?_⟩
 ·rw[avO] at hk
  split at hk
  ·grind
  ·exact h.2.1 k r hk
 ·rw[qB _ _ _ _ _ (by rw[hDl];omega)]
  simp only[au7,hDl];rw[avO] at hk;split at hk
  ·grind
  ·rename_i hki
   have tU:j<sz:=by rw[<- h.2.1 k r hk];exact (auU.1 hj).1
   have mH:¬ (i*sz<=k*sz+j/\k*sz+j<i*sz+sz):=by
    rintro ⟨c1,c2⟩
    have:i=k:=by
     rcases aw4 i k with h'|h'|h'
     ·have:(i+1)*sz<=k*sz:=au6 _ h'
      grind
     ·exact h'
     ·have:(k+1)*sz<=i*sz:=au6 _ h'
      grind
    exact hki this
   rw[if_neg mH];exact h.2.2 k j r x hk hj
def Gc : ∀ (parts:List (Nat × Value)) (ip:List (Nat × AV)) (C:Array Value) (E E' : List (List AV)),jr S w sz C E->cQ sz E ip=some E'->parts.length=ip.length ->
  (∀ (j:Nat) (p:Nat × Value) (q:Nat × AV),parts[j]?=some p->ip[j]?=some q->p.1=q.1/\∀ cs,q.2.elem sz=some cs->p.2.cells.size=sz/\cs.length=sz/\∀ (j:Nat) (y:AV),cs[j]?=some y->∃ u,p.2.cells[j]?=some u/\PR S w u y) ->
  ∃ C',Instr.fill (fun i=>some (i*sz,sz)) C parts=some C'/\jr S w sz C' E'
 | [],[],C,E,E',h,hb,_,_=>by simp[cQ] at hb;subst hb;exact⟨C,rfl,h⟩
 | p :: parts,q :: ip,C,E,E',h,hb,hl,hp=>by
  obtain⟨h1,h2⟩:=hp 0 p q rfl rfl;obtain⟨i,v⟩:=p;obtain⟨i',x⟩:=q;simp only at h1;subst h1;simp only[cQ] at hb;split at hb
  ·cases hb
  ·rename_i cs iG
   obtain⟨h3,iJ⟩:=al hb;have hi:i<E.length:=by simpa [avh] using h3
   obtain⟨c1,c2,c3⟩:=h2 cs iG;obtain⟨C',hf,bU⟩:=Gc parts ip _ _ E' (h.put hi c1 c2 c3) iJ (cT hl) (fun j p q oz hq'=>hp (j+1) p q (cT oz) (cT hq'))
   refine⟨C',?_,bU⟩;unfold Instr.fill;simp only;have hle:i*sz+sz<=C.size:=by
    have:(i+1)*sz<=E.length*sz:=au6 _ hi
    rw[avG] at this;rw[h.1];omega
   have mH:¬ (decide (v.cells.size≠sz) || decide (i*sz+v.cells.size>C.size))=true:=by
    simp at c1;simp;omega
   rw[if_neg mH];exact hf
 | [],_ :: _,_,_,_,_,_,hl,_=>by simp at hl
 | _ :: _,[],_,_,_,_,_,hl,_=>by simp at hl
def jr.slice{w':World}(h:jr S w sz C E){gh:Gh}(hS:gh.S=S)(hp:fS w w' (.cells C' ty))
  (hW:∀ b o,S b o->b<w.heap.size) (hC:∀ j,j<C.size->C'[j]?=C[j]?) {q:Nat->Prop} (hq:∀ j,j<E.length*sz->q j) (cap:Nat) (kT:E.length<=cap) :
  PR (gh.alloc w.heap.size p q).S w' (.slice (some ⟨w.heap.size,0,none⟩) E.length cap) (.slice E false):=by
 subst hS;have key:∀ (i j:Nat) (r:List AV) (x:AV),E[i]?=some r->r[j]?=some x->∃ v,C[i*sz+j]?=some v/\PR gh.S w v x/\i*sz+j<E.length*sz:=by
  intro i j r x hi hj;obtain⟨v,hv,fg⟩:=h.2.2 i j r x hi hj;exact⟨v,hv,fg,by rw[<- h.1];exact (auZ.1 hv).1⟩
 refine .slice w.heap.size 0 E.length cap sz E (fun i j=>C.getD (i*sz+j) undef) rfl kT h.2.1 ?_ ?_
 ·intro i j r x hi hj
  obtain⟨v,hv,fg,aZ⟩:=key i j r x hi hj;have uE:i*sz+j<C.size:=by rw[h.1];exact aZ
  have hg:C.getD (i*sz+j) undef=v:=by
   simp_all
  refine⟨.inr ⟨rfl,by simpa using hq _ aZ⟩,?_,by rw[hg];exact fg.gm⟩
  rw[hg,avt];simp only[World.cell?,hp.new]
  simpa [hC _ uE] using hv
 ·intro i j r x hi hj
  obtain⟨v,hv,fg,aZ⟩:=key i j r x hi hj;have uE:i*sz+j<C.size:=by rw[h.1];exact aZ
  have hg:C.getD (i*sz+j) undef=v:=by
   simp_all
  rw[hg];exact fg.mono (fun b o ho=>.inl ho) (fun b o ho=>cell_of_heap (hp.old b (hW b o ho))) (fun b E ck hs hb=>by rw[hp.old b (hW b 0 hs)];exact hb)
end
end
section
section
variable {P:Program}{G:Nat->List AV}{base nt:Nat}{L:List Nat}{gh:Gh}{w w' : World}{a:Act}{s:AS}{H:ae}
def V1:Option Nat->bL
 | some d=>.sl d
 | none=>.none
def Pz:Option Nat->bL
 | some d=>.bx d
 | none=>.none
def qv(d:Option Nat):V1 d≠.outer:=by cases d<;>simp[V1]
def xW(d:Option Nat):Pz d≠.outer:=by cases d<;>simp[Pz]
def FR.grown(h:FR L nt gh w a s)(st:Step touch s.H.length gh w bt w')(ht:∀ i,¬ touch (.bx i)/\¬ touch (.sl i)/\∀ j,¬ touch (.sc i j))
  {H' : ae} {lo' : Nat} (hH:s.H.length<=H'.length):FR L nt bt w' a { s with H:=H',lo:=lo' } :=
 h.update st h.defers h.size hH (Nat.le_refl _) (fun _=>False) (fun i _=>⟨rfl,fun _=>⟨rfl,ht i⟩⟩) (fun _ h=>h.elim) (fun _ h=>h.elim)
def Gh.bK(gh:Gh)(b n:Nat):Gh:={ gh.alloc b (.hb n) (fun _=>False) with ρ:=fun l=>if l=n then b else gh.ρ l }
def gQ(hW:bf G base H gh w){o:Obj}(hp:fS w w' o):Step (fun _=>False) H.length gh w (gh.bK w.heap.size H.length) w':=by
 have h:=jf hW hp (p:=.hb H.length) ag (fun _=>False) H.length
 refine⟨h.S,h.cell,h.size,h.os,h.tape,h.output,h.od,h.fresh,fun loc hl=>?_,h.len,h.mp⟩
 show (if loc=H.length then _ else _)=_
 rw[if_neg ah]
theorem kY(hW:bf G base H gh w){o:Obj}(hp:fS w w' o):Ext H.length gh w (gh.bK w.heap.size H.length) w':=by
 refine⟨(gQ hW hp).mono (fun _ h=>h.elim),fun b hb=>?_⟩
 have iJ:(if b=w.heap.size then bL.hb H.length else gh.κ b)=.outer:=hb
 grind
theorem bf.bK(hW:bf G base H gh w)(hp:fS w w' (.cells C ty))(bU:rU gh H.length w C cs)(hr:cs.all (aX H.length)=true) :
  bf G base (H++[.box ty cs]) (gh.bK w.heap.size H.length) w':=by
 have st:=gQ hW hp;refine⟨avx hW.size st.size,?_,?_,fun g j x hx=>?_,fun loc oe ds hl=>?_,fun loc oe ds hl=>?_,fun g hg=>(hW.Bq g hg).imp fun ty h=>st.len g ty _ h,hW.mj st (fun b o m h=>h.elim .inl (fun h=>h.2.elim)),fun loc o hl=>?_,fun loc oe ds hl=>?_⟩
 ·intro b o ho
  rw[hp.size]
  rcases ho with ho|⟨_,ho⟩
  ·have:=hW.pN b o ho;omega
  ·exact ho.elim
 ·intro b hb
  rw[hp.size];have iJ:(if b=w.heap.size then bL.hb H.length else gh.κ b)≠.none:=hb
  split at iJ
  ·rename_i e
   have:=hW.size
   omega
  ·have:=hW.qN b iJ;omega
 ·obtain⟨v,h1,h2,h3⟩:=hW.aW g j x hx
  exact⟨v,(st.cell g j h3).trans h1,h2.mono st.S st.cell st.mp,st.S g j h3⟩
 ·rw[List.length_append,av0]
  by_cases aZ:loc<H.length
  ·rw[au3 aZ] at hl
   have h:=(hW.boxes loc oe ds hl).mono st (n':=H.length+1) (Nat.le_succ _) id (fun _=>id)
   rw[st.ρ loc aZ];exact h
  ·rw[List.getElem?_append_right ah] at hl
   have hz:loc=H.length:=by
    grind
   subst hz;simp only[awG,avb,auR,bM.box.injEq] at hl;obtain⟨rfl,rfl⟩:=hl;have hρ:(gh.bK w.heap.size H.length).ρ H.length=w.heap.size:=by simp[Gh.bK]
   rw[hρ];refine⟨by simp[Gh.bK,Gh.alloc],?_,C,ty,hp.new,awc bU.1.symm,fun j v x hv hx=>?_⟩
   ·rintro o (ho|⟨_,ho⟩)
    ·have:=hW.pN _ o ho;omega
    ·exact ho
   ·obtain⟨h1,h2⟩:=bU.2 j v x hv hx
    exact⟨h2,.inl (h1.mono st (Nat.le_succ _))⟩
 ·by_cases aZ:loc<H.length
  ·rw[au3 aZ] at hl
   exact hW.refs loc oe ds hl
  ·grind
 ·rw[List.length_append,av0]
  by_cases aZ:loc<H.length
  ·rw[au3 aZ] at hl
   rw[st.ρ loc aZ];exact (hW.more loc o hl).mono st (Nat.le_succ _) id (fun _=>id)
  ·rw[List.getElem?_append_right ah] at hl
   have hz:loc=H.length:=by
    grind
   subst hz;simp only[awG,avb,auR] at hl;subst hl;trivial
 ·by_cases aZ:loc<H.length
  ·rw[au3 aZ] at hl
   rw[st.ρ loc aZ];exact fun hf=>st.len _ _ _ (hW.types loc oe ds hl hf)
  ·rw[List.getElem?_append_right ah] at hl
   have hz:loc=H.length:=by
    grind
   subst hz;simp only[awG,avb,auR,bM.box.injEq] at hl;obtain⟨rfl,rfl⟩:=hl;have hρ:(gh.bK w.heap.size H.length).ρ H.length=w.heap.size:=by simp[Gh.bK]
   rw[hρ];exact fun _=>⟨C,(0,0),hp.new,bU.1⟩
def Out.bK(hW:bf G base s.H gh w)(hF:FR L nt gh w a s)(hd:∀ k,d=some k->k<nt)(hp:fS w w' (.cells C ty))(bU:rU gh s.H.length w C cs)
  (hr:cs.all (aX s.H.length)=true) :
  Out G base nt L gh w a s d (.ref s.H.length 0) (s.iF ⟨s.H++[.box ty cs],s.H.length⟩) (.pointer (some ⟨w.heap.size,0,none⟩)) (gh.bK w.heap.size s.H.length) w':=by
 have hρ:(gh.bK w.heap.size s.H.length).ρ s.H.length=w.heap.size:=by simp[Gh.bK]
 have hv:VR (gh.bK w.heap.size s.H.length) (s.H++[bM.box ty cs]).length w' (.pointer (some ⟨w.heap.size,0,none⟩)) (.ref s.H.length 0):=by
  have:=VR.ref (gh:=gh.bK w.heap.size s.H.length) (w:=w') (n:=(s.H++[bM.box ty cs]).length) s.H.length 0 ag
  rw[hρ] at this;exact this
 exact⟨hW.bK hp bU hr,hF.put (gQ hW hp) (fun i=>⟨id,id,fun _=>id⟩) ag d hd (.dU hv),kY hW hp⟩
def Fi{x:AV}(h:lG v=some x):x.drop.plain=true:=by
 unfold lG at h
 split at h<;>first|(injection h with h;subst h;rfl)|cases h
theorem o7:∀ {vs:List Value} {xs:List AV},fy vs=some xs->∀ x,x∈xs->x.drop.plain=true
 | [],xs,h=>by simp[fy] at h;subst h;simp
 | v :: r,xs,h=>by
  simp only[fy,auQ,auP] at h;obtain⟨x,hx,ys,hy,rfl⟩:=h;intro z hz
  rcases avi.1 hz with rfl|hz
  ·exact Fi hx
  ·exact o7 hy z hz
theorem Ap{t:TypeId}(h:gX P t=some z):∀ x,x∈z->x.drop.plain=true:=by
 simp only[gX,auQ] at h
 grind [o7]
def yz{x:AV}(h:x.drop.plain=true):aX loc x=true:=by
 cases x<;>first|exact h|(simp[AV.drop,AV.plain] at h;done)|skip
 rename_i f fs cs
 cases fs<;>cases cs<;>first|rfl|(simp[AV.drop,AV.plain] at h)
theorem qC{x:AV}(h:aX loc x=true):aX loc x.drop=true:=by
 cases x<;>exact h
def Ae{t:TypeId}{i:TypeInfo}(hi:P.info? t=some i)(hz:i.zero=some zv)(w:World) :
  (Instr.alloc t true (.tuple #[])).run P w=.ok (.pointer (some ⟨w.heap.size,0,none⟩)) (w.alloc (.cells zv.cells t)):=by
 simp[Instr.alloc,zeroValue,typeInfo,hi,hz,newVar,newRow]
def Ry{t:TypeId}(h:(gX P t).map (fun z=>cond kp (z.map oB) z)=some z):∀ x,x∈z->x.drop.plain=true:=by
 simp only[auP] at h;obtain⟨z0,h0,rfl⟩:=h;cases kp with
 | false=>exact Ap h0
 | true =>
  intro x hx;obtain⟨y,hy,rfl⟩:=List.mem_map.1 hx;have:=Ap h0 y hy
  unfold oB;split
  ·rfl
  ·exact this
def PZ(hW:bf G base s.H gh w)(hF:FR L nt gh w a s){t:TypeId}(ho:o.op=.alloc t)(hz:(gX P t).map (fun z=>cond kp (z.map oB) z)=some z)(hd:∀ k,o.dst=some k->k<nt) :
  ∃ v' bt w',wJ P a o w v' w'/\Out G base nt L gh w a s o.dst (.ref s.H.length 0) (s.iF ⟨s.H++[.box t z],s.H.length⟩) v' bt w':=by
 obtain⟨i,zv,hi,QD,bU⟩:=rR (gh:=gh) (n:=s.H.length) (w:=w) hz;refine⟨_,_,_,.inl ?_,Out.bK hW hF hd (.alloc w (.cells zv.cells t)) bU ?_⟩
 ·simp[execOp,ho,Ae hi QD]
 ·exact auX.2 fun x hx=>yz (Ry hz x hx)
theorem acP(hW:bf G base s.H gh w)(hF:FR L nt gh w a s){t:TypeId}(ho:o.op=.box t x)(hc:ar nt x=some y)(iG:(y.eval G s.T).drop.cells=some cs)
  (fq:cs.all (aX s.H.length)=true) (hd:∀ k,o.dst=some k->k<nt) :
  ∃ v' bt w',wJ P a o w v' w'/\Out G base nt L gh w a s o.dst (.ref s.H.length 0) (s.iF ⟨s.H++[.box t (cs.map AV.drop)],s.H.length⟩) v' bt w':=by
 have bU:=(rE hW hF hc cs iG).dropped;refine⟨_,_,_,.inl ?_,Out.bK hW hF hd (.alloc w (.cells (a.eval x).cells t)) bU ?_⟩
 ·simp[execOp,ho,Instr.box,newVar,newRow]
 ·grind [qC]
def P0(hW:bf G base s.H gh w)(hF:FR L nt gh w a s){t:TypeId}(ho:o.op=.alloc t)(hz:(gX P t).map (fun z=>cond kp (z.map oB) z)=some z)(hd:∀ k,o.dst=some k->k<nt/\k∈L) :
  ∃ v' bt w',wJ P a o w v' w'/\Out G base nt L gh w a s o.dst (.lbox s.gen z) { s with gen:=s.gen+1 } v' bt w':=by
 obtain⟨i,zv,hi,QD,bU⟩:=rR (gh:=gh) (n:=s.H.length) (w:=w) hz;have hp:=fS.alloc w (.cells zv.cells t);have dp:=xW o.dst;have st:=jf hW hp dp (fun _=>False) s.H.length
 have JZ:=hF.grown (H':=s.H) (lo':=s.lo) st (fun i=>⟨id,id,fun _=>id⟩) (Nat.le_refl _)
 have nL:=hW.alloc hp dp (fun _=>False) (fun _ _ h=>h.elim)
 refine⟨.pointer (some ⟨w.heap.size,0,none⟩),_,_,.inl ?_,nL,JZ.Vk (gen':=s.gen+1) (Nat.le_succ _) (fun b hb=>nL.cA b hb) o.dst (fun k hk=>(hd k hk).1) (.inr ⟨⟨s.gen,Nat.le_refl _,rfl⟩,fun k hk=>(hd k hk).2⟩) ?_,oO hW hp dp _ _⟩
 ·simp[execOp,ho,Ae hi QD]
 ·intro k hk
  refine⟨awU _,w.heap.size,rfl,?_⟩;rw[hk] at st ⊢;refine⟨by simp[Gh.alloc,Pz],?_,zv.cells,t,hp.new,awc bU.1.symm,fun j v x hv hx=>?_⟩
  ·rintro o (ho|⟨_,ho⟩)
   ·have:=hW.pN _ o ho;omega
   ·exact ho
  ·obtain⟨h1,h2⟩:=bU.2 j v x hv hx
   exact⟨h2,.inl (h1.mono st (Nat.le_refl _))⟩
def Xj(hW:bf G base s.H gh w)(hF:FR L nt gh w a s){t:TypeId}(ho:o.op=.box t x)(hc:ar nt x=some y)(iG:(y.eval G s.T).drop.cells=some cs)(hd:∀ k,o.dst=some k->k<nt/\k∈L) :
  ∃ v' bt w',wJ P a o w v' w'/\Out G base nt L gh w a s o.dst (.lbox s.gen (cs.map AV.drop)) { s with gen:=s.gen+1 } v' bt w':=by
 have bU:=(rE hW hF hc cs iG).dropped;have hp:=fS.alloc w (.cells (a.eval x).cells t);have dp:=xW o.dst;have st:=jf hW hp dp (fun _=>False) s.H.length
 have JZ:=hF.grown (H':=s.H) (lo':=s.lo) st (fun i=>⟨id,id,fun _=>id⟩) (Nat.le_refl _)
 have nL:=hW.alloc hp dp (fun _=>False) (fun _ _ h=>h.elim)
 refine⟨.pointer (some ⟨w.heap.size,0,none⟩),_,_,.inl ?_,nL,JZ.Vk (gen':=s.gen+1) (Nat.le_succ _) (fun b hb=>nL.cA b hb) o.dst (fun k hk=>(hd k hk).1) (.inr ⟨⟨s.gen,Nat.le_refl _,rfl⟩,fun k hk=>(hd k hk).2⟩) ?_,oO hW hp dp _ _⟩
 ·simp[execOp,ho,Instr.box,newVar,newRow]
 ·intro k hk
  refine⟨awU _,w.heap.size,rfl,?_⟩;rw[hk] at st ⊢;refine⟨by simp[Gh.alloc,Pz],?_,(a.eval x).cells,t,hp.new,awc bU.1.symm,fun j v x hv hx=>?_⟩
  ·rintro o (ho|⟨_,ho⟩)
   ·have:=hW.pN _ o ho;omega
   ·exact ho
  ·obtain⟨h1,h2⟩:=bU.2 j v x hv hx
   exact⟨h2,.inl (h1.mono st (Nat.le_refl _))⟩
theorem Cw(hW:bf G base s.H gh w)(hF:FR L nt gh w a s){t e:TypeId}{n:Nat}
  (ho:o.op=.build t parts) {kp:Bool} (hz:(gX P t).map (fun z=>cond kp (z.map oB) z)=some z) (hu:P.underlying t=some (.array n e)) (hs:fD P e=some sz) (hp:lE nt sz parts.toList=some ps)
  (he:fw z (ps.map fun p=>(p.1,p.2.1,(p.2.2.eval G s.T).drop))=some Z) :
  ∃ v,(execOp a.eval o).run P w=.ok (.value v) w/\oN gh s.H.length nt w s.T s.gen (gN a) v (.agg Z):=by
 obtain⟨i,zv,hi,QD,bU⟩:=rR (gh:=gh) (n:=s.H.length) (w:=w) hz;obtain⟨ie,hie,TI⟩:=oH hs;have inv:∀ (l:List (Nat × Operand)) (ps:List (Nat × Nat × aE)),lE nt sz l=some ps->l.length=ps.length /\
   ∀ (j:Nat) (p:Nat × Operand) (q:Nat × Nat × aE),l[j]?=some p->ps[j]?=some q->q.1=p.1*sz/\q.2.1=sz/\ar nt p.2=some q.2.2:=by
  intro l
  induction l with
  | nil=>intro ps h;simp[lE] at h;subst h;exact⟨rfl,fun j p q h=>by simp at h⟩
  | cons p l ih =>
   intro ps h;obtain⟨k,x⟩:=p;simp only[lE,auQ,auP] at h
   grind
 obtain⟨hl,hinv⟩:=inv _ _ hp;obtain⟨C',hf,yC⟩:=Cy (gh:=gh) (w:=w) (n:=s.H.length) (place:=fun i=>some (i*ie.size,ie.size)) ((parts.map fun p=>(p.1,a.eval p.2)).toList) (ps.map fun p=>(p.1,p.2.1,(p.2.2.eval G s.T).drop)) zv.cells z Z bU he (cT hl) (by
  intro j p q hp hq;simp only[axm,List.getElem?_map,auP] at hp hq;obtain⟨p0,Lx,rfl⟩:=hp;obtain⟨q0,hq0,rfl⟩:=hq;obtain⟨h1,h2,hc⟩:=hinv j p0 q0 Lx hq0;exact⟨by simp[h1,h2,TI],rE hW hF hc⟩)
 have hb:P.built t (parts.map fun p=>(p.1,a.eval p.2)).toList=some C':=by
  unfold Program.built;rw[hi,hu];simp only[QD,hie];exact hf
 refine⟨.agg C',by simp[execOp,ho,run_build w t _ C' hb],.dU (.agg _ _ yC.1 (fun j v hj=>?_) (fun j v x hv hx=>(yC.2 j v x hv hx).1))⟩
 have aZ:j<Z.length:=by rw[<- yC.1];exact (auZ.1 hj).1
 exact (yC.2 j v _ hj (auS aZ)).2
theorem Rz{t:TypeId}(bU:rU gh H.length w zv.cells z)(fq:∀ x,x∈z->x.drop.plain=true)(hz:z.length=sz)(CT:0<sz) :
  jr gh.S w sz ((Array.range (len*sz)).map (zv.cells[· % zv.cells.size]!)) (List.replicate len (z.map AV.drop)):=by
 have j9:zv.cells.size=sz:=by rw[bU.1,hz]
 refine⟨ag,fun i r hi=>?_,fun i j r x hi hj=>?_⟩
 ·grind
 ·rw[List.getElem?_replicate] at hi
  split at hi
  ·rename_i aZ
   injection hi with hi;subst hi
   simp only[List.getElem?_map,auP] at hj;obtain⟨y,hy,rfl⟩:=hj;have hj:j<sz:=by rw[<- hz];exact (auU.1 hy).1
   have Bh:j<zv.cells.size:=ah;have aiz:(i*sz+j) % zv.cells.size=j:=by rw[j9,Nat.mul_add_mod',Nat.mod_eq_of_lt hj]
   refine⟨zv.cells[j],?_,?_⟩
   ·grind [xw]
   ·have hv:=au' Bh
    exact (VR.dropped (bU.2 j _ y hv hy).1).l8 (fq y (au0 hy))
  ·cases hi
theorem uW{n:Nat}(h:k<n*sz):k / sz<n/\k % sz<sz/\k / sz*sz+k % sz=k:=by
 have j9:0<sz:=by
  grind
 refine⟨Nat.div_lt_of_lt_mul (by rw[axQ];exact h),Nat.mod_lt _ j9,?_⟩
 have:=Nat.div_add_mod k sz
 grind
def pM{A:Array Value}(h:jr S w sz A E)(qE:mz isB E=true)(hB:isB=true->ty=jg)(hk:k<E.length*sz)
  (hc:A[k]?=some (.int .u8 m)):ty=jg:=by
 cases isB with
 | true=>exact hB rfl
 | false =>
  exfalso;obtain⟨h1,h2,h3⟩:=uW hk;have hr:=auS h1;obtain⟨x,hx⟩:∃ x,E[k / sz][k % sz]?=some x:=⟨_,auS (show k % sz<E[k / sz].length by rw[h.2.1 _ _ hr];exact h2)⟩
  obtain⟨v,hv,hp⟩:=h.2.2 _ _ _ _ hr hx;rw[h3,hc] at hv;injection hv with hv
  subst hv;have hn:=qE;have h4:=auX.1 (auX.1 hn _ (au0 hr)) _ (au0 hx);cases hp<;>simp at h4
theorem AY(hW:bf G base s.H gh w)(hF:FR L nt gh w a s){t e:TypeId}{ps:List (Nat × aE)}
  (hu:P.underlying t=some (.slice e)) (hs:fD P e=some sz) (hz:gX P e=some z) (hp:mE nt parts.toList=some ps) (HU:len*sz<=16777216) (Ua:z.length=sz) (CT:0<sz)
  (he:cQ sz (List.replicate len (z.map AV.drop)) (ps.map fun p=>(p.1,(p.2.eval G s.T).drop))=some E) :
  ∃ C',(Instr.buildSlice t len (parts.map fun p=>(p.1,a.eval p.2))).run P w=.ok (.slice (some ⟨w.heap.size,0,none⟩) len len) (w.alloc (.cells C' e))/\jr gh.S w sz C' E/\E.length=len:=by
 obtain⟨i,zv,hi,QD,bU⟩:=Ln (gh:=gh) (n:=s.H.length) (w:=w) hz;obtain⟨ie,hie,TI⟩:=oH hs;rw[hi] at hie;injection hie with hie;subst hie
 have inv:∀ (l:List (Nat × Operand)) (ps:List (Nat × aE)),mE nt l=some ps->l.length=ps.length /\
   ∀ (j:Nat) (p:Nat × Operand) (q:Nat × aE),l[j]?=some p->ps[j]?=some q->q.1=p.1/\ar nt p.2=some q.2:=by
  intro l
  induction l with
  | nil=>intro ps h;simp[mE] at h;subst h;exact⟨rfl,fun j p q h=>by simp at h⟩
  | cons p l ih =>
   intro ps h;obtain⟨k,x⟩:=p;simp only[mE,auQ,auP] at h
   grind
 obtain⟨hl,hinv⟩:=inv _ _ hp;obtain⟨C',hf,dF⟩:=Gc (w:=w) (S:=gh.S) (sz:=sz) ((parts.map fun p=>(p.1,a.eval p.2)).toList) (ps.map fun p=>(p.1,(p.2.eval G s.T).drop)) _ _ E (Rz (t:=e) (len:=len) bU (Ap hz) Ua CT) he (cT hl) (by
  intro j p q hp hq;simp only[axm,List.getElem?_map,auP] at hp hq;obtain⟨p0,Lx,rfl⟩:=hp;obtain⟨q0,hq0,rfl⟩:=hq;obtain⟨h1,hc⟩:=hinv j p0 q0 Lx hq0;exact⟨h1.symm,fun cs iG=>SS (rE hW hF hc) iG⟩)
 have Gp:E.length=len:=by
  have:∀ (ip:List (Nat × AV)) (es E:List (List AV)),cQ sz es ip=some E->E.length=es.length:=by
   intro ip
   induction ip with
   | nil=>intro es E h;simp[cQ] at h;rw[h]
   | cons q ip ih =>
    intro es E h;obtain⟨i,v⟩:=q;simp only[cQ] at h
    grind
  rw[this _ _ _ he];simp
 have fe:(Instr.buildSlice t len (parts.map fun p=>(p.1,a.eval p.2))).run P w=.ok (.slice (some ⟨w.heap.size,0,none⟩) len len) (w.alloc (.cells C' e)):=by
  by_cases h0:len*sz=0
  ·have aiu:len=0:=by rcases Nat.mul_eq_zero.1 h0 with h|h<;>omega
   subst aiu;have hE:ps=[]:=by
    cases hps:ps with
    | nil=>rfl
    | cons q r =>
     rw[hps] at he;simp only[au9,cQ,axO,List.length_nil] at he;split at he
     ·cases he
     ·obtain⟨h,_⟩:=al he
      simp[avh] at h
   have ij:parts.toList=[]:=by
    have:parts.toList.length=0:=by rw[hl,hE];rfl
    exact avc.1 this
   have hpa:parts=#[]:=cT ij;subst hpa;have X4:Array.range 0=#[]:=rfl;have Qj:C'=#[]:=by simpa [Instr.fill,X4] using hf.symm
   subst Qj;simp[Instr.buildSlice,run_underlying hu,sizeOf,typeInfo,hi,Instr.fill,newRow,X4]
  ·exact run_buildSlice w t e len _ C' i zv hu hi QD (by rw[TI];omega) (by rw[TI];exact h0) (by rw[TI];exact hf)
 exact⟨C',fe,dF,Gp⟩
def Mo(hW:bf G base s.H gh w)(hF:FR L nt gh w a s){t e:TypeId}{ps:List (Nat × aE)}
  (ho:o.op=.buildSlice t len parts) (hu:P.underlying t=some (.slice e)) (hs:fD P e=some sz) (hz:gX P e=some z) (hp:mE nt parts.toList=some ps)
  (qE:mz isB E=true) (TJ:isB=true->e=jg) (HU:len*sz<=16777216) (Ua:z.length=sz) (CT:0<sz)
  (he:cQ sz (List.replicate len (z.map AV.drop)) (ps.map fun p=>(p.1,(p.2.eval G s.T).drop))=some E) (hd:∀ k,o.dst=some k->k<nt) :
  ∃ v' bt w',wJ P a o w v' w'/\Out G base nt L gh w a s o.dst (.slice E true) s v' bt w':=by
 obtain⟨C',fe,dF,Gp⟩:=AY (P:=P) hW hF hu hs hz hp HU Ua CT he;have oz:=fS.alloc w (.cells C' e);have dp:=qv o.dst;have Mv:=dF.slice (gh:=gh) rfl oz (p:=V1 o.dst) hW.pN (fun j _=>rfl) (q:=fun _=>True) (fun _ _=>trivial) E.length (Nat.le_refl _)
 have hv:VR (gh.alloc w.heap.size (V1 o.dst) fun _=>True) s.H.length (w.alloc (.cells C' e)) (.slice (some ⟨w.heap.size,0,none⟩) E.length E.length) (.slice E true):=.full _ _ _ Mv trivial
 rw[Gp] at hv;have st:=jf hW oz dp (fun _=>True) s.H.length
 have JZ:=hF.grown (H':=s.H) (lo':=s.lo) st (fun i=>⟨id,id,fun _=>id⟩) (Nat.le_refl _)
 have nL:=hW.alloc oz dp (fun _=>True) (fun k m _ hc=>by
  rw[cell_of_row _ _ k _ _ _ oz.new] at hc;have hk:k<E.length*sz:=by rw[<- dF.1];exact (auZ.1 hc).1
  have:=pM dF qE TJ hk hc
  subst this;exact⟨C',(0,0),oz.new⟩)
 refine⟨.slice (some ⟨w.heap.size,0,none⟩) len len,_,_,.inl ?_,nL,JZ.Vk (gen':=s.gen) (Nat.le_refl _) (fun b hb=>nL.cA b hb) o.dst hd (.inl rfl) (fun k hk=>?_),oO hW oz dp _ _⟩
 ·have:(parts.map fun x=>(x.1,a.eval x.2))=parts.map fun p=>(p.1,a.eval p.2):=rfl
  simp[execOp,ho,fe]
 ·exact V5 (.inl hv)
end
end
section
section
variable {P:Program}{G:Nat->List AV}{base nt:Nat}{L:List Nat}{gh:Gh}{w w' : World}{a:Act}{s:AS}{H:ae}
def yX(hW:bf G base s.H gh w)(hF:FR L nt gh w a s){t:Nat}(ht:t<nt)(hT:s.T t=.slice e own)(p:bL)(hp:p≠.outer) :
  ∃ bt,bf G base s.H bt w/\FR L nt bt w a (s.cy t (.slice e false))/\Ext s.H.length gh w bt w/\Step (fun r=>r=.sl t) s.H.length gh w bt w/\CR bt s.H.length w p (gN a t) (.slice e own):=by
 have gI:=fun b hb=>hW.cA (gh:=gh) b hb
 have h:CR gh s.H.length w (.sl t) (gN a t) (.slice e own):=by
  have h:=hF.slot t ht;rw[hT] at h;exact h
 rcases h with hv|⟨e',heq,Mv,b,cap,C,ty,lo,hi,sz,iQ,hk,he,hb,hC,hr,hl,hh,hS⟩
 ·refine⟨gh,hW,?_,Ext.refl _ _ _ gI,Step.refl _ _ _ _ gI,.inl hv⟩
  exact hF.cy (touch:=fun _=>False) (H':=s.H) (lo':=s.lo) (Step.refl _ _ _ _ gI) (Nat.le_refl _) (fun i _=>⟨id,id,fun _=>id⟩) (.inr rfl) (fun _=>.inl hv.dropped)
 ·injection heq with h1 h2
  subst h1 h2;have aZ:=(auZ.1 hb).1;have st:=mF hW aZ p s.H.length;rw[hk] at st;have hn:gh.κ b≠.none:=by rw[hk];simp
  refine⟨gh.tN b p,Mu hW aZ p hn (by rw[hk];simp),?_,yp hW aZ hp hn (by rw[hk];simp) _,st,.inr ⟨e,rfl,Mv,b,cap,C,ty,lo,hi,sz,iQ,by simp[Gh.tN],he,hb,hC,hr,hl,hh,hS⟩⟩
  refine hF.cy (H':=s.H) (lo':=s.lo) st (Nat.le_refl _) (fun i hi=>⟨ag,cT hi,ag⟩) (.inr rfl) (fun _=>?_)
  show CR (gh.tN b p) s.H.length w (.sl t) (gN a t) (.slice e false)
  exact .inl (.plain _ _ Mv)
def Out.of{s1:AS}{x:AV}(hW:bf G base s1.H bt w')(hF:FR L nt bt w' a s1)(hE:Ext s.H.length gh w bt w')(hg:s1.gen<=gen')(hd:∀ k,d=some k->k<nt)
  (hx:fz x=none\/((∃ g,s1.gen<=g/\fz x=some g)/\∀ k,d=some k->k∈L)) (hv:∀ k,d=some k->SR bt s1.H.length nt w' s1.T gen' (gN a) k v x) :
  Out G base nt L gh w a s d x { s1 with gen:=gen' } v bt w' :=
 ⟨hW,hF.Vk hg (fun b hb=>hW.cA b hb) d hd hx hv,hE⟩
theorem kM{t:Nat}(h:ar nt x=some (.tmp t)):x=.tmp t/\t<nt:=by
 cases x with
 | tmp k =>
  simp only[ar] at h;rcases av7 (Nat.blt k nt) with hb|hb<;>rw[hb] at h<;>simp at h
  simp_all
 | const v =>
  simp only[ar,auP] at h
  grind
 | global g=>simp[ar] at h
 | func f=>simp[ar] at h
theorem JV(hW:bf G base s.H gh w)(hF:FR L nt gh w a s){g:Nat}(hb:b<nt)(hT:s.T b=.lsl g e)(qE:nf e=true)(p:bL)(hp:p≠.outer) :
  ∃ bt,bf G base s.H bt w/\FR L nt bt w a (s.cy b (.slice e false))/\Ext s.H.length gh w bt w/\CR bt s.H.length w p (gN a b) (.slice e true):=by
 have gI:=fun b hb=>hW.cA (gh:=gh) b hb
 have iw:(gN a b).oneCell'=true:=by obtain⟨ad,cap,hv,_⟩:=pR hF hb hT;rw[hv];rfl
 obtain⟨ad,cap,hV,⟨rfl,rfl,Kg⟩|⟨k,C,ty,sz,dp,rfl,hκ,hS,hk,hC,hl,hr,iG⟩⟩:=pR hF hb hT
 ·have hp:PR gh.S w (.slice ad 0 0) (.slice [] false):=by
   cases ad with
   | none=>exact .dq
   | some ad =>
    obtain⟨b',o',sp⟩:=ad;have:=(Kg _ rfl).1
    simp only at this;subst this;exact .slice b' o' 0 0 0 [] (fun _ _=>undef) rfl (Nat.le_refl _) (fun i r h=>by simp at h) (fun i j r x h=>by simp at h) (fun i j r x h=>by simp at h)
  refine⟨gh,hW,?_,Ext.refl _ _ _ gI,.inl ?_⟩
  ·exact hF.cy (touch:=fun _=>False) (H':=s.H) (lo':=s.lo) (Step.refl _ _ _ _ gI) (Nat.le_refl _) (fun i _=>⟨id,id,fun _=>id⟩) (.inr rfl) (fun _=>.inl (.plain _ _ (by rw[hV];exact hp)))
  ·rw[hV]
   exact .full ad 0 [] hp trivial
 ·have mH:∀ o,gh.S k o->C[o]?=C[o]?:=fun _ _=>rfl
  have hn:gh.κ k≠.none:=by rw[hκ];simp
  have CQ:∀ j m,j<e.length*sz->C[j]?=some (.int .u8 m)->ty=jg:=by
   intro j m hj hc;have dF:jr gh.S w sz (C.toList.take (e.length*sz)).toArray e:=by
    have hle:e.length*sz<=C.size:=by rw[hC];exact au6 _ hl
    refine⟨dw,hr,fun i j r x hi hj=>?_⟩
    grind [xw]
   refine pM (isB:=false) (m:=m) dF qE (fun h=>by cases h) hj ?_
   grind
  have st:=rH hW hk rfl (fun o=>o<e.length*sz) mH p s.H.length
  have hE:=BS hW hk rfl (fun o=>o<e.length*sz) mH (p:=p) hp hn (by rw[hκ];simp) s.H.length
  have nL:=O4 hW hk rfl (fun o=>o<e.length*sz) mH CQ p hn (by rw[hκ];simp)
  have T4:=setRow_self w k C ty (0,0) hk;rw[T4] at hE nL st;rw[hκ] at st;have slc:∀ S' : Nat->Nat->Prop,(∀ o,o<e.length*sz->S' k o)->(∀ b o,gh.S b o->S' b o)->PR S' w (gN a b) (.slice e false):=by
   intro S' HR XX;rw[hV];have key:∀ (i j:Nat) (r:List AV) (x:AV),e[i]?=some r->r[j]?=some x->C[i*sz+j]?=some (C.getD (i*sz+j) undef)/\PR gh.S w (C.getD (i*sz+j) undef) x/\i*sz+j<e.length*sz:=by
    intro i j r x hi hj;obtain⟨u,hu,hp⟩:=iG i j r x hi hj;have aZ:=(auZ.1 hu).1;have:C.getD (i*sz+j) undef=u:=by
     simp_all
    rw[this];exact⟨hu,hp,xw (auU.1 hi).1 (by rw[<- hr i r hi];exact (auU.1 hj).1)⟩
   refine .slice k 0 e.length cap sz e (fun i j=>C.getD (i*sz+j) undef) rfl hl hr (fun i j r x hi hj=>?_) (fun i j r x hi hj=>?_)
   ·obtain⟨h1,h2,h3⟩:=key i j r x hi hj
    refine⟨by have:=HR _ h3;simpa using this,?_,h2.gm⟩
    rw[avt,cell_of_row w k _ C ty _ hk];exact h1
   ·exact (key i j r x hi hj).2.1.mono XX (fun _ _ _=>rfl) (fun _ _ _ _ h=>h)
  refine⟨_,nL,?_,hE,.inr ⟨e,rfl,?_,k,cap,C,ty,0,0,sz,hV,ag,dp,hk,hC,hr,hl,Nat.zero_le _,?_⟩⟩
  ·exact hF.cy (H':=s.H) (lo':=s.lo) st (Nat.le_refl _) (fun i hi=>⟨cT hi,ag,ag⟩) (.inr rfl) (fun _=>.inl (.plain _ _ (slc _ (fun o h=>.inr ⟨rfl,h⟩) (fun b o h=>.inl h))))
  ·grind
  ·grind
def HB(hW:bf G base s.H gh w)(hF:FR L nt gh w a s){take obj:Bool}{z:AV}(ho:o.op=.move x\/o.op=.assign x)(hc:ar nt x=some y)
  (he:qZ G s take obj y=some (z,some s')) (hd:∀ k,o.dst=some k->k<nt) (hL:obj=true->∀ k,o.dst=some k->k∈L) :
  ∃ v' bt w',wJ P a o w v' w'/\Out G base nt L gh w a s o.dst z s' v' bt w':=by
 have fe:(execOp a.eval o).run P w=.ok (.value (a.eval x)) w:=by rcases ho with ho|ho<;>simp[execOp,ho]
 cases y<;>simp only[qZ] at he<;>try (cases he;done)
 rename_i t;obtain⟨rfl,ht⟩:=kM hc
 change (execOp a.eval o).run P w=.ok (.value (gN a t)) w at fe
 split at he
 ·cases he
 ·rename_i g e hT
  cases take
  ·cases he
  simp only[cond_true] at he;cases hob:obj with
  | false =>
   rw[hob] at he;simp only[cond_false,Nl] at he;obtain⟨qE,rfl,rfl⟩:=he;obtain⟨bt,h1,h2,h3,h4⟩:=JV hW hF ht hT qE (V1 o.dst) (qv _);refine⟨_,bt,w,.inl fe,Out.of (s1:=s.cy t (.slice e false)) (gen':=s.gen) h1 h2 h3 (Nat.le_refl _) hd (.inl rfl) (fun k hk=>?_)⟩
   rw[hk] at h4;exact h4
  | true =>
  rw[hob] at he;simp only[cond_true,Nl] at he;obtain⟨rfl,rfl⟩:=he;have bU:=pR hF ht hT;have gI:=fun b hb=>hW.cA (gh:=gh) b hb
  have iw:(gN a t).oneCell'=true:=by obtain⟨ad,cap,hv,_⟩:=bU;rw[hv];rfl
  have key:∃ bt,bf G base s.H bt w/\FR L nt bt w a (s.cy t .any)/\Ext s.H.length gh w bt w/\tX bt w (Pz o.dst) (gN a t) e:=by
   obtain⟨ad,cap,hv,bU⟩:=bU
   rcases bU with hz|⟨b,C,ty,sz,adJ,ha,hk,hS,hb,hC,hl,hr,iG⟩
   ·refine⟨gh,hW,?_,Ext.refl _ _ _ gI,ad,cap,hv,.inl hz⟩
    exact hF.cy (touch:=fun _=>False) (H':=s.H) (lo':=s.lo) (Step.refl _ _ _ _ gI) (Nat.le_refl _) (fun i _=>⟨id,id,fun _=>id⟩) (.inr rfl) (fun _=>.inl (.plain _ _ (.any _ iw)))
   ·have aZ:=(auZ.1 hb).1
    have st:=mF hW aZ (Pz o.dst) s.H.length;rw[hk] at st;have hn:gh.κ b≠.none:=by rw[hk];simp
    refine⟨gh.tN b (Pz o.dst),Mu hW aZ _ hn (by rw[hk];simp),?_,yp hW aZ (xW _) hn (by rw[hk];simp) _,ad,cap,hv,.inr ⟨b,C,ty,sz,adJ,ha,by simp[Gh.tN],hS,hb,hC,hl,hr,iG⟩⟩
    exact hF.cy (H':=s.H) (lo':=s.lo) st (Nat.le_refl _) (fun i hi=>⟨cT hi,ag,ag⟩) (.inr rfl) (fun _=>.inl (.plain _ _ (.any _ iw)))
  obtain⟨bt,h1,h2,h3,h4⟩:=key;refine⟨_,bt,w,.inl fe,Out.of (s1:=s.cy t .any) (gen':=s.gen+1) h1 h2 h3 (Nat.le_succ _) hd (.inr ⟨⟨s.gen,Nat.le_refl _,rfl⟩,hL hob⟩) (fun k hk=>⟨awU _,?_⟩)⟩
  rw[hk] at h4;exact h4
 ·rename_i e own hT
  simp only[auR,auV] at he;obtain⟨rfl,he⟩:=he;cases OI:(take&&own) with
  | false=>rw[OI] at he;cases he
  | true =>
   rw[OI] at he;simp only[cond_true,auR] at he;subst he;obtain⟨bt,h1,h2,h3,_,h4⟩:=yX hW hF ht hT (V1 o.dst) (qv _);refine⟨_,bt,w,.inl fe,Out.of (s1:=s.cy t (.slice e false)) (gen':=s.gen) h1 h2 h3 (Nat.le_refl _) hd (.inl rfl) (fun k hk=>?_)⟩
   rw[hk] at h4;have CS:own=true:=by cases take<;>simp_all
   subst CS;exact h4
 ·cases he
 ·cases he
theorem xu : (cJ off cs)[j]?=if j=off then (cs[j]?).map AV.drop else cs[j]?:=by
 unfold cJ
 grind
def FZ{q:Nat->bL}{n:Nat}(hW:bf G base H gh w)(hB:iL gh n w b p q cs){v:AV}(hv:cs[off]?=some v)(r:bL)(hr:r≠.outer)(hq:∀ j,q j≠.none/\q j≠.outer/\q j≠p)(anl:∀ i j,q i=q j->i=j)(m:Nat) :
  ∃ bt u,(∀ b o,bt.S b o->gh.S b o)/\Step (fun o=>o=q off) m gh w bt w/\Ext m gh w bt w/\(∀ b o,bt.S b o->b<w.heap.size)/\(∀ b,bt.κ b≠.none->base<=b/\b<w.heap.size)/\iL bt n w b p q (cJ off cs) /\
   w.cell? ⟨b,off,none⟩=some u/\u.oneCell'=true/\CR bt n w r u v:=by
 have gI:=fun b hb=>hW.cA (gh:=gh) b hb
 obtain⟨hκ,hS,C,ty,hb,hC,iG⟩:=hB;have mN:=(auU.1 hv).1;have aiD:off<C.size:=ah;have hu:=au' aiD;have dm:w.cell? ⟨b,off,none⟩=some C[off]:=by rw[cell_of_row w b off C ty _ hb,hu]
 obtain⟨h1,h2⟩:=iG off _ v hu hv
 rcases h2 with T7|⟨e,rfl,Mv,b',cap,C',oe,lo,hi,sz,iQ,hk,he,iJ,Qj,I0,hl,hh,hS'⟩
 ·refine⟨gh,C[off],fun _ _ h=>h,Step.refl _ _ _ _ gI,Ext.refl _ _ _ gI,hW.pN,hW.qN,⟨hκ,hS,C,ty,hb,by simp[cJ];exact hC,fun j u x Gm Bi=>?_⟩,dm,h1,.inl T7⟩
  rw[xu] at Bi;split at Bi
  ·simp only[auP] at Bi
   obtain⟨y,hy,rfl⟩:=Bi;obtain⟨k1,k2⟩:=iG j u y Gm hy;exact⟨k1,.inl k2.dropped⟩
  ·exact iG j u x Gm Bi
 ·have aZ:=(auZ.1 iJ).1
  have st:=mF hW aZ r m;rw[hk] at st;have dp:b≠b':=by rintro rfl;rw[hκ] at hk;exact (hq off).2.2 hk.symm
  have hn:gh.κ b'≠.none:=by rw[hk];exact (hq off).1
  refine⟨gh.tN b' r,C[off],fun _ _ h=>h,st,yp hW aZ hr hn (by rw[hk];exact (hq off).2.1) m,hW.pN,?_,⟨by simp[Gh.tN,dp,hκ],hS,C,ty,hb,by simp[cJ];exact hC,fun j u x Gm Bi=>?_⟩,dm,h1,
   .inr ⟨e,rfl,Mv,b',cap,C',oe,lo,hi,sz,iQ,by simp[Gh.tN],he,iJ,Qj,I0,hl,hh,hS'⟩⟩
  ·intro b1 CL
   have j7:(if b1=b' then r else gh.κ b1)≠.none:=CL
   split at j7
   ·rename_i e;rw[e];exact hW.qN b' hn
   ·exact hW.qN b1 j7
  ·have wB:=mF hW aZ r n
   rw[hk] at wB;rw[xu] at Bi;split at Bi
   ·rename_i hj
    subst hj;rw[hv] at Bi;simp only[au2,auR] at Bi;subst Bi;rw[hu] at Gm;injection Gm with Gm;subst Gm
    exact⟨h1,.inl (.plain _ _ Mv)⟩
   ·rename_i hj
    obtain⟨k1,k2⟩:=iG j u x Gm Bi;exact⟨k1,k2.mono wB (Nat.le_refl _) (fun e=>hj (anl _ _ e))⟩
theorem bf.NI(hW:bf G base H gh w)(st:Step touch H.length gh w bt w'){cs0:List AV}(hH:H[loc]?=some (.box ty cs0))(ht:∀ l,l≠loc->¬ touch (.hb l)/\∀ j,¬ touch (.hs l j))
  (hs:∀ b o,bt.S b o->b<w'.heap.size) (hk:∀ b,bt.κ b≠.none->base<=b/\b<w'.heap.size) {cs:List AV} (hB:iL bt H.length w' (bt.ρ loc) (.hb loc) (fun j=>.hs loc j) cs) (hr:cs.all (aX loc)=true) (jX:∀ b o,bt.S b o->gh.S b o) (hlen:cs.length=cs0.length) :
  bf G base (H.set loc (.box ty cs)) bt w':=by
 have aZ:=(auU.1 hH).1;refine⟨avx hW.size st.size,hs,hk,fun g j x hx=>?_,fun l oe ds hl=>?_,fun l oe ds hl=>?_,fun g hg=>(hW.Bq g hg).imp fun ty h=>st.len g ty _ h,hW.mj st (fun b o m h=>.inl (jX b o h)),fun l o hl=>?_,fun l oe ds hl=>?_⟩
 ·obtain⟨v,h1,h2,h3⟩:=hW.aW g j x hx
  exact⟨v,(st.cell g j h3).trans h1,h2.mono st.S st.cell st.mp,st.S g j h3⟩
 ·rw[List.length_set]
  rw[avO] at hl;split at hl
  ·grind
  ·rename_i e
   have h:=(hW.boxes l oe ds hl).mono st (Nat.le_refl _) (ht l (awf e)).1 (ht l (awf e)).2;rw[st.ρ l (auU.1 hl).1];exact h
 ·rw[avO] at hl
  split at hl
  ·grind
  ·exact hW.refs l oe ds hl
 ·rw[List.length_set]
  rw[avO] at hl;split at hl
  ·rename_i e
   subst e;injection hl with hl
   subst hl;trivial
  ·rename_i e
   rw[st.ρ l (auU.1 hl).1];exact (hW.more l o hl).mono st (Nat.le_refl _) (ht l (awf e)).1 (ht l (awf e)).2
 ·rw[avO] at hl
  split at hl
  ·rename_i e
   subst e;simp only[auR,bM.box.injEq] at hl;obtain⟨rfl,rfl⟩:=hl;intro hf;have hm:=hW.types loc _ cs0 hH hf;rw[st.ρ loc aZ,hlen];exact st.len _ _ _ hm
  ·rename_i e
   rw[st.ρ l (auU.1 hl).1];exact fun hf=>st.len _ _ _ (hW.types l oe ds hl hf)
theorem bf.BT(hW:bf G base H gh w)(st:Step touch H.length gh w bt w')(aZ:loc<H.length)(ht:∀ l,l≠loc->¬ touch (.hb l)/\∀ j,¬ touch (.hs l j))
  (hs:∀ b o,bt.S b o->b<w'.heap.size) (hk:∀ b,bt.κ b≠.none->base<=b/\b<w'.heap.size) {o:bM} (CQ:∀ ty cs,o≠.box ty cs) (hM:wH bt H.length w' (bt.ρ loc) loc o)
  (jX:∀ b o m,bt.S b o->gh.S b o\/(w'.cell? ⟨b,o,none⟩=some (.int .u8 m)->∃ C fr,w'.heap[b]?=some (.cells C jg fr))):bf G base (H.set loc o) bt w':=by
 have box:∀ {l:Nat} {ty:TypeId} {ds:List AV},(H.set loc o)[l]?=some (.box ty ds)->l≠loc/\H[l]?=some (.box ty ds):=by
  grind
 refine⟨avx hW.size st.size,hs,hk,fun g j x hx=>?_,fun l oe ds hl=>?_,fun l oe ds hl=>?_,fun g hg=>(hW.Bq g hg).imp fun ty h=>st.len g ty _ h,hW.mj st jX,fun l o' hl=>?_,fun l oe ds hl hf=>?_⟩
 ·obtain⟨v,h1,h2,h3⟩:=hW.aW g j x hx
  exact⟨v,(st.cell g j h3).trans h1,h2.mono st.S st.cell st.mp,st.S g j h3⟩
 ·obtain⟨dp,hl⟩:=box hl
  rw[List.length_set,st.ρ l (auU.1 hl).1];exact (hW.boxes l oe ds hl).mono st (Nat.le_refl _) (ht l dp).1 (ht l dp).2
 ·exact hW.refs l oe ds (box hl).2
 ·rw[List.length_set]
  rw[avO] at hl;split at hl
  ·grind
  ·rename_i e
   rw[st.ρ l (auU.1 hl).1];exact (hW.more l o' hl).mono st (Nat.le_refl _) (ht l (awf e)).1 (ht l (awf e)).2
 ·obtain⟨dp,hl⟩:=box hl
  rw[st.ρ l (auU.1 hl).1];exact st.len _ _ _ (hW.types l oe ds hl hf)
theorem bf.Dw(hW:bf G base H gh w){ob:Obj}(hp:fS w w' ob){o:bM}(CQ:∀ ty cs,o≠.box ty cs)(hM:wH (gh.bK w.heap.size H.length) (H.length+1) w' w.heap.size H.length o) :
  bf G base (H++[o]) (gh.bK w.heap.size H.length) w':=by
 have st:=gQ hW hp;have old:∀ {l:Nat} {o' : bM},(H++[o])[l]?=some o'->(l<H.length/\H[l]?=some o')\/(l=H.length/\o'=o):=by
  grind
 refine⟨avx hW.size st.size,?_,?_,fun g j x hx=>?_,fun l oe ds hl=>?_,fun l oe ds hl=>?_,fun g hg=>(hW.Bq g hg).imp fun ty h=>st.len g ty _ h,hW.mj st (fun b o m h=>h.elim .inl (fun h=>h.2.elim)),fun l o' hl=>?_,fun l oe ds hl hf=>?_⟩
 ·intro b o ho
  rw[hp.size]
  rcases ho with ho|⟨_,ho⟩
  ·have:=hW.pN b o ho;omega
  ·exact ho.elim
 ·intro b hb
  rw[hp.size];have iJ:(if b=w.heap.size then bL.hb H.length else gh.κ b)≠.none:=hb
  split at iJ
  ·rename_i e
   have:=hW.size
   omega
  ·have:=hW.qN b iJ;omega
 ·obtain⟨v,h1,h2,h3⟩:=hW.aW g j x hx
  exact⟨v,(st.cell g j h3).trans h1,h2.mono st.S st.cell st.mp,st.S g j h3⟩
 ·rcases old hl with ⟨aZ,hl⟩|⟨_,h⟩
  ·rw[List.length_append,av0,st.ρ l aZ]
   exact (hW.boxes l oe ds hl).mono st (Nat.le_succ _) id (fun _=>id)
  ·grind
 ·rcases old hl with ⟨aZ,hl⟩|⟨_,h⟩
  ·exact hW.refs l oe ds hl
  ·grind
 ·rw[List.length_append,av0]
  rcases old hl with ⟨aZ,hl⟩|⟨rfl,rfl⟩
  ·rw[st.ρ l aZ]
   exact (hW.more l o' hl).mono st (Nat.le_succ _) id (fun _=>id)
  ·have hρ:(gh.bK w.heap.size H.length).ρ H.length=w.heap.size:=by simp[Gh.bK]
   rw[hρ];exact hM
 ·rcases old hl with ⟨aZ,hl⟩|⟨_,h⟩
  ·rw[st.ρ l aZ]
   exact st.len _ _ _ (hW.types l oe ds hl hf)
  ·grind
theorem Kx{y:AV}(h:y∈cJ off cs):y∈cs\/∃ x,x∈cs/\y=x.drop:=by
 obtain⟨j,hj⟩:=avl h
 grind [xu]
theorem IF(h:cs.all (aX loc)=true):(cJ off cs).all (aX loc)=true:=by
 grind [Kx,qC]
def pU{n:Nat}{x:AV}(hx:aM x=true)(h:CR gh n w (.sl i) v x):SR gh n nt w T gen tm i v x:=by
 cases x<;>first|exact h|(simp[aM] at hx)
def CR.aM{n:Nat}{x:AV}(h:CR gh n w p v x):aM x=true:=by
 rcases h with h|⟨e,rfl,_⟩
 ·cases h with
  | plain _ _ h=>cases h<;>rfl
  | full=>rfl
  | ref=>rfl
  | sref=>rfl
  | mref=>rfl
  | func=>rfl
  | iface=>rfl
  | agg=>rfl
  | tuple=>rfl
 ·rfl
def me{x:AV}(h:Abs.aM x=true):fz x=none:=by cases x<;>first|rfl|(simp[Abs.aM] at h)
def GZ{t:TypeId}(hg:nP P t=some false)(hc:w.cell? ⟨b,off,none⟩=some u):(Instr.loadAt t (.pointer (some ⟨b,off,none⟩))).run P w=.ok u w:=by
 simp[Instr.loadAt,Instr.sureAddr,loadVar,jk hg,hc]
def HA(hW:bf G base s.H gh w)(hF:FR L nt gh w a s){t:TypeId}{take:Bool}{z:AV}(ho:o.op=.load t x)(hc:ar nt x=some y)(hg:nP P t=some agg)(hs:fD P t=some sz)
  (he:cO s take agg sz (y.addr G s.T)=some (z,some s')) (hd:∀ k,o.dst=some k->k<nt) :
  ∃ v' bt w',wJ P a o w v' w'/\Out G base nt L gh w a s o.dst z s' v' bt w':=by
 have hv:=arg_val hW hF hc;generalize hY:y.addr G s.T=Y at hv he;cases Y<;>simp only[cO] at he<;>try (cases he;done)
 case eptr cs=>simp at he
 case ref loc off =>
  obtain⟨aZ,tE⟩:=VR.kD (hv:VR gh s.H.length w (a.eval x) (.ref loc off));split at he
  ·rename_i WH cs hH
   simp only[auP,auV] at he;obtain⟨u,hu,rfl,hn⟩:=he;cases hq:(take&&!agg) with
   | false=>rw[hq] at hn;cases hn
   | true =>
    rw[hq] at hn;simp only[cond_true,auR] at hn;subst hn;simp only[auT,avg] at hq;obtain⟨rfl,rfl⟩:=hq;simp only[ab,cond_false,cond_true,auP] at hu;obtain⟨u',hu,rfl⟩:=hu;obtain⟨bt,uv,hSS,st,hE,wj,tF,hB,dm,iw,oy⟩:=FZ hW (hW.boxes loc _ cs hH) hu (V1 o.dst) (qv _) ag ag s.H.length;have hρ:=st.ρ loc aZ;have nL:=hW.NI st hH (by intro l hl;simp[hl]) wj tF (by rw[hρ];exact hB) (IF (hW.refs loc _ cs hH)) hSS (by simp[cJ])
    have JZ:FR L nt bt w a (s.iF ⟨s.H.set loc (.box WH (cJ off cs)),loc⟩):=hF.grown st (fun i=>⟨ag,ag,ag⟩) ag
    refine⟨uv,bt,w,.inl ?_,Out.of (s1:=s.iF ⟨s.H.set loc (.box WH (cJ off cs)),loc⟩) (gen':=s.gen) nL JZ hE (Nat.le_refl _) hd (.inl (me oy.aM)) (fun k hk=>?_)⟩
    ·simp[execOp,ho,tE,GZ hg dm]
    ·rw[hk] at oy
     have:(s.iF ⟨s.H.set loc (.box WH (cJ off cs)),loc⟩).H.length=s.H.length:=by simp[AS.iF]
     rw[this];exact pU oy.aM oy
  ·simp at he
  ·simp at he
  ·cases he
 case lref b g off =>
  obtain⟨hb,RF,hr⟩:=(hv:_/\_/\_);split at he
  ·rename_i g' cs hT
   obtain⟨h0,iY⟩:=al he;clear he;have Ka:g=g':=by simpa [iE] using h0
   subst Ka
   rename _=some (z,some s')=>he
   simp only[auP,auV] at he;obtain⟨u,hu,rfl,hn⟩:=he;cases hq:(take&&!agg) with
   | false=>rw[hq] at hn;cases hn
   | true =>
    rw[hq] at hn;simp only[cond_true,auR] at hn;subst hn;simp only[auT,avg] at hq;obtain⟨rfl,rfl⟩:=hq;simp only[ab,cond_false,cond_true,auP] at hu;obtain⟨u',hu,rfl⟩:=hu;obtain⟨k,hk,Qn⟩:=y9 hF hb hT;have tE:=hr (by rw[hT];rfl) k hk
    obtain⟨bt,uv,hSS,st,hE,wj,tF,hB,dm,iw,oy⟩:=FZ hW Qn hu (V1 o.dst) (qv _) ag ag s.H.length;have nL:=hW.step st ag wj tF (fun b o _ h=>.inl (hSS b o h))
    have JZ:FR L nt bt w a (s.cy b (.lbox g (cJ off cs))) :=
     hF.cy (H':=s.H) (lo':=s.lo) st (Nat.le_refl _) (fun i hi=>⟨ag,ag,by intro j e;injection e with e _;exact hi e⟩) (.inl ⟨hb,by rw[hT];rfl⟩) (fun _=>⟨by
      have h:=hF.slot b hb;rw[hT] at h;exact h.1,k,hk,hB⟩)
    refine⟨uv,bt,w,.inl ?_,Out.of (s1:=s.cy b (.lbox g (cJ off cs))) (gen':=s.gen) nL JZ hE (Nat.le_refl _) hd (.inl (me oy.aM)) (fun k hk=>?_)⟩
    ·simp[execOp,ho,tE,GZ hg dm]
    ·rw[hk] at oy
     exact pU oy.aM oy
  ·cases he
 case eref b g i zz off =>
  split at he
  ·simp only[Nl] at he;obtain⟨_,r,_,_,he⟩:=he
   simp at he
  ·cases he
end
end
end Go.Abs
end
