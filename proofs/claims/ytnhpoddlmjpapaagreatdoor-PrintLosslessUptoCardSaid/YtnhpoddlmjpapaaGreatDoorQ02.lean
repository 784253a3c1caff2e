/-
  A part of the proof of PrintLossless: AbsRule, AbsEq, AbsOb, AbsRel, AbsFrame, AbsArg, AbsOps1, AbsOps2.
-/
import Derived.IntWalk
import Derived.Laws.AppendOwn
import Derived.Below
import Derived.WalkKit
import Derived.Test.YtnhpoddlmjpapaaGreatDoorQ01
set_option linter.unusedSimpArgs false
set_option linter.unusedVariables false
set_option linter.defProp false
noncomputable section
namespace Go.Abs
variable {own:Bool}{e f:List (List AV)}{bytes sz:Nat}{G:Nat->List AV}{o:Option AV}{op:oc}
section
def mB(s:Nat):AV->AV
 | .lbox g _=>.lref s g 0
 | .lsl g _=>.lsr s g
 | .iter ..=>.any
 | v=>v
def afl{G:Nat->List AV}{T:aD}{s:Nat} : aE.addr G T (.tmp s)=mB s (T s):=by
 simp only[aE.addr,mB];split<;>simp_all
section
def PI{b:Bool} : AV.drop (AV.bool b)=(.bool b):=rfl
def SL{k:IntKind}{n:Int} : AV.drop (AV.int k n)=(.int k n):=rfl
def SN{l:List UInt8} : AV.drop (AV.str l)=(.str l):=rfl
def Md:AV.drop AV.aq=.aq:=rfl
def KM:AV.plain AV.aq=true:=rfl
def Td:aM AV.aq=true:=rfl
def Me{e:List (List AV)}{own:Bool} : AV.drop (AV.slice e own)=.slice e false:=rfl
def SM{loc off:Nat} : AV.drop (AV.ref loc off)=(.ref loc off):=rfl
def PM{loc off n z:Nat} : AV.drop (AV.sref loc off n z)=(.sref loc off n z):=rfl
def PJ{f:Fn}{fs cs:List AV} : AV.drop (AV.func f fs cs)=(.func f fs cs):=rfl
def SK{cs:List AV} : AV.drop (AV.agg cs)=(.agg cs):=rfl
def Hv{b:Bool} : AV.dk (AV.bool b)=(.bool b):=rfl
def Ju{k:IntKind}{n:Int} : AV.dk (AV.int k n)=(.int k n):=rfl
def Jw{l:List UInt8} : AV.dk (AV.str l)=(.str l):=rfl
def zJ:AV.dk AV.de=.de:=rfl
def Fk{e:List (List AV)}{own:Bool} : AV.dk (AV.slice e own)=.slice e false:=rfl
def Jv{loc off:Nat} : AV.dk (AV.ref loc off)=(.ref loc off):=rfl
def Hw{f:Fn}{fs cs:List AV} : AV.dk (AV.func f fs cs)=(.func f fs cs):=rfl
def Fj{t:TypeId}{v:AV} : AV.dk (AV.iface t v)=(.iface t v):=rfl
def AE{cs:List AV} : AV.dk (AV.agg cs)=.agg (cs.map AV.drop):=rfl
def Xx{b:Bool} : aM (AV.bool b)=true:=rfl
def acV{k:IntKind}{n:Int} : aM (AV.int k n)=true:=rfl
def acX{l:List UInt8} : aM (AV.str l)=true:=rfl
def JN:aM AV.de=true:=rfl
def Te{e:List (List AV)}{own:Bool} : aM (AV.slice e own)=true:=rfl
def acW{loc off:Nat} : aM (AV.ref loc off)=true:=rfl
def Xz{loc off n z:Nat} : aM (AV.sref loc off n z)=true:=rfl
def Xy{f:Fn}{fs cs:List AV} : aM (AV.func f fs cs)=true:=rfl
def acU{cs:List AV} : aM (AV.agg cs)=true:=rfl
def L3{b:Bool} : AV.cells (AV.bool b)=some [(.bool b)]:=rfl
def PD{k:IntKind}{n:Int} : AV.cells (AV.int k n)=some [(.int k n)]:=rfl
def PF{l:List UInt8} : AV.cells (AV.str l)=some [(.str l)]:=rfl
def Jj{e:List (List AV)}{own:Bool} : AV.cells (AV.slice e own)=some [(.slice e own)]:=rfl
def PE{loc off:Nat} : AV.cells (AV.ref loc off)=some [(.ref loc off)]:=rfl
def L6{loc off n z:Nat} : AV.cells (AV.sref loc off n z)=some [(.sref loc off n z)]:=rfl
def L5{f:Fn}{fs cs:List AV} : AV.cells (AV.func f fs cs)=some [(.func f fs cs)]:=rfl
def F0{cs:List AV} : AV.cells (AV.agg cs)=some cs:=rfl
def Nq{b:Bool} : AV.plain (AV.bool b)=true:=rfl
def Q3{k:IntKind}{n:Int} : AV.plain (AV.int k n)=true:=rfl
def Q5{l:List UInt8} : AV.plain (AV.str l)=true:=rfl
def Dv:AV.plain AV.de=true:=rfl
def KN{e:List (List AV)}{own:Bool} : AV.plain (AV.slice e own)=!own:=rfl
def Hr{base:Nat}{b:Bool} : AV.bz base (AV.bool b)=AV.plain (.bool b):=rfl
def Jh{base:Nat}{k:IntKind}{n:Int} : AV.bz base (AV.int k n)=AV.plain (.int k n):=rfl
def Ji{base:Nat}{l:List UInt8} : AV.bz base (AV.str l)=AV.plain (.str l):=rfl
def zE{base:Nat} : AV.bz base AV.de=AV.plain .de:=rfl
def Fg{base:Nat}{e:List (List AV)}{own:Bool} : AV.bz base (AV.slice e own)=AV.plain (.slice e own):=rfl
def Im{base:Nat}{b:Bool} : AV.ft base (AV.bool b)=AV.bz base (.bool b):=rfl
def KJ{base:Nat}{k:IntKind}{n:Int} : AV.ft base (AV.int k n)=AV.bz base (.int k n):=rfl
def KK{base:Nat}{l:List UInt8} : AV.ft base (AV.str l)=AV.bz base (.str l):=rfl
def Ab{base:Nat} : AV.ft base AV.de=AV.bz base .de:=rfl
def FH{base:Nat}{e:List (List AV)}{own:Bool} : AV.ft base (AV.slice e own)=AV.bz base (.slice e own):=rfl
def KI{base:Nat}{cs:List AV} : AV.ft base (AV.agg cs)=cs.all (AV.bz base):=rfl
def Kr{base:Nat}{b:Bool} : AV.leaves base (AV.bool b)=AV.ft base (.bool b):=rfl
def M0{base:Nat}{k:IntKind}{n:Int} : AV.leaves base (AV.int k n)=AV.ft base (.int k n):=rfl
def M1{base:Nat}{l:List UInt8} : AV.leaves base (AV.str l)=AV.ft base (.str l):=rfl
def Ib{base:Nat}{e:List (List AV)}{own:Bool} : AV.leaves base (AV.slice e own)=true:=rfl
def MZ{base:Nat}{cs:List AV} : AV.leaves base (AV.agg cs)=AV.ft base (.agg cs):=rfl
def Ic{base:Nat}{vs:List AV} : AV.leaves base (AV.tuple vs)=vs.all (AV.ft base):=rfl
def LH{s:Nat}{b:Bool} : mB s (AV.bool b)=(.bool b):=rfl
def Pp{s:Nat}{k:IntKind}{n:Int} : mB s (AV.int k n)=(.int k n):=rfl
def Ps{s:Nat}{l:List UInt8} : mB s (AV.str l)=(.str l):=rfl
def I'{s:Nat}{e:List (List AV)}{own:Bool} : mB s (AV.slice e own)=(.slice e own):=rfl
def LI{s:Nat}{cs:List AV} : mB s (AV.eptr cs)=(.eptr cs):=rfl
def Pr{s:Nat}{loc off:Nat} : mB s (AV.ref loc off)=(.ref loc off):=rfl
def LP{s:Nat}{loc off n z:Nat} : mB s (AV.sref loc off n z)=(.sref loc off n z):=rfl
def LO{s:Nat}{loc:Nat} : mB s (AV.mref loc)=(.mref loc):=rfl
def LM{s:Nat}{g:Nat}{cs:List AV} : mB s (AV.lbox g cs)=.lref s g 0:=rfl
def LN{s:Nat}{r g off:Nat} : mB s (AV.lref r g off)=(.lref r g off):=rfl
def Pq{s:Nat}{r g:Nat} : mB s (AV.lsr r g)=(.lsr r g):=rfl
def LJ{s:Nat}{r g i z off:Nat} : mB s (AV.eref r g i z off)=(.eref r g i z off):=rfl
def LK{s:Nat}{f:Fn}{fs cs:List AV} : mB s (AV.func f fs cs)=(.func f fs cs):=rfl
def Po{s:Nat}{cs:List AV} : mB s (AV.agg cs)=(.agg cs):=rfl
def Ja{s:Nat}{vs:List AV} : mB s (AV.tuple vs)=(.tuple vs):=rfl
end
def jB(A:AP)(o:Option AV)(t:Nat)(os:List aS)(T:aD)(H:ae)(lo gen:Nat)(K:AS->Prop):Prop :=
 ca o fun z=>WO A os ⟨T.put t z,H,lo,gen⟩ K
def oo(A:AP)(take obj:Bool)(i:Nat)(v:AV)(t:Nat)(os:List aS)(T:aD)(H:ae)(lo gen:Nat)(K:AS->Prop):Prop :=
 ca (match v with
  | .lbox g _=>some (AV.lref i g 0,(⟨T,H,lo,gen⟩:AS))
  | .lsl g e=>cond take (cond obj (some (.lsl gen e,⟨T.put i .any,H,lo,gen+1⟩)) (cond (nf e) (some (.slice e true,⟨T.put i (.slice e false),H,lo,gen⟩)) none)) (some (.lsr i g,⟨T,H,lo,gen⟩))
  | .slice e own=>cond (take&&own) (some (.slice e true,⟨T.put i (.slice e false),H,lo,gen⟩)) (some (.slice e false,⟨T,H,lo,gen⟩))
  | .iter ..=>none
  | v=>some (v,⟨T,H,lo,gen⟩)) fun r=>WO A os (r.2.cy t r.1) K
def oh(A:AP)(v:AV)(w:Bool)(t:Nat)(op:oc)(os:List aS)(T:aD)(H:ae)(lo gen:Nat)(K:AS->Prop):Prop :=
 ca (match v with|.bool b=>some (b==w)|.tuple []=>some false|_=>none) fun b =>
  (b=true->WO A (⟨some t,none,op⟩ :: os) ⟨T,H,lo,gen⟩ K)/\(b=false->WO A os ⟨T.put t .undef,H,lo,gen⟩ K)
def xX(A:AP)(r:Option (AV × Option fR))(t:Nat)(os:List aS)(T:aD)(H:ae)(lo gen:Nat)(K:AS->Prop):Prop :=
 ca (r.bind fun r=>match r.2 with
  | none=>some (r.1,(⟨T,H,lo,gen⟩:AS))
  | some c=>some (r.1,AS.iF ⟨T,H,lo,gen⟩ c)) fun r=>WO A os (r.2.cy t r.1) K
def cY(G:Nat->List AV)(T:aD):List aE->List AV
 | []=>[]
 | a :: r=>(a.addr G T).dk :: cY G T r
def cb(G:Nat->List AV)(T:aD):List aE->Bool
 | []=>true
 | a :: r=>aM (a.addr G T)&&cb G T r
def xU{T:aD} : ∀ l:List aE,l.map (fun a=>(a.addr G T).dk)=cY G T l
 | []=>rfl
 | a :: r=>by simp[cY,xU r]
def u7{T:aD} : ∀ l:List aE,(l.map fun a=>a.addr G T).all aM=cb G T l
 | []=>rfl
 | a :: r=>by simp only[au9,List.all_cons,cb,u7 r]
def ct(G:Nat->List AV)(T:aD):List (Nat × Nat × aE)->List (Nat × Nat × AV)
 | []=>[]
 | (o,z,a) :: r=>(o,z,(a.eval G T).drop) :: ct G T r
def GP{T:aD} : ∀ l:List (Nat × Nat × aE),l.map (fun p=>(p.1,p.2.1,(p.2.2.eval G T).drop))=ct G T l
 | []=>rfl
 | a :: r=>by simp[ct,GP r]
def cm(G:Nat->List AV)(T:aD):List (Nat × aE)->List (Nat × AV)
 | []=>[]
 | (i,a) :: r=>(i,(a.eval G T).drop) :: cm G T r
def zK{T:aD} : ∀ l:List (Nat × aE),l.map (fun p=>(p.1,(p.2.eval G T).drop))=cm G T l
 | []=>rfl
 | a :: r=>by simp[cm,zK r]
def gC(G:Nat->List AV)(T:aD):Option aE->Option AV
 | none=>none
 | some a=>some (a.eval G T)
def O0(c a b:AV):Option AV:=match c with
 | .bool t=>some (cond t a.drop b.drop)
 | _=>none
def UY(b:Bool)(o:Option (List (List AV))):Option AV:=o.bind fun E=>cond (mz b E) (some (.slice E true)) none
def bS(o:Option bM)(agg:Bool)(sz off:Nat):Option AV:=match o with
 | some (.box _ cs)=>ab false agg sz off cs
 | some (.Tc cs)=>ab false agg sz off cs
 | some (.bV cs)=>ab false agg sz off cs
 | _=>none
def oV(v:AV)(g:Nat)(agg:Bool)(sz off:Nat):Option AV:=match v with
 | .lbox g' cs=>cond (Nat.beq g g') (ab false agg sz off cs) none
 | _=>none
def DA(o:Option (List AV))(z:Nat)(agg:Bool)(sz off:Nat):Option AV:=o.bind fun r=>cond (Nat.beq r.length z) (ab false agg sz off r) none
def yR(v:AV)(g i z:Nat)(agg:Bool)(sz off:Nat):Option AV:=match v with
 | .lsl g' e=>cond (Nat.beq g g') (DA (e[i]?) z agg sz off) none
 | _=>none
def yO(T:aD)(H:ae)(agg:Bool)(sz:Nat)(x:AV):Option AV:=match x with
 | .eptr cs=>ab false agg sz 0 cs
 | .ref loc off=>bS H[loc]? agg sz off
 | .lref b g off=>oV (T b) g agg sz off
 | .eref b g i z off=>yR (T b) g i z agg sz off
 | _=>none
def pH(v:AV)(g:Nat)(r:AV):Option AV:=match v with
 | .lbox g' _=>cond (Nat.beq g g') (some r) none
 | _=>none
def yS(v:AV)(g i:Nat)(r:AV):Option AV:=match v with
 | .lsl g' e=>cond (Nat.beq g g'&&Nat.blt i e.length) (some r) none
 | _=>none
def faV(T:aD)(off:Nat)(x:AV):Option AV:=match x with
 | .ref l o=>some (.ref l (o+off))
 | .eptr cs=>some (.eptr (cs.drop off))
 | .lref b g o=>pH (T b) g (.lref b g (o+off))
 | .eref b g i z o=>yS (T b) g i (.eref b g i z (o+off))
 | _=>none
def NG(sz:Nat)(r:Option (List AV))(f:List AV->AV):Option AV:=r.bind fun r=>cond (Nat.beq r.length sz) (some (f r)) none
def ixV(T:aD)(sz:Nat)(x:AV)(n:Option Nat):Option AV:=match x with
 | .slice e _=>n.bind fun n=>NG sz (e[n]?) .eptr
 | .sref l o m _=>n.bind fun n=>cond (Nat.blt n m) (some (.ref l (o+n*sz))) none
 | .lsr t g=>match T t with
  | .lsl g' e=>cond (Nat.beq g g') (n.bind fun n=>NG sz (e[n]?) fun _=>.eref t g n sz 0) none
  | _=>none
 | _=>none
def MQ(agg:Bool)(n sz:Nat)(x:AV)(i:Option Nat):Option AV:=match x with
 | .agg cs=>i.bind fun k=>cond (Nat.blt k n) (ab false agg sz (k*sz) cs) none
 | _=>none
def L2(o:Option UInt8):Option AV:=o.map fun (b:UInt8)=>AV.int .u8 b.toNat
def Su(x:AV)(i:Option Nat):Option AV:=match x with
 | .str l=>i.bind fun n=>L2 (l[n]?)
 | _=>none
def S9(x:AV)(i:Nat):Option AV:=match x with
 | .tuple vs=>(vs[i]?).map AV.dk
 | _=>none
def M4(T:aD)(k:rT)(x:AV):Option AV:=match x with
 | .lsr t g=>match T t with
  | .lsl g' e=>cond (Nat.beq g g') (cZ k (.slice e false)) none
  | _=>none
 | v=>cZ k v
def Sx(A:AP)(f:AV)(vs:List AV)(t:Nat)(os:List aS)(T:aD)(H:ae)(lo gen:Nat)(K:AS->Prop):Prop:=match f with
 | .func (.func n) fs cs=>xX A (aj A n (fs++vs++cs) H) t os T H lo gen K
 | _=>False
def WT(A:AP)(b:Bool)(sz bytes i:Nat)(x y:AV)(t:Nat)(os:List aS)(T:aD)(H:ae)(lo gen:Nat)(K:AS->Prop):Prop:=match x with
 | .slice e own=>ca (aF b sz bytes (.slice e own) y) fun z=>WO A os ⟨(T.put i (.slice e false)).put t z,H,lo,gen⟩ K
 | .aq=>ca (aF b sz bytes (.slice [] true) y) fun z=>WO A os ⟨T.put t z,H,lo,gen⟩ K
 | _=>False
section
variable {A:AP}{T:aD}{H:ae}{lo gen:Nat}{K:AS->Prop}{os:List aS}{t:Nat}
def xE{z:AV} : jB A (some z) t os T H lo gen K=WO A os ⟨T.put t z,H,lo,gen⟩ K:=aU
def abZ(z:AV)(h:o=some z)(hK:WO A os ⟨T.put t z,H,lo,gen⟩ K):jB A o t os T H lo gen K:=by
 rw[h,xE];exact hK
def gU(h:aQ A.aW (aj A) ⟨T,H,lo,gen⟩ op=o.map (·,none)):WO A (⟨some t,none,op⟩ :: os) ⟨T,H,lo,gen⟩ K=jB A o t os T H lo gen K:=by
 rw[gl];cases o with
 | none=>simp[jB,aP,h,ca]
 | some z =>
  simp only[jB,aP,h,au2,auW];simp only[aU];rfl
section
variable {take obj:Bool}{i:Nat}
def YN{b:Bool} : oo A take obj i (AV.bool b) t os T H lo gen K=WO A os ⟨T.put t (AV.bool b),H,lo,gen⟩ K:=aU
def aeQ{k:IntKind}{n:Int} : oo A take obj i (AV.int k n) t os T H lo gen K=WO A os ⟨T.put t (AV.int k n),H,lo,gen⟩ K:=aU
def aeV{l:List UInt8} : oo A take obj i (AV.str l) t os T H lo gen K=WO A os ⟨T.put t (AV.str l),H,lo,gen⟩ K:=aU
def Ky:oo A take obj i AV.de t os T H lo gen K=WO A os ⟨T.put t AV.de,H,lo,gen⟩ K:=aU
def aeR{loc off:Nat} : oo A take obj i (AV.ref loc off) t os T H lo gen K=WO A os ⟨T.put t (AV.ref loc off),H,lo,gen⟩ K:=aU
def YS{loc off n z:Nat} : oo A take obj i (AV.sref loc off n z) t os T H lo gen K=WO A os ⟨T.put t (AV.sref loc off n z),H,lo,gen⟩ K:=aU
def YR{loc:Nat} : oo A take obj i (AV.mref loc) t os T H lo gen K=WO A os ⟨T.put t (AV.mref loc),H,lo,gen⟩ K:=aU
def YO{fn:Fn}{fs cs:List AV} : oo A take obj i (AV.func fn fs cs) t os T H lo gen K=WO A os ⟨T.put t (AV.func fn fs cs),H,lo,gen⟩ K:=aU
def UT{u:TypeId}{v:AV} : oo A take obj i (AV.iface u v) t os T H lo gen K=WO A os ⟨T.put t (AV.iface u v),H,lo,gen⟩ K:=aU
def UW{vs:List AV} : oo A take obj i (AV.tuple vs) t os T H lo gen K=WO A os ⟨T.put t (AV.tuple vs),H,lo,gen⟩ K:=aU
def aeT{e:List (List AV)} : oo A take obj i (.slice e false) t os T H lo gen K=WO A os ⟨T.put t (.slice e false),H,lo,gen⟩ K:=by
 simp[oo,aU,AS.cy]
def aeU{e:List (List AV)} : oo A true obj i (.slice e true) t os T H lo gen K=WO A os ⟨(T.put i (.slice e false)).put t (.slice e true),H,lo,gen⟩ K:=by
 simp[oo,aU,AS.cy]
def aeS{e:List (List AV)}{own:Bool} : oo A false obj i (.slice e own) t os T H lo gen K=WO A os ⟨T.put t (.slice e false),H,lo,gen⟩ K:=by
 simp[oo,aU,AS.cy]
def YP{g:Nat}{e:List (List AV)} : oo A false obj i (.lsl g e) t os T H lo gen K=WO A os ⟨T.put t (.lsr i g),H,lo,gen⟩ K:=by
 simp[oo,aU,AS.cy]
def vt{g:Nat}(hn:nf e=true):oo A true false i (.lsl g e) t os T H lo gen K=WO A os ⟨(T.put i (.slice e false)).put t (.slice e true),H,lo,gen⟩ K:=by
 simp[oo,aU,AS.cy,hn]
def YQ{g:Nat}{e:List (List AV)} : oo A true true i (.lsl g e) t os T H lo gen K=WO A os ⟨(T.put i .any).put t (.lsl gen e),H,lo,gen+1⟩ K:=by
 simp[oo,aU,AS.cy]
end
def akx{take obj:Bool}{i:Nat} : WO A (⟨some t,none,.mov take obj (.tmp i)⟩ :: os) ⟨T,H,lo,gen⟩ K=oo A take obj i (T i) t os T H lo gen K:=by
 rw[gl];simp only[oo,aP,aQ,qZ];cases hT:T i with
 | slice e own=>cases take<;>cases own<;>simp[ca,AS.bW,AS.cy,fz]
 | lbox g cs=>simp[ca,AS.bW,AS.cy,fz]
 | lsl g e=>cases take<;>cases obj<;>cases hn:nf e<;>simp[ca,AS.bW,AS.cy,fz,hn]
 | _=>simp[ca,AS.bW,AS.cy,fz]
def Vx{take obj:Bool}{v:AV} : WO A (⟨some t,none,.mov take obj (.xI v)⟩ :: os) ⟨T,H,lo,gen⟩ K=jB A (some v) t os T H lo gen K:=gU rfl
def afF{take obj:Bool}{f:FuncId} : WO A (⟨some t,none,.mov take obj (.fn f)⟩ :: os) ⟨T,H,lo,gen⟩ K=jB A (some (.func (.func f) [] [])) t os T H lo gen K:=gU rfl
def Zl{g:Nat}{w:Bool}{op:oc} : WO A (⟨some t,some (g,w),op⟩ :: os) ⟨T,H,lo,gen⟩ K=oh A (T g) w t op os T H lo gen K:=by
 rw[gl];simp only[oh,gl];unfold aP;simp only;cases hT:T g with
 | bool b =>
  cases hb:(b==w) with
  | true=>simp only[hb,aU,cond_true,axR,Bool.true_eq_false,axH,avZ,avs]
  | false=>simp only[hb,aU,cond_false,axR,av4,axH,awL,avs,AS.bW,AS.cy]
 | tuple l =>
  cases l with
  | nil=>simp only[aU,axR,av4,axH,awL,avs,AS.bW,AS.cy]
  | cons a l=>simp[ca]
 | _=>simp[ca]
def akr{op:oc} : oh A (.bool true) true t op os T H lo gen K=WO A (⟨some t,none,op⟩ :: os) ⟨T,H,lo,gen⟩ K:=by simp[oh,aU]
def ako{op:oc} : oh A (.bool false) false t op os T H lo gen K=WO A (⟨some t,none,op⟩ :: os) ⟨T,H,lo,gen⟩ K:=by simp[oh,aU]
def akq{op:oc} : oh A (.bool true) false t op os T H lo gen K=WO A os ⟨T.put t .undef,H,lo,gen⟩ K:=by simp[oh,aU]
def akp{op:oc} : oh A (.bool false) true t op os T H lo gen K=WO A os ⟨T.put t .undef,H,lo,gen⟩ K:=by simp[oh,aU]
def aks{op:oc}{w:Bool} : oh A (.tuple []) w t op os T H lo gen K=WO A os ⟨T.put t .undef,H,lo,gen⟩ K:=by simp[oh,aU]
def afH{c a b:aE} : WO A (⟨some t,none,.pick c a b⟩ :: os) ⟨T,H,lo,gen⟩ K=jB A (O0 (c.eval A.aW T) (a.addr A.aW T) (b.addr A.aW T)) t os T H lo gen K:=by
 refine gU ?_;simp only[aQ,O0];cases c.eval A.aW T<;>rfl
def Zz{x y:AV} : O0 (.bool true) x y=some x.drop:=rfl
def Zy{x y:AV} : O0 (.bool false) x y=some y.drop:=rfl
def Vq{z:List AV} : WO A (⟨some t,none,.allocL z⟩ :: os) ⟨T,H,lo,gen⟩ K=WO A os ⟨T.put t (.lbox gen z),H,lo,gen+1⟩ K:=by
 rw[gl];simp only[aP,aQ,auW,cond_false,aU];rfl
def Vp{ty:TypeId}{z:List AV} : WO A (⟨some t,none,.Hk ty z⟩ :: os) ⟨T,H,lo,gen⟩ K=WO A os ⟨T.put t (.ref H.length 0),H++[.box ty z],cond (Nat.blt H.length lo) H.length lo,gen⟩ K:=by
 rw[gl];simp only[aP,aQ,auW,cond_false,aU];rfl
def Zb{z:List AV}{ps:List (Nat × Nat × aE)} : WO A (⟨some t,none,.build z ps⟩ :: os) ⟨T,H,lo,gen⟩ K=jB A ((fw z (ct A.aW T ps)).map .agg) t os T H lo gen K:=by
 refine gU ?_;simp only[aQ,GP,awP];rfl
def GV{b:Bool}{sz:Nat}{z:List (List AV)}{ps:List (Nat × aE)} : WO A (⟨some t,none,.mkslice b sz z ps⟩ :: os) ⟨T,H,lo,gen⟩ K=jB A (UY b (cQ sz z (cm A.aW T ps))) t os T H lo gen K:=by
 refine gU ?_;simp only[aQ,zK,UY];cases cQ sz z (cm A.aW T ps) with
 | none=>rfl
 | some E=>simp only[auW];cases mz b E<;>rfl
def aoW{b:Bool}{E:List (List AV)} : UY b (some E)=cond (mz b E) (some (.slice E true)) none:=rfl
def Zp{agg:Bool}{sz:Nat}{x:aE} : WO A (⟨some t,none,.load false agg sz x⟩ :: os) ⟨T,H,lo,gen⟩ K=jB A (yO T H agg sz (x.addr A.aW T)) t os T H lo gen K:=by
 refine gU ?_;simp only[aQ,cO,yO,avk,cond_false];cases x.addr A.aW T with
 | ref loc off=>cases hl:H[loc]? with
  | none=>simp only[hl,bS];rfl
  | some o=>cases o<;>simp only[hl,bS]<;>rfl
 | lref b g off =>
  cases hb:T b with
  | lbox g' cs=>simp only[hb,oV];cases Nat.beq g g'<;>rfl
  | _=>simp only[hb,oV];rfl
 | eref b g i z off =>
  cases hb:T b with
  | lsl g' e =>
   simp only[hb,yR,DA];cases Nat.beq g g' with
   | false=>rfl
   | true =>
    simp only[cond_true];cases e[i]? with
    | none=>rfl
    | some r=>simp only[auW];cases Nat.beq r.length z<;>rfl
  | _=>simp only[hb,yR];rfl
 | _=>rfl
def Zq{agg:Bool}{sz:Nat}{cs:List AV} : yO T H agg sz (.eptr cs)=ab false agg sz 0 cs:=rfl
def Zs{agg:Bool}{sz loc off:Nat} : yO T H agg sz (.ref loc off)=bS H[loc]? agg sz off:=rfl
def afq{ty:TypeId}{cs:List AV}{agg:Bool}{sz off:Nat} : bS (some (.box ty cs)) agg sz off=ab false agg sz off cs:=rfl
def Zr{agg:Bool}{sz b g off:Nat} : yO T H agg sz (.lref b g off)=oV (T b) g agg sz off:=rfl
def Zo{g g' : Nat}{cs:List AV}{agg:Bool}{sz off:Nat} : oV (.lbox g cs) g' agg sz off=cond (Nat.beq g' g) (ab false agg sz off cs) none:=rfl
def Vu{sz off:Nat}{cs:List AV} : ab false true sz off cs=cond (Nat.ble (off+sz) cs.length) (some (.agg (((cs.drop off).take sz).map AV.drop))) none:=rfl
def Vt{sz off:Nat}{cs:List AV} : ab false false sz off cs=(cs[off]?).map AV.drop:=by
 simp only[ab,cond_false]
def akc{op:BinOp}{q:zq}{x y:aE} : WO A (⟨some t,none,.bin op q x y⟩ :: os) ⟨T,H,lo,gen⟩ K=jB A (Av op q (dc x || dc y) (x.eval A.aW T) (y.eval A.aW T)) t os T H lo gen K:=gU rfl
def aoY{op:UnOp}{x:aE} : WO A (⟨some t,none,.un op x⟩ :: os) ⟨T,H,lo,gen⟩ K=jB A (gr op (x.eval A.aW T)) t os T H lo gen K:=gU rfl
def afx{c:BY}{x:aE} : WO A (⟨some t,none,.conv c x⟩ :: os) ⟨T,H,lo,gen⟩ K=jB A (cd c (x.eval A.aW T)) t os T H lo gen K:=gU rfl
def ZC{k:zy}{x:aE}{l h m:Option aE} : WO A (⟨some t,none,.slice k x l h m⟩ :: os) ⟨T,H,lo,gen⟩ K=jB A (bD k (x.eval A.aW T) (gC A.aW T l) (gC A.aW T h) (gC A.aW T m)) t os T H lo gen K:=by
 refine gU ?_;cases l<;>cases h<;>cases m<;>rfl
def akb{op:BinOp}{q:zq}{c:Bool}{j k:IntKind}{a b:Int} : Av op q c (.int j a) (.int k b)=cond (decide (j=k)) (aa op j a b) none:=rfl
def akg{op:BinOp}{q:zq}{c:Bool}{a b:List UInt8} : Av op q c (.str a) (.str b)=cn op a b:=rfl
def KU{off:Nat}{x:aE} : WO A (⟨some t,none,.fieldAddr off x⟩ :: os) ⟨T,H,lo,gen⟩ K=jB A (faV T off (x.addr A.aW T)) t os T H lo gen K:=by
 refine gU ?_;simp only[aQ,faV];cases x.addr A.aW T with
 | lref b g o =>
  cases hb:T b with
  | lbox g' cs=>simp only[hb,aN,bI,pH];cases Nat.beq g g'<;>rfl
  | _=>simp only[hb,aN,pH];rfl
 | eref b g i z o =>
  cases hb:T b with
  | lsl g' e=>simp only[hb,aN,bI,yS];cases (Nat.beq g g'&&Nat.blt i e.length)<;>rfl
  | _=>simp only[hb,aN,yS];rfl
 | _=>rfl
def akk{off:Nat}{cs:List AV} : faV T off (.eptr cs)=some (.eptr (cs.drop off)):=rfl
def akm{off l o:Nat} : faV T off (.ref l o)=some (.ref l (o+off)):=rfl
def akl{off b g o:Nat} : faV T off (.lref b g o)=pH (T b) g (.lref b g (o+off)):=rfl
def NA{g g' : Nat}{cs:List AV}{r:AV} : pH (.lbox g cs) g' r=cond (Nat.beq g' g) (some r) none:=rfl
def Zn{n sz:Nat}{x i:aE} : WO A (⟨some t,none,.ixArr n sz x i⟩ :: os) ⟨T,H,lo,gen⟩ K=jB A ((asNat (i.eval A.aW T)).bind fun k=>cond (Nat.blt k n) (faV T (k*sz) (x.addr A.aW T)) none) t os T H lo gen K:=by
 refine gU ?_;simp only[aQ];cases asNat (i.eval A.aW T) with
 | none=>rfl
 | some k =>
  simp only[auW];cases Nat.blt k n with
  | false=>rfl
  | true =>
   simp only[avv,cond_true,faV];cases x.addr A.aW T with
   | lref b g o =>
    cases hb:T b with
    | lbox g' cs=>simp only[hb,aN,bI,pH];cases Nat.beq g g'<;>rfl
    | _=>simp only[hb,aN,pH];rfl
   | eref b g i z o =>
    cases hb:T b with
    | lsl g' e=>simp only[hb,aN,bI,yS];cases (Nat.beq g g'&&Nat.blt i e.length)<;>rfl
    | _=>simp only[hb,aN,yS];rfl
   | _=>rfl
def afA{sz:Nat}{x i:aE} : WO A (⟨some t,none,.ixSl sz x i⟩ :: os) ⟨T,H,lo,gen⟩ K=jB A (ixV T sz (x.addr A.aW T) (asNat (i.eval A.aW T))) t os T H lo gen K:=by
 refine gU ?_;simp only[aQ,ixV];cases x.addr A.aW T with
 | slice e own =>
  cases asNat (i.eval A.aW T) with
  | none=>rfl
  | some n =>
   simp only[auW,NG];cases e[n]? with
   | none=>rfl
   | some r=>simp only[auW];cases Nat.beq r.length sz<;>rfl
 | sref l o m z =>
  cases asNat (i.eval A.aW T) with
  | none=>rfl
  | some n=>simp only[auW];cases Nat.blt n m<;>rfl
 | lsr s g =>
  cases hs:T s with
  | lsl g' e =>
   simp only[hs];cases Nat.beq g g' with
   | false=>rfl
   | true =>
    simp only[cond_true];cases asNat (i.eval A.aW T) with
    | none=>rfl
    | some n =>
     simp only[auW,NG];cases e[n]? with
     | none=>rfl
     | some r=>simp only[auW];cases Nat.beq r.length sz<;>rfl
  | _=>simp[hs]
 | _=>rfl
def akv{sz n:Nat}{e:List (List AV)}{own:Bool} : ixV T sz (.slice e own) (some n)=NG sz (e[n]?) .eptr:=rfl
def aku{sz n l o m z:Nat} : ixV T sz (.sref l o m z) (some n)=cond (Nat.blt n m) (some (.ref l (o+n*sz))) none:=rfl
def akt{sz n s g:Nat} : ixV T sz (.lsr s g) (some n)=(match T s with|.lsl g' e=>cond (Nat.beq g g') (NG sz (e[n]?) fun _=>.eref s g n sz 0) none|_=>none):=rfl
def afR{sz:Nat}{r:List AV}{f:List AV->AV} : NG sz (some r) f=cond (Nat.beq r.length sz) (some (f r)) none:=rfl
def Zm{agg:Bool}{n sz:Nat}{x i:aE} : WO A (⟨some t,none,.index agg n sz x i⟩ :: os) ⟨T,H,lo,gen⟩ K=jB A (MQ agg n sz (x.eval A.aW T) (asNat (i.eval A.aW T))) t os T H lo gen K:=by
 refine gU ?_;simp only[aQ,MQ];cases asNat (i.eval A.aW T) with
 | none=>cases x.eval A.aW T<;>rfl
 | some k =>
  simp only[auW];cases Nat.blt k n with
  | false=>cases x.eval A.aW T<;>rfl
  | true=>cases x.eval A.aW T<;>rfl
def Vv{agg:Bool}{n sz k:Nat}{cs:List AV} : MQ agg n sz (.agg cs) (some k)=cond (Nat.blt k n) (ab false agg sz (k*sz) cs) none:=rfl
def Nz{x i:aE} : WO A (⟨some t,none,.rj x i⟩ :: os) ⟨T,H,lo,gen⟩ K=jB A (Su (x.eval A.aW T) (asNat (i.eval A.aW T))) t os T H lo gen K:=by
 refine gU ?_;simp only[aQ,Su];cases x.eval A.aW T with
 | str l =>
  cases asNat (i.eval A.aW T) with
  | none=>rfl
  | some n=>simp only[auW];cases l[n]?<;>rfl
 | _=>rfl
def Zc{l:List UInt8}{n:Nat} : Su (.str l) (some n)=L2 (l[n]?):=rfl
def Vs{b:UInt8} : L2 (some b)=some (.int .u8 b.toNat):=rfl
def Q8{x:aE}{i:Nat} : WO A (⟨some t,none,.extract x i⟩ :: os) ⟨T,H,lo,gen⟩ K=jB A (S9 (x.eval A.aW T) i) t os T H lo gen K:=by
 refine gU ?_;simp only[aQ,S9];cases x.eval A.aW T with
 | tuple vs=>simp only;cases vs[i]?<;>rfl
 | _=>rfl
def Zk{vs:List AV}{i:Nat} : S9 (.tuple vs) i=(vs[i]?).map AV.dk:=rfl
def akw{k:rT}{x:aE} : WO A (⟨some t,none,.len k x⟩ :: os) ⟨T,H,lo,gen⟩ K=jB A (M4 T k (x.addr A.aW T)) t os T H lo gen K:=by
 refine gU ?_;simp only[aQ,M4];cases x.addr A.aW T with
 | lsr s g =>
  cases hs:T s with
  | lsl g' e=>simp only[hs];cases Nat.beq g g'<;>rfl
  | _=>simp[hs]
 | _=>rfl
def afD{l:List UInt8} : M4 T .str (.str l)=some (.int .i64 l.length):=rfl
def afB{e:List (List AV)}{own:Bool} : M4 T .sl (.slice e own)=some (.int .i64 e.length):=rfl
def afC{l o m z:Nat} : M4 T .sl (.sref l o m z)=some (.int .i64 m):=rfl
def afu{f:FuncId}{args:List aE} : WO A (⟨some t,none,.call (.fn f) args⟩ :: os) ⟨T,H,lo,gen⟩ K=(cb A.aW T args=true/\xX A (aj A f (cY A.aW T args) H) t os T H lo gen K):=by
 rw[gl];simp only[aP,aQ,aE.eval,u7,xU,xX,avM,List.append_nil];refine propext ?_;cases cb A.aW T args with
 | false=>simp[ca]
 | true =>
  simp only[cond_true,awL];cases aj A f (cY A.aW T args) H with
  | none=>simp[ca]
  | some r =>
   obtain⟨v,c⟩:=r;cases c with
   | none=>simp only[au2,av6,auW];simp[ca,AS.bW]
   | some c=>simp only[au2,auW];simp[ca,AS.bW]
def Zf{i:Nat}{args:List aE} : WO A (⟨some t,none,.call (.tmp i) args⟩ :: os) ⟨T,H,lo,gen⟩ K=(cb A.aW T args=true/\Sx A (T i) (cY A.aW T args) t os T H lo gen K):=by
 rw[gl];simp only[aP,aQ,aE.eval,u7,xU,Sx,xX];refine propext ?_;cases hT:T i with
 | func fn fs cs =>
  cases fn with
  | func n =>
   cases cb A.aW T args with
   | false=>simp[ca]
   | true =>
    simp only[cond_true,awL];cases aj A n (fs++cY A.aW T args++cs) H with
    | none=>simp[ca]
    | some r =>
     obtain⟨v,c⟩:=r;cases c with
     | none=>simp only[au2,av6,auW];simp[ca,AS.bW]
     | some c=>simp only[au2,auW];simp[ca,AS.bW]
  | _=>simp[ca]
 | _=>simp[ca]
def Zd{n:FuncId}{fs vs cs:List AV} : Sx A (.func (.func n) fs cs) vs t os T H lo gen K=xX A (aj A n (fs++vs++cs) H) t os T H lo gen K:=rfl
def akA{v:AV} : xX A (some (v,none)) t os T H lo gen K=WO A os ⟨T.put t v,H,lo,gen⟩ K:=by
 simp[xX,aU,AS.cy]
def afQ{v:AV}{h:ae}{l:Nat} : xX A (some (v,some ⟨h,l⟩)) t os T H lo gen K=WO A os ⟨T.put t v,h,cond (Nat.blt l lo) l lo,gen⟩ K:=by
 simp[xX,aU,AS.cy,AS.iF]
def Vr{b:Bool}{sz bytes i:Nat}{y:aE} : WO A (⟨some t,none,.append b false sz bytes (.tmp i) y⟩ :: os) ⟨T,H,lo,gen⟩ K=WT A b sz bytes i (T i) (y.eval A.aW T) t os T H lo gen K:=by
 rw[gl];simp only[aP,aQ,br,WT];cases hT:T i with
 | slice e own =>
  simp only[cond_false];cases aF b sz bytes (.slice e own) (y.eval A.aW T) with
  | none=>simp[ca]
  | some z=>simp[ca,AS.bW,AS.cy]
 | lsl g e =>
  simp only[avk,cond_false];cases bu sz (y.eval A.aW T)<;>simp[ca]
 | aq =>
  simp only[cond_false];cases aF b sz bytes (.slice [] true) (y.eval A.aW T) with
  | none=>simp[ca]
  | some z=>simp[ca,AS.bW,AS.cy]
 | _=>simp[ca]
def afo{b:Bool}{sz bytes i:Nat}{y:AV} : WT A b sz bytes i .aq y t os T H lo gen K=ca (aF b sz bytes (.slice [] true) y) fun z=>WO A os ⟨T.put t z,H,lo,gen⟩ K:=rfl
def afm{b:Bool}{sz bytes i:Nat}{e:List (List AV)}{own:Bool}{y:AV} : WT A b sz bytes i (.slice e own) y t os T H lo gen K=ca (aF b sz bytes (.slice e own) y) fun z=>WO A os ⟨(T.put i (.slice e false)).put t z,H,lo,gen⟩ K:=rfl
def ZD{dst:Option Nat}{sz:Nat}{a v:aE} : WO A (⟨dst,none,.store sz a v⟩ :: os) ⟨T,H,lo,gen⟩ K=ca (aP A.aW (aj A) ⟨T,H,lo,gen⟩ ⟨dst,none,.store sz a v⟩) fun s'=>WO A os s' K:=gl
def Zt{dst:Option Nat}{agg:Bool}{sz:Nat}{x:aE} : WO A (⟨dst,none,.load true agg sz x⟩ :: os) ⟨T,H,lo,gen⟩ K=ca (aP A.aW (aj A) ⟨T,H,lo,gen⟩ ⟨dst,none,.load true agg sz x⟩) fun s'=>WO A os s' K:=gl
def NB{dst:Option Nat}{x:aE} : WO A (⟨dst,none,.nilCheck x⟩ :: os) ⟨T,H,lo,gen⟩ K=ca (aP A.aW (aj A) ⟨T,H,lo,gen⟩ ⟨dst,none,.nilCheck x⟩) fun s'=>WO A os s' K:=gl
def Vw{dst:Option Nat}{f:Fn}{a b:List aE} : WO A (⟨dst,none,.mkfunc f a b⟩ :: os) ⟨T,H,lo,gen⟩ K=ca (aP A.aW (aj A) ⟨T,H,lo,gen⟩ ⟨dst,none,.mkfunc f a b⟩) fun s'=>WO A os s' K:=gl
end
def Y9{G:Nat->List AV}{T:aD}{v:AV} : aE.addr G T (.xI v)=v:=rfl
def Za{G:Nat->List AV}{T:aD}{g:Nat} : aE.addr G T (.aW g)=.eptr (G g):=rfl
def spK(sz:Nat)(es:List (List AV))(i:Nat)(o:Option (List AV))(r:List (Nat × AV)):Option (List (List AV)):=match o with
 | none=>none
 | some cs=>cond (Nat.blt i es.length) (cQ sz (es.set i cs) r) none
def akD{sz:Nat}{es:List (List AV)} : cQ sz es []=some es:=rfl
def akB{sz i:Nat}{es:List (List AV)}{v:AV}{r:List (Nat × AV)} : cQ sz es ((i,v) :: r)=spK sz es i (v.elem sz) r:=by
 simp only[cQ,spK];cases v.elem sz<;>rfl
def akC{sz i:Nat}{es:List (List AV)}{cs:List AV}{r:List (Nat × AV)} : spK sz es i (some cs) r=cond (Nat.blt i es.length) (cQ sz (es.set i cs) r) none:=rfl
def Zh{sz:Nat}{cs:List AV} : AV.elem sz (.agg cs)=cond (Nat.beq (cs.map AV.drop).length sz&&(cs.map AV.drop).all AV.plain) (some (cs.map AV.drop)) none:=rfl
def Zi{k:IntKind}{n:Int} : AV.elem 1 (.int k n)=some [.int k n]:=rfl
def Zj{l:List UInt8} : AV.elem 1 (.str l)=some [.str l]:=rfl
def bpK(cells:List AV)(off sz:Nat)(o:Option (List AV))(r:List (Nat × Nat × AV)):Option (List AV):=match o with
 | none=>none
 | some cs=>cond (Nat.beq cs.length sz&&Nat.ble (off+cs.length) cells.length) (fw (putAt cells off (cs.map AV.drop)) r) none
def akf{cells:List AV} : fw cells []=some cells:=rfl
def akd{cells:List AV}{off sz:Nat}{v:AV}{r:List (Nat × Nat × AV)} : fw cells ((off,sz,v) :: r)=bpK cells off sz v.cells r:=by
 simp only[fw,bpK];cases v.cells<;>rfl
def ake{cells cs:List AV}{off sz:Nat}{r:List (Nat × Nat × AV)} : bpK cells off sz (some cs) r=cond (Nat.beq cs.length sz&&Nat.ble (off+cs.length) cells.length) (fw (putAt cells off (cs.map AV.drop)) r) none:=rfl
def nbA:AV->Bool
 | .int .u8 _=>false
 | .any=>false
 | _=>true
def RN:List AV->Bool
 | []=>true
 | x :: r=>nbA x&&RN r
def nb:List (List AV)->Bool
 | []=>true
 | r :: e=>RN r&&nb e
def U2:∀ r:List AV,(r.all fun|.int .u8 _=>false|.any=>false|_=>true)=RN r
 | []=>rfl
 | x :: r=>by
  rw[List.all_cons,RN,<- U2 r]
  congr 1
def Dg:∀ e:List (List AV),nf e=nb e
 | []=>rfl
 | r :: e=>by
  have:=Dg e
  simp only[nf] at this;simp only[nf,List.all_cons,nb,this];rw[<- U2];rfl
def VA{E:List (List AV)} : mz false E=nb E:=by simp only[mz,cond_false,Dg]
def aoX{E:List (List AV)} : nf E=nb E:=Dg E
def aky:nb []=true:=rfl
def akz{r:List AV}{e:List (List AV)} : nb (r :: e)=(RN r&&nb e):=rfl
theorem Vy:RN []=true:=rfl
theorem Vz{x:AV}{r:List AV} : RN (x :: r)=(nbA x&&RN r):=rfl
theorem abR{n:Int} : nbA (.int .i64 n)=true:=rfl
theorem abT{l:List UInt8} : nbA (.str l)=true:=rfl
theorem abS{e:List (List AV)}{o:Bool} : nbA (.slice e o)=true:=rfl
def z8{E:List (List AV)}(h:∀ r∈E,RN r=true):nb E=true:=by
 induction E with
 | nil=>rfl
 | cons r E ih=>rw[nb,h r (List.mem_cons_self ..),ih fun r hr=>h r (av3 _ hr)];rfl
def GF:∀ {e f:List (List AV)},nb (e++f)=(nb e&&nb f)
 | [],f=>by simp[nb]
 | r :: e,f=>by simp only[avU,nb,GF,Bool.and_assoc]
def vS(sz:Nat)(e:List (List AV)):Prop:=(∀ r∈e,r.length=sz)/\nb e=true
def zQ(h:∀ r∈e,r.length=sz):gF sz e=true:=by
 cases e with
 | nil=>rfl
 | cons r e=>simp[gF,h r (List.mem_cons_self ..)]
theorem wM{o:Bool}(h1:vS sz e)(h2:vS sz f)(hb:(e.length+f.length)*bytes<=70368744177664)(hl:e.length+f.length<=70368744177664) :
  aF false sz bytes (.slice e true) (.slice f o)=some (.slice (e++f) true):=by
 simp only[aF,bu,auW];cases f with
 | nil=>simp
 | cons r f =>
  have hr:mz false (e++r :: f)=true:=by rw[VA,GF,h1.2,h2.2];rfl
  have hf:cE sz bytes e (r :: f)=true:=by
   simp only[cE,zQ h1.1,zQ h2.1,avA hb,avA hl,Bool.and_self]
  simp only[hr,hf,Bool.and_self,cond_true]
def N3{b:Bool}{o o':Bool} : aF b sz bytes (.slice e o) (.slice [] o')=some (.slice e o):=rfl
def M8(v:AV)(g:Nat):Option AV:=match v with
 | .lsl g' e=>cond (Nat.beq g g') (cond (nf e) (some (.slice e true)) none) none
 | _=>none
def Ri(T:aD)(t:Nat)(v:AV):Option AV:=match v with
 | .lsl _ e=>cond (nf e) (some (.slice e true)) none
 | .lsr b g=>M8 (T b) g
 | .lbox ..|.lref ..|.eref ..|.iter ..=>none
 | v=>some v
def ahI(base lo:Nat)(H:ae)(o:Option AV):Option (AV × Option fR):=o.bind fun r=>cond (r.leaves base) (some (r,cond (Nat.beq lo base) none (some ⟨H.take base,lo⟩))) none
def NC(o:Option bM)(agg:Bool)(sz:Nat):Option AV:=match o with
 | some (.box _ cs)=>ab false agg sz 0 cs
 | _=>none
def VC(v:AV)(H:ae)(agg:Bool)(sz:Nat):Option AV:=match v with
 | .lbox _ cs=>ab false agg sz 0 cs
 | .ref loc 0=>NC H[loc]? agg sz
 | _=>none
def aaI(o:Option AV)(l:Option (List AV)):Option (List AV):=o.bind fun v=>l.map (v.dk :: ·)
section
variable {T:aD}{H:ae}{lo gen base t:Nat}{rs:List gY}
def l7(base lo:Nat)(H:ae):Bool:=cond (Nat.beq lo base) true (((H.take base).drop lo).all fun o=>match o with|.bV cs=>cs.all (AV.bz base)|_=>true)
def Zx{n:Nat}{H:ae} : l7 n n H=true:=by simp[l7]
def akn:fin base rs ⟨T,H,lo,gen⟩=cond (l7 base lo H) (ahI base lo H (my ⟨T,H,lo,gen⟩ rs)) none:=rfl
def afz{v:AV} : ahI base lo H (some v)=cond (v.leaves base) (some (v,cond (Nat.beq lo base) none (some ⟨H.take base,lo⟩))) none:=rfl
def afJ:my ⟨T,H,lo,gen⟩ [.tmp t]=Ri T t (T t):=by
 simp only[my,ow,Ri];cases hT:T t with
 | lsl g e=>simp only[hT]
 | lsr b g =>
  cases hb:T b with
  | lsl g' e =>
   simp only[hb,M8];cases Nat.beq g g' with
   | false=>simp only[cond_false,iO,hT];rfl
   | true=>simp only[cond_true,hb]
  | _=>simp only[hb,M8,iO,hT];rfl
 | _=>simp only[iO,hT];rfl
def ZA{a sz:Nat}{agg:Bool} : my ⟨T,H,lo,gen⟩ [.cell a agg sz]=iO ⟨T,H,lo,gen⟩ (.cell a agg sz):=rfl
def afI:my ⟨T,H,lo,gen⟩ []=some (.tuple []):=rfl
def afK{r1 r2:gY}{rs:List gY} : my ⟨T,H,lo,gen⟩ (r1 :: r2 :: rs)=(lN ⟨T,H,lo,gen⟩ (r1 :: r2 :: rs)).map .tuple:=rfl
def afM:lN ⟨T,H,lo,gen⟩ []=some []:=rfl
def afN{r:gY}{rs:List gY} : lN ⟨T,H,lo,gen⟩ (r :: rs)=aaI (iO ⟨T,H,lo,gen⟩ r) (lN ⟨T,H,lo,gen⟩ rs):=rfl
def Zg{v:AV}{l:List AV} : aaI (some v) (some l)=some (v.dk :: l):=rfl
def afO:iO ⟨T,H,lo,gen⟩ (.tmp t)=cond (aM (T t)) (some (T t)) none:=rfl
def afL{a sz:Nat}{agg:Bool} : iO ⟨T,H,lo,gen⟩ (.cell a agg sz)=VC (T a) H agg sz:=by
 simp only[iO,VC];cases T a with
 | ref loc off =>
  cases off with
  | zero=>cases hl:H[loc]? with
   | none=>simp only[hl,NC]
   | some o=>cases o<;>simp only[hl,NC]
  | succ n=>rfl
 | _=>rfl
def ZB{g sz:Nat}{cs:List AV}{agg:Bool} : VC (.lbox g cs) H agg sz=ab false agg sz 0 cs:=rfl
def ZK{b:Bool} : Ri T t (AV.bool b)=some (AV.bool b):=rfl
def afU{k:IntKind}{n:Int} : Ri T t (AV.int k n)=some (AV.int k n):=rfl
def afV{l:List UInt8} : Ri T t (AV.str l)=some (AV.str l):=rfl
def VN{e:List (List AV)}{own:Bool} : Ri T t (AV.slice e own)=some (AV.slice e own):=rfl
end
def Wr(A:AP)(sz bytes:Nat)(x y:AV)(t:Nat)(os:List aS)(T:aD)(H:ae)(lo gen:Nat)(K:AS->Prop):Prop :=
 ca (ju ⟨T,H,lo,gen⟩ sz bytes x y) fun r=>match r.2 with
  | some s'=>WO A os (s'.cy t r.1) K
  | none=>WO A os ⟨T.put t r.1,H,lo,gen⟩ K
def UA(k:AV)(kz:Nat)(ka:Bool):Option (List AV):=k.drop.cells.bind fun kc=>cond (Nat.beq kc.length kz&&ka==k.drop.isAgg) (some kc) none
def yP(H:ae)(ok:Bool)(kz:Nat)(ka va:Bool)(ks:List CK)(zero:List AV)(m k:AV):Option AV :=
 (UA k kz ka).bind fun kc=>match m with
  | .kq=>some (AU ok va zero false)
  | .mn p8 p7 p9 es=>cond (Nat.beq kz p8&&ka==p7&&va==p9&&ue es&&Ux ks kc) ((dX ks kc es).map (pI ok va zero kz es)) none
  | .iW p8 p7 p9 es=>cond (Nat.beq kz p8&&ka==p7&&va==p9) ((dX ks kc es).map (pI ok va zero kz es)) none
  | .mref l=>match H[l]? with
   | some (.map p8 p7 p9 es)=>cond (Nat.beq kz p8&&ka==p7&&va==p9) ((dX ks kc es).map (pI ok va zero kz es)) none
   | some (.iW p8 p7 p9 es)=>cond (Nat.beq kz p8&&ka==p7&&va==p9) ((dX ks kc es).map (pI ok va zero kz es)) none
   | _=>none
  | _=>none
section
variable {A:AP}{T:aD}{H:ae}{lo gen:Nat}{K:AS->Prop}{os:List aS}{t:Nat}
def rO{x:Option (AV × Option AS)}(h:aQ A.aW (aj A) ⟨T,H,lo,gen⟩ op=x):WO A (⟨some t,none,op⟩ :: os) ⟨T,H,lo,gen⟩ K=ca x fun r=>match r.2 with
  | some s'=>WO A os (s'.cy t r.1) K
  | none=>WO A os ⟨T.put t r.1,H,lo,gen⟩ K:=by
 rw[gl];simp only[aP,h];cases x with
 | none=>simp[ca]
 | some r =>
  obtain⟨z,s'⟩:=r;cases s' with
  | none=>simp only[auW,avk,cond_false,aU];rfl
  | some s'=>simp only[auW,cond_false,aU];rfl
def afp{sz bytes:Nat}{x y:aE} : WO A (⟨some t,none,.appendO sz bytes x y⟩ :: os) ⟨T,H,lo,gen⟩ K=Wr A sz bytes (x.addr A.aW T) (y.eval A.aW T) t os T H lo gen K:=rO rfl
def acm{r:List AV}(h1:cE sz bytes [] (r :: f)=true)(h2:dZ (r :: f)=true) :
  Wr A sz bytes .aq (.slice (r :: f) own) t os T H lo gen K=WO A os ⟨T.put t (.sref H.length 0 (f.length+1) sz),H++[.box bE (r :: f).flatten],cond (Nat.blt H.length lo) H.length lo,gen⟩ K:=by
 simp only[Wr,ju,GH,jN,bu,auW,axl,av5,avv,h1,h2,cond_true,aU,List.length_cons];rfl
def N1{n l:Nat}{ty:TypeId}{cs:List AV}(hl:H[l]?=some (.box ty cs))(hc:cs.length=n*sz)(h1:(n+f.length)*bytes<=70368744177664)(h2:n+f.length<=70368744177664)
  (h3:gF sz f=true) (h4:dZ f=true) :
  Wr A sz bytes (.sref l 0 n sz) (.slice f own) t os T H lo gen K=WO A os ⟨T.put t (.sref H.length 0 (n+f.length) sz),H.set l .dead++[.box bE (cs++f.flatten)],cond (Nat.blt l lo) l lo,gen⟩ K:=by
 have e1:Nat.beq cs.length (n*sz)=true:=by rw[hc];exact awF _
 simp only[Wr,ju,GH,jN,bu,auW,hl,e1,h3,h4,awF,avI,avA h1,avA h2,cond_true,aU];rfl
def Zu{kz:Nat}{ka va:Bool} : WO A (⟨some t,none,.Kz kz ka va⟩ :: os) ⟨T,H,lo,gen⟩ K=WO A os ⟨T.put t (.mref H.length),H++[.map kz ka va []],cond (Nat.blt H.length lo) H.length lo,gen⟩ K:=by
 rw[rO rfl];simp only[aQ,aU];rfl
def afE{ok:Bool}{kz:Nat}{ka va:Bool}{ks:List CK}{zero:List AV}{m k:aE} : WO A (⟨some t,none,.look ok kz ka va ks zero m k⟩ :: os) ⟨T,H,lo,gen⟩ K=jB A (yP H ok kz ka va ks zero (m.addr A.aW T) (k.eval A.aW T)) t os T H lo gen K:=by
 refine gU ?_;simp only[aQ,wU,yP,UA];cases (k.eval A.aW T).drop.cells with
 | none=>rfl
 | some kc =>
  simp only[auW];cases (Nat.beq kc.length kz&&ka==(k.eval A.aW T).drop.isAgg) with
  | false=>rfl
  | true =>
   simp only[cond_true,auW];cases m.addr A.aW T with
   | kq=>rfl
   | mn p8 p7 p9 es =>
    simp only[];cases (Nat.beq kz p8&&ka==p7&&va==p9&&ue es&&Ux ks kc) with
    | false=>rfl
    | true=>simp only[cond_true,awP];rfl
   | iW p8 p7 p9 es =>
    simp only[yU];cases (Nat.beq kz p8&&ka==p7&&va==p9) with
    | false=>rfl
    | true=>simp only[cond_true,auW,awP];rfl
   | mref l =>
    simp only[yU];cases hl:H[l]? with
    | none=>rfl
    | some o =>
     cases o with
     | map p8 p7 p9 es =>
      simp only[];cases (Nat.beq kz p8&&ka==p7&&va==p9) with
      | false=>rfl
      | true=>simp only[cond_true,auW,awP];rfl
     | iW p8 p7 p9 es =>
      simp only[];cases (Nat.beq kz p8&&ka==p7&&va==p9) with
      | false=>rfl
      | true=>simp only[cond_true,auW,awP];rfl
     | _=>simp only[];rfl
   | _=>rfl
def afG{kz vz:Nat}{ka va:Bool}{ks:List CK}{m k v:aE} : WO A (⟨none,none,.Na kz ka va vz ks m k v⟩ :: os) ⟨T,H,lo,gen⟩ K =
  ca (sx ⟨T,H,lo,gen⟩ kz ka va vz ks (m.addr A.aW T) (k.eval A.aW T) (v.eval A.aW T)) fun s'=>WO A os (s'.bC v) K:=by
 rw[gl];simp only[aP,aQ];cases sx ⟨T,H,lo,gen⟩ kz ka va vz ks (m.addr A.aW T) (k.eval A.aW T) (v.eval A.aW T) with
 | none=>simp[ca]
 | some s'=>simp only[au2,auW,cond_false,aU];rfl
end
end
end Go.Abs
namespace Go.Abs
open Go
variable {a:Int}{m:List (List UInt8)}{i:Nat}
section
abbrev BZ(n:Int):Prop:=-9223372036854775808<=n/\n<=9223372036854775807
def wrap64{n:Int}(h:-9223372036854775808<=n/\n<=9223372036854775807):IntKind.i64.wrap n=n:=by
 exact IntWalk.i64_in _ h
def Wj{n:Int}(h:0<=n/\n<=255):IntKind.u8.wrap n=n:=IntWalk.u8_in _ h
def zC{k:IntKind}{n:Nat} : asNat (.int k n)=some n:=by simp[asNat]
def Pw{k:IntKind}{n:Nat} : asNat (.int k (no_index (@OfNat.ofNat Int n instOfNat)))=some n:=by
 show asNat (.int k ((n:Nat):Int))=some n
 exact zC
def Pv{k:IntKind}{a n:Nat} : asNat (.int k ((a:Int)+no_index (@OfNat.ofNat Int n instOfNat)))=some (a+n):=by
 show asNat (.int k ((a:Int)+((n:Nat):Int)))=some (a+n)
 rw[<- Int.natCast_add];exact zC
def bA{k:IntKind}{n:Int}(h:0<=n):asNat (.int k n)=some n.toNat:=by simp[asNat,h]
def N9{a b:Nat} : Nat.ble a b=decide (a<=b):=by
 cases h:Nat.ble a b with
 | true=>simp[avS h]
 | false=>simp[show ¬ a<=b from fun e=>by rw[avA e] at h;cases h]
def W4{a b:Nat} : Nat.blt a b=decide (a<b):=by
 show Nat.ble (a+1) b=_
 rw[N9];rfl
def dle{a b:Nat}(h:a<=b):decide (a<=b)=true:=by simp[h]
def dlt{a b:Nat}(h:a<b):decide (a<b)=true:=by simp[h]
def dQ{a b:Int}(h:a<b):decide (a<b)=true:=by simp[h]
def dP{a b:Int}(h:b<=a):decide (a<b)=false:=dw
def dO{a b:Int}(h:a<=b):decide (a<=b)=true:=by simp[h]
def dN{a b:Int}(h:b<a):decide (a<=b)=false:=dw
def dM{a b:Int}(h:a=b):(a==b)=true:=by simp[h]
def dL{a b:Int}(h:a≠b):(a==b)=false:=by simp[h]
def dS{a b:Int}(h:a≠b):(a != b)=true:=by simp[h]
def dR{a b:Int}(h:a=b):(a != b)=false:=by simp[h]
def ae2{a b:Nat}(h:a≠b):Nat.beq a b=false:=by
 cases hb:Nat.beq a b with
 | false=>rfl
 | true=>exact absurd (avR hb) h
def ints(l:List Int):List (List AV):=l.map fun n=>[.int .i64 n]
def strs(l:List (List UInt8)):List (List AV):=l.map fun n=>[.str n]
def pA{l:List Int} : (ints l).length=l.length:=by simp[ints]
def bG{l:List (List UInt8)} : (strs l).length=l.length:=by simp[strs]
def ints_at{l:List Int}{n:Int}(h:l[i]?=some n):(ints l)[i]?=some [.int .i64 n]:=by simp[ints,h]
def iz{l:List (List UInt8)}{n:List UInt8}(h:l[i]?=some n):(strs l)[i]?=some [.str n]:=by simp[strs,h]
def Ud{l:List Int} : (ints l)[i]?=l[i]?.map fun n=>[.int .i64 n]:=by simp[ints]
def qj:∀ {l:List (List UInt8)} {n:Nat},n=l.length->chunks 1 n (l.map .str)=strs l
 | [],0,_=>rfl
 | a :: l,n+1,h=>by
  simp only[au9,chunks,strs,av2,avV,awz,List.drop_zero];rw[qj (cT h)];rfl
def Rr{l:List (List UInt8)}{n:Nat}(h:l.length<=n):(strs l).take n=strs l:=avq (by rw[bG];exact h)
def Gt{l:List Int} : vS 1 (ints l):=⟨fun r hr=>by simp only[ints,List.mem_map] at hr;obtain⟨n,_,rfl⟩:=hr;rfl,z8 fun r hr=>by simp only[ints,List.mem_map] at hr;obtain⟨n,_,rfl⟩:=hr;rfl⟩
def Aj{l:List (List UInt8)} : vS 1 (strs l):=⟨fun r hr=>by simp only[strs,List.mem_map] at hr;obtain⟨n,_,rfl⟩:=hr;rfl,z8 fun r hr=>by simp only[strs,List.mem_map] at hr;obtain⟨n,_,rfl⟩:=hr;rfl⟩
def ma:strs []=[]:=rfl
def Z4{l:List (List UInt8)} : nb (strs l)=true:=Aj.2
def Kh{l m:List Int} : ints l++ints m=ints (l++m):=by simp[ints]
def Lf{l:List (List UInt8)} : strs l++strs m=strs (l++m):=by simp[strs]
def Jc{l m:List Int}{o:Bool}(h:l.length+m.length<=1099511627776):aF false 1 8 (.slice (ints l) true) (.slice (ints m) o)=some (.slice (ints (l++m)) true):=by
 rw[wM Gt Gt (by rw[pA,pA];omega) (by rw[pA,pA];omega),Kh]
def R'{n:Int}{o:Bool} : aF false 1 8 (.slice [] true) (.slice [[.int .i64 n]] o)=some (.slice (ints [n]) true):=Jc (l:=[]) (m:=[n]) ag
def cx{l:List (List UInt8)}{o:Bool}(h:l.length+m.length<=1099511627776):aF false 1 16 (.slice (strs l) true) (.slice (strs m) o)=some (.slice (strs (l++m)) true):=by
 rw[wM Aj Aj (by rw[bG,bG];omega) (by rw[bG,bG];omega),Lf]
theorem gu{l:List (List UInt8)}{n:List UInt8}{o:Bool}(h:l.length<=1099511627775):aF false 1 16 (.slice (strs l) true) (.slice [[.str n]] o)=some (.slice (strs (l++[n])) true):=cx (m:=[n]) dw
def Sb{n:List UInt8}{o:Bool} : aF false 1 16 (.slice [] true) (.slice [[.str n]] o)=some (.slice (strs [n]) true):=cx (l:=[]) (m:=[n]) ag
def adO{H l m:ae} : H++l++m=H++(l++m):=au8 ..
def adP{H l:ae} : List.length (H++l)=H.length+l.length:=List.length_append
def TU{H l:ae}{k:Nat} : (H++l)[H.length+k]?=l[k]?:=by rw[List.getElem?_append_right ah];simp
def XZ{H l:ae} : (H++l)[H.length]?=l[0]?:=TU (k:=0)
def TV{H l:ae}{k:Nat}{x:bM} : (H++l).set (H.length+k) x=H++l.set k x:=by rw[List.set_append_right _ _ ah];simp
def X0{H l:ae}{x:bM} : (H++l).set H.length x=H++l.set 0 x:=TV (k:=0)
def X1{H l:ae} : (H++l).take H.length=H:=ag
def aiF{n k:Nat} : decide (n+k<n)=false:=ag
def adQ{n:Nat} : decide (n<n)=false:=ag
def Ss(A:AP)(ty:TypeId)(v:AV)(t:Nat)(os:List aS)(T:aD)(H:ae)(lo gen:Nat)(K:AS->Prop):Prop :=
 ca (v.drop.cells.bind fun cs=>cond (cs.all (aX H.length)) (some (cs.map AV.drop)) none) fun cs=>WO A os ⟨T.put t (.ref H.length 0),H++[.box ty cs],cond (Nat.blt H.length lo) H.length lo,gen⟩ K
section
variable {A:AP}{T:aD}{H:ae}{lo gen:Nat}{K:AS->Prop}{os:List aS}{t:Nat}
def afr{ty:TypeId}{x:aE} : WO A (⟨some t,none,.box ty x⟩ :: os) ⟨T,H,lo,gen⟩ K=Ss A ty (x.eval A.aW T) t os T H lo gen K:=by
 rw[rO rfl];simp only[aQ,Ss];cases (x.eval A.aW T).drop.cells with
 | none=>simp[ca]
 | some cs =>
  simp only[auW];cases cs.all (aX H.length) with
  | false=>simp[ca]
  | true=>simp only[cond_true,aU];rfl
def acz{ty:TypeId}{cs:List AV} : Ss A ty (.agg cs) t os T H lo gen K=ca (cond (cs.all (aX H.length)) (some (cs.map AV.drop)) none) fun cs=>WO A os ⟨T.put t (.ref H.length 0),H++[.box ty cs],cond (Nat.blt H.length lo) H.length lo,gen⟩ K:=rfl
end
def adk{n:Nat}{k:IntKind}{m:Int} : aX n (.int k m)=true:=rfl
def XL{n:Nat}{b:Bool} : aX n (.bool b)=true:=rfl
def adl{n:Nat}{s:List UInt8} : aX n (.str s)=true:=rfl
def TA{n:Nat}{e:List (List AV)}{o:Bool} : aX n (.slice e o)=true:=rfl
def zb{b:Int}(h:0<=a):a.tdiv b=a / b:=awV h
def jU{b:Int}(h:0<=a):a.tmod b=a % b:=avH h
def Jk(A:AP)(v:AV)(w:Bool)(p:Bool)(os:List aS)(T:aD)(H:ae)(lo gen:Nat)(K:AS->Prop):Prop :=
 ca (match v with|.bool b=>some (b==w)|.tuple []=>some false|_=>none) fun b=>(b=true->p=true)/\WO A os ⟨T,H,lo,gen⟩ K
def Oa(A:AP)(v:AV)(t:Nat)(os:List aS)(T:aD)(H:ae)(lo gen:Nat)(K:AS->Prop):Prop :=
 ca v.drop.cells fun cs=>WO A os ⟨T.put t (.lbox gen (cs.map AV.drop)),H,lo,gen+1⟩ K
def Hq(A:AP)(r:Option (AV × Option fR))(t:Nat)(os:List aS)(T:aD)(H:ae)(lo gen:Nat)(K:AS->Prop):Prop :=
 ca (r.bind fun r=>match r.2 with
  | none=>some r.1
  | some _=>none) fun v=>WO A os ⟨T.put t v,H,lo,gen⟩ K
section
variable {A:AP}{T:aD}{H:ae}{lo gen:Nat}{K:AS->Prop}{os:List aS}{t:Nat}
def aki{c:RA}{x:aE} : WO A (⟨none,none,.chk c x⟩ :: os) ⟨T,H,lo,gen⟩ K=(gv c (x.addr A.aW T)=true/\WO A os ⟨T,H,lo,gen⟩ K):=by
 rw[gl];simp only[aP,aQ];refine propext ?_;cases gv c (x.addr A.aW T) with
 | false=>simp[ca]
 | true=>simp[ca,fz,AS.bW]
def afw{g:Nat}{w:Bool}{c:RA}{x:aE} : WO A (⟨none,some (g,w),.chk c x⟩ :: os) ⟨T,H,lo,gen⟩ K=Jk A (T g) w (gv c (x.addr A.aW T)) os T H lo gen K:=by
 rw[gl];simp only[Jk];unfold aP;simp only[aQ];cases hT:T g with
 | bool b =>
  cases hb:(b==w) with
  | true =>
   refine propext ?_;cases gv c (x.addr A.aW T) with
   | false=>simp[hb,ca]
   | true=>simp[hb,ca,fz,AS.bW]
  | false=>simp[hb,ca,AS.bW]
 | tuple l =>
  cases l with
  | nil=>simp[ca,AS.bW]
  | cons a l=>simp[ca]
 | _=>simp[ca]
def akj{p:Bool} : Jk A (.bool true) false p os T H lo gen K=WO A os ⟨T,H,lo,gen⟩ K:=by simp[Jk,aU]
def akh{p:Bool} : Jk A (.bool false) true p os T H lo gen K=WO A os ⟨T,H,lo,gen⟩ K:=by simp[Jk,aU]
def afv{b w:Bool} : Jk A (.bool b) w true os T H lo gen K=WO A os ⟨T,H,lo,gen⟩ K:=by simp[Jk,aU]
def afs{x:aE} : WO A (⟨some t,none,.boxL x⟩ :: os) ⟨T,H,lo,gen⟩ K=Oa A (x.eval A.aW T) t os T H lo gen K:=by
 rw[rO rfl];simp only[aQ,Oa];cases (x.eval A.aW T).drop.cells with
 | none=>simp[ca]
 | some cs=>simp only[au2,aU];rfl
def acy{cs:List AV} : Oa A (.agg cs) t os T H lo gen K=WO A os ⟨T.put t (.lbox gen (cs.map AV.drop)),H,lo,gen+1⟩ K:=by
 simp only[Oa,AV.drop,AV.cells];exact aU
def Ze{f:FuncId}{args:List aE} : WO A (⟨some t,none,.Ch (.fn f) args⟩ :: os) ⟨T,H,lo,gen⟩ K=(cb A.aW T args=true/\Hq A (aj A f (cY A.aW T args) H) t os T H lo gen K):=by
 rw[gl];simp only[aP,aQ,aE.eval,u7,xU,Hq,avM,List.append_nil];refine propext ?_;cases cb A.aW T args with
 | false=>simp[ca]
 | true =>
  simp only[cond_true,awL];cases aj A f (cY A.aW T args) H with
  | none=>simp[ca]
  | some r =>
   obtain⟨v,c⟩:=r;cases c with
   | none=>simp only[auW];simp[ca,AS.bW,AS.cy]
   | some c=>simp[ca]
def afP{v:AV} : Hq A (some (v,none)) t os T H lo gen K=WO A os ⟨T.put t v,H,lo,gen⟩ K:=by
 simp[Hq,aU]
def Zv{sz:Nat}{z:List (List AV)}{ps:List (Nat × aE)} : WO A (⟨some t,none,.yV sz z ps⟩ :: os) ⟨T,H,lo,gen⟩ K =
  ca ((cQ sz z (cm A.aW T ps)).bind fun E=>cond (dZ E) (some E) none) fun E=>WO A os ⟨T.put t (.sref H.length 0 E.length sz),H++[.box bE E.flatten],cond (Nat.blt H.length lo) H.length lo,gen⟩ K:=by
 rw[rO rfl];simp only[aQ,zK];cases cQ sz z (cm A.aW T ps) with
 | none=>simp[ca]
 | some E =>
  simp only[auW];cases dZ E with
  | false=>simp[ca]
  | true=>simp only[cond_true,aU];rfl
end
section
variable {b g o l n z:Nat}{e:List (List AV)}{own:Bool}{cs:List AV}{s:List UInt8}
def aht{b' : Nat} : gv (.frame b) (.lref b' g o)=Nat.beq b b':=rfl
def ahw:gv .heap (.ref l o)=true:=rfl
def ahv:gv .heap (.eptr cs)=true:=rfl
def ahx:gv .heap (.slice e own)=true:=rfl
def ahu:gv .heap (.sref l o n z)=true:=rfl
def ahy:gv .heap (.str s)=true:=rfl
end
section
variable {A:AP}{T:aD}{H:ae}{lo gen:Nat}{K:AS->Prop}{os:List aS}{t:Nat}
end
def N2(A:AP)(sz bytes i:Nat)(v y:AV)(t:Nat)(os:List aS)(T:aD)(H:ae)(lo gen:Nat)(K:AS->Prop):Prop:=match v with
 | .aq=>ca ((bu sz y).bind fun f=>cond (cE sz bytes [] f) (some f) none) fun f=>WO A os ⟨(T.put i .any).put t (.lsl gen f),H,lo,gen+1⟩ K
 | .slice e own=>ca ((bu sz y).bind fun f=>cond (e.isEmpty&&own&&cE sz bytes [] f) (some f) none) fun f=>WO A os ⟨(T.put i .any).put t (.lsl gen f),H,lo,gen+1⟩ K
 | .lsl _ e=>ca ((bu sz y).bind fun f=>cond (cE sz bytes e f) (some (e++f)) none) fun f=>WO A os ⟨(T.put i .any).put t (.lsl gen f),H,lo,gen+1⟩ K
 | _=>False
section
variable {A:AP}{T:aD}{H:ae}{lo gen:Nat}{K:AS->Prop}{os:List aS}{t:Nat}
def afn{b:Bool}{sz bytes i:Nat}{y:aE} : WO A (⟨some t,none,.append b true sz bytes (.tmp i) y⟩ :: os) ⟨T,H,lo,gen⟩ K=N2 A sz bytes i (T i) (y.eval A.aW T) t os T H lo gen K:=by
 rw[gl];simp only[aP,aQ,br,N2];cases hT:T i with
 | aq =>
  simp only[cond_true];cases bu sz (y.eval A.aW T) with
  | none=>simp[ca]
  | some f=>simp only[auW];cases cE sz bytes [] f<;>simp[ca,AS.bW,AS.cy]
 | lsl g e =>
  simp only[avv];cases bu sz (y.eval A.aW T) with
  | none=>simp[ca]
  | some f=>simp only[auW];cases cE sz bytes e f<;>simp[ca,AS.bW,AS.cy]
 | slice e own =>
  simp only[cond_true];cases bu sz (y.eval A.aW T) with
  | none=>simp[ca]
  | some f=>simp only[auW];cases (e.isEmpty&&own&&cE sz bytes [] f)<;>simp[ca,AS.bW,AS.cy]
 | _=>simp[ca]
def aco{sz bytes i:Nat}{e:List (List AV)}{own:Bool} : N2 A sz bytes i .aq (.slice e own) t os T H lo gen K=ca (cond (cE sz bytes [] e) (some e) none) fun f=>WO A os ⟨(T.put i .any).put t (.lsl gen f),H,lo,gen+1⟩ K:=rfl
def acn{sz bytes i g:Nat}{e f:List (List AV)}{own:Bool} : N2 A sz bytes i (.lsl g e) (.slice f own) t os T H lo gen K=ca (cond (cE sz bytes e f) (some (e++f)) none) fun f=>WO A os ⟨(T.put i .any).put t (.lsl gen f),H,lo,gen+1⟩ K:=rfl
end
section
variable {A:AP}{T:aD}{H:ae}{lo gen:Nat}{K:AS->Prop}{os:List aS}{t:Nat}
def UU{take obj:Bool}{i:Nat} : oo A take obj i AV.aq t os T H lo gen K=WO A os ⟨T.put t AV.aq,H,lo,gen⟩ K:=aU
def I9{s:Nat} : mB s AV.aq=.aq:=rfl
def M5{T:aD} : M4 T .sl .aq=some (.int .i64 0):=rfl
def Ff{base:Nat} : AV.bz base .aq=AV.plain .aq:=rfl
end
def aH.pre:Nat->aH->aH
 | 0,.seq a _=>a
 | n+1,.seq a b=>.seq a (aH.pre n b)
 | _,c=>c
def aH.post:Nat->aH->aH
 | 0,.seq _ b=>b
 | n+1,.seq _ b=>aH.post n b
 | _,_=>.skip
def im{A:AP}(n:Nat){c:aH}{s:AS}{Q:bJ->AS->Prop}(R:AS->Prop)(h1:W A (c.pre n) s (andThen R Q))(h2:∀ s',R s'->W A (c.post n) s' Q):W A c s Q:=by
 induction n generalizing c s with
 | zero =>
  cases c with
  | seq a b=>exact xP R h1 h2
  | _ =>
   refine uc h1 (fun e s' h=>?_)
   cases e with
   | normal =>
    have:=h2 s' h
    obtain⟨n,e,s'',h3,h4⟩:=this;simp only[aH.post,kK,auR,auV] at h3;obtain⟨rfl,rfl⟩:=h3;exact h4
   | _=>exact h
 | succ n ih =>
  cases c with
  | seq a b =>
   simp only[aH.pre,FJ] at h1 ⊢;refine uc h1 (fun e s' h=>?_)
   cases e with
   | normal=>exact ih h h2
   | _=>exact h
  | _ =>
   refine uc h1 (fun e s' h=>?_)
   cases e with
   | normal =>
    have:=h2 s' h
    obtain⟨n,e,s'',h3,h4⟩:=this;simp only[aH.post,kK,auR,auV] at h3;obtain⟨rfl,rfl⟩:=h3;exact h4
   | _=>exact h
section
variable {o:Option (List (List AV))}{base:Nat}{A:AP}{T:aD}{H:ae}{lo gen:Nat}{K:AS->Prop}{os:List aS}{t:Nat}
def Tz:aX base AV.aq=true:=rfl
end
end
end Go.Abs
namespace Go.Abs
variable {z:AV}{agg own:Bool}{el:List (List AV)}{cs r xs:List AV}{b g gen k loc n' off sz:Nat}{S:Nat->Nat->Prop}{tm:Nat->Value}{o:Oper}{i:Operand}{dt e st:TypeId}{w':World}{T:aD}{ix yi:aE}{H:ae}
def SC{α:Type}{b:Bool}{x:Option α}{r:α} : (cond b x none=some r)=(b=true/\x=some r):=by cases b<;>simp
def Nl:=And.intro (@Option.bind_eq_some_iff.{0,0}) (And.intro (@Option.map_eq_some_iff.{0,0}) (And.intro (@SC) (And.intro (@Option.some.injEq.{0}) (@Prod.mk.injEq.{0,0}))))
inductive bL where
 | none|outer|ret
 | hb (loc:Nat)
 | hs (loc j:Nat)
 | bx (i:Nat)
 | sl (i:Nat)
 | sc (i j:Nat)
 | par (j:Nat)
 deriving DecidableEq,Inhabited
variable {q:Nat->bL}{p:bL}{touch:bL->Prop}
structure Gh where
 S:Nat->Nat->Prop
 κ:Nat->bL
 ρ:Nat->Nat
variable {bt:Gh}
def tS(agg:Bool)(n:Nat)(f:Nat->Value):Value:=cond agg (.agg ((List.range n).map f).toArray) (f 0)
structure I7 (E:Array MapEntry) (ck kz:Nat) (ka va:Bool) (es:List (List AV)) (f:Nat->Nat->Value):Prop where
 size:E.size=es.length
 clk:ck=E.size
 at' : ∀ (i:Nat) (e:MapEntry),E[i]?=some e->e.born=i
 born:∀ (i:Nat) (e:MapEntry),E[i]?=some e->e.born<ck
 apart:∀ (i j:Nat) (e e' : MapEntry),E[i]?=some e->E[j]?=some e'->e.born=e'.born->i=j
 row:∀ (i:Nat) (e:MapEntry) (r:List AV),E[i]?=some e->es[i]?=some r->kz<=r.length/\(ka=false->kz=1)/\(va=false->r.length=kz+1)/\e.key=tS ka kz (f i)/\e.val=tS va (r.length-kz) (fun j=>f i (kz+j))
structure zt (E:Array MapEntry) (ck kz:Nat) (ka va:Bool) (es:List (List AV)) (f:Nat->Nat->Value):Prop where
 size:E.size=es.length
 born:∀ (i:Nat) (e:MapEntry),E[i]?=some e->e.born<ck
 apart:∀ (i j:Nat) (e e' : MapEntry),E[i]?=some e->E[j]?=some e'->e.born=e'.born->i=j
 row:∀ (i:Nat) (e:MapEntry) (r:List AV),E[i]?=some e->es[i]?=some r->kz<=r.length/\(ka=false->kz=1)/\(va=false->r.length=kz+1)/\e.key=tS ka kz (f i)/\e.val=tS va (r.length-kz) (fun j=>f i (kz+j))
def I7.iter{E:Array MapEntry}{ck kz:Nat}{ka va:Bool}{es:List (List AV)}{f:Nat->Nat->Value}(h:I7 E ck kz ka va es f):zt E ck kz ka va es f:=⟨h.size,h.born,h.apart,h.row⟩
inductive PR (S:Nat->Nat->Prop) (w:World):Value->AV->Prop where
 | bool (b:Bool):PR S w (.bool b) (.bool b)
 | int (k:IntKind) (n:Int):PR S w (.int k n) (.int k n)
 | str (s:ByteArray) (l:List UInt8) (h:s.data.toList=l):PR S w (.string s) (.str l)
 | any (v:Value) (h:v.oneCell'=true):PR S w v .any
 | kX:PR S w (.pointer none) .kX
 | kq:PR S w (.map none) .kq
 | kH:PR S w .nilFunc .kH
 | de:PR S w .nilIface .de
 | func (f:Fn):PR S w (.func f #[] #[]) (.func f [] [])
 | iface (t:TypeId) (v:Value) (x:AV) (h:PR S w v x):PR S w (.iface t v) (.iface t x)
 | dq:PR S w (.slice none 0 0) (.slice [] false)
 | aq:PR S w (.slice none 0 0) .aq
 | slice (b o n cap sz:Nat) (e:List (List AV)) (f:Nat->Nat->Value) (hn:e.length=n) (kT:n<=cap)
   (bU:∀ (i:Nat) (r:List AV),e[i]?=some r->r.length=sz)
   (dm:∀ (i j:Nat) (r:List AV) (x:AV),e[i]?=some r->r[j]?=some x->S b (o+i*sz+j)/\w.cell? ⟨b,o+i*sz+j,none⟩=some (f i j)/\(f i j).oneCell'=true)
   (dv:∀ (i j:Nat) (r:List AV) (x:AV),e[i]?=some r->r[j]?=some x->PR S w (f i j) x) :
   PR S w (.slice (some ⟨b,o,none⟩) n cap) (.slice e false)
 | eptr (b o:Nat) (cs:List AV) (f:Nat->Value)
   (dm:∀ (j:Nat) (x:AV),cs[j]?=some x->S b (o+j)/\w.cell? ⟨b,o+j,none⟩=some (f j)/\(f j).oneCell'=true)
   (dv:∀ (j:Nat) (x:AV),cs[j]?=some x->PR S w (f j) x) :
   PR S w (.pointer (some ⟨b,o,none⟩)) (.eptr cs)
 | iW (b kz:Nat) (ka va:Bool) (es:List (List AV)) (E:Array MapEntry) (ck:Nat) (f:Nat->Nat->Value) (hS:S b 0) (hb:w.heap[b]?=some (.map E ck)) (hE:I7 E ck kz ka va es f)
   (dv:∀ (i j:Nat) (r:List AV) (x:AV),es[i]?=some r->r[j]?=some x->PR S w (f i j) x):PR S w (.map (some b)) (.iW kz ka va es)
 | mn (b kz:Nat) (ka va:Bool) (es uq:List (List AV)) (E:Array MapEntry) (ck:Nat) (f:Nat->Nat->Value) (hS:S b 0) (hb:w.heap[b]?=some (.map E ck)) (hE:zt E ck kz ka va uq f) (hp:uq.Perm es)
   (dv:∀ (i j:Nat) (r:List AV) (x:AV),uq[i]?=some r->r[j]?=some x->PR S w (f i j) x):PR S w (.map (some b)) (.mn kz ka va es)
def PR.gm{w:World}{v:Value}{x:AV}(h:PR S w v x):v.oneCell'=true:=by
 cases h<;>first|rfl|assumption
def PR.mono{S':Nat->Nat->Prop}{w:World}(hS:∀ b o,S b o->S' b o)(hc:∀ b o,S b o->w'.cell? ⟨b,o,none⟩=w.cell? ⟨b,o,none⟩)
  (hm:∀ b E ck,S b 0->w.heap[b]?=some (.map E ck)->w'.heap[b]?=some (.map E ck))
  {v:Value} {x:AV} (h:PR S w v x):PR S' w' v x:=by
 induction h with
 | bool b=>exact .bool b
 | int k n=>exact .int k n
 | str s l h=>exact .str s l h
 | any v h=>exact .any v h
 | kX=>exact .kX
 | kq=>exact .kq
 | kH=>exact .kH
 | de=>exact .de
 | func f=>exact .func f
 | iface t v x _ ih=>exact .iface t v x ih
 | dq=>exact .dq
 | aq=>exact .aq
 | slice b o n cap sz e f hn kT bU dm _ ih =>
  exact .slice b o n cap sz e f hn kT bU (fun i j r x h1 h2=>by
   obtain⟨a,c,d⟩:=dm i j r x h1 h2;exact⟨hS _ _ a,(hc _ _ a).trans c,d⟩) ih
 | eptr b o cs f dm _ ih =>
  exact .eptr b o cs f (fun j x h=>by
   obtain⟨a,c,d⟩:=dm j x h;exact⟨hS _ _ a,(hc _ _ a).trans c,d⟩) ih
 | iW b kz ka va es E ck f h1 h2 h3 _ ih=>exact .iW b kz ka va es E ck f (hS _ _ h1) (hm _ _ _ h1 h2) h3 ih
 | mn b kz ka va es uq E ck f h1 h2 h3 h4 _ ih=>exact .mn b kz ka va es uq E ck f (hS _ _ h1) (hm _ _ _ h1 h2) h3 h4 ih
def rS(w:World)(b:Nat)(ty:TypeId)(n:Nat):Prop:=∃ C fr,w.heap[b]?=some (.cells C ty fr)/\C.size=n
inductive VR (gh:Gh) (n:Nat) (w:World):Value->AV->Prop where
 | plain (v:Value) (x:AV) (h:PR gh.S w v x):VR gh n w v x
 | full (a:Option Addr) (k:Nat) (e:List (List AV)) (h:PR gh.S w (.slice a k k) (.slice e false)) (hz:True):VR gh n w (.slice a k k) (.slice e true)
 | ref (loc off:Nat) (h:loc<n):VR gh n w (.pointer (some ⟨gh.ρ loc,off,none⟩)) (.ref loc off)
 | sref (loc off k cap z:Nat) (h:loc<n) (hk:k<=cap) (hz:z≠0->∃ ty,rS w (gh.ρ loc) ty (off+cap*z)):VR gh n w (.slice (some ⟨gh.ρ loc,off,none⟩) k cap) (.sref loc off k z)
 | mref (loc:Nat) (h:loc<n):VR gh n w (.map (some (gh.ρ loc))) (.mref loc)
 | func (f:Fn) (fs cs:Array Value) (xs ys:List AV) (hf:fs.size=xs.length) (hc:cs.size=ys.length)
   (h1:∀ (j:Nat) (v:Value) (x:AV),fs[j]?=some v->xs[j]?=some x->VR gh n w v x)
   (h2:∀ (j:Nat) (v:Value) (x:AV),cs[j]?=some v->ys[j]?=some x->VR gh n w v x):VR gh n w (.func f fs cs) (.func f xs ys)
 | iface (t:TypeId) (v:Value) (x:AV) (h:VR gh n w v x):VR gh n w (.iface t v) (.iface t x)
 | agg (cs:Array Value) (xs:List AV) (hs:cs.size=xs.length)
   (iw:∀ (j:Nat) (v:Value),cs[j]?=some v->v.oneCell'=true)
   (h:∀ (j:Nat) (v:Value) (x:AV),cs[j]?=some v->xs[j]?=some x->VR gh n w v x):VR gh n w (.agg cs) (.agg xs)
 | tuple (vs:Array Value) (xs:List AV) (hs:vs.size=xs.length)
   (h:∀ (j:Nat) (v:Value) (x:AV),vs[j]?=some v->xs[j]?=some x->VR gh n w v x):VR gh n w (.tuple vs) (.tuple xs)
def Kept(S:Nat->Prop)(x y:Option Obj):Prop :=
 y=x\/∃ C ty lo hi lo' j8,x=some (.cells C ty (lo,hi))/\y=some (.cells C ty (lo',j8))/\(∃ o n,S o/\C[o]?=some (Value.int .u8 n))/\∀ m,hi<=m->(∀ o,m<=o->¬ S o)->j8<=m
def Kept.none{S:Nat->Prop}{x y:Option Obj}(h:Kept S x y)(hS:∀ o,¬ S o):y=x:=by
 rcases h with h|⟨_,_,_,_,_,_,_,_,⟨o,_,ho,_⟩,_⟩
 ·exact h
 ·exact absurd ho (hS o)
def Kept.trans{S T:Nat->Prop}{x y z:Option Obj}(h:Kept S x y)(h' : Kept T y z)(hT:∀ o,T o->S o):Kept S x z:=by
 rcases h with rfl|⟨C,ty,lo,hi,lo',j8,h1,h2,h3,h4⟩
 ·rcases h' with rfl|⟨C,ty,lo,hi,lo',j8,h1,h2,⟨o,n,ho,hn⟩,h4⟩
  ·exact .inl rfl
  ·exact .inr ⟨C,ty,lo,hi,lo',j8,h1,h2,⟨o,n,hT o ho,hn⟩,fun m hm hS=>h4 m hm (fun o ho ht=>hS o ho (hT o ht))⟩
 ·rcases h' with rfl|⟨C2,ty2,lo2,Bg,lo3,hi3,k1,k2,_,k4⟩
  ·exact .inr ⟨C,ty,lo,hi,lo',j8,h1,h2,h3,h4⟩
  ·rw[h2] at k1
   injection k1 with k1
   injection k1 with e1 e2 e3
   injection e3 with e3 e4
   subst e1 e2 e3 e4;exact .inr ⟨C,ty,lo,hi,lo3,hi3,h1,k2,h3,fun m hm hS=>k4 m (h4 m hm hS) (fun o ho ht=>hS o ho (hT o ht))⟩
structure Step (touch:bL->Prop) (n:Nat) (gh:Gh) (w:World) (bt:Gh) (w' : World):Prop where
 S:∀ b o,gh.S b o->bt.S b o
 cell:∀ b o,gh.S b o->w'.cell? ⟨b,o,none⟩=w.cell? ⟨b,o,none⟩
 size:w.heap.size<=w'.heap.size
 os:w'.os=w.os
 tape:w'.tape=w.tape
 output:w'.output=w.output
 od:∀ b,b<w.heap.size->¬ touch (gh.κ b)->Kept (gh.S b) (w.heap[b]?) (w'.heap[b]?)/\bt.κ b=gh.κ b/\∀ o,bt.S b o->gh.S b o
 fresh:∀ b,w.heap.size<=b->bt.κ b≠.outer
 ρ:∀ loc,loc<n->bt.ρ loc=gh.ρ loc
 len:∀ b ty m,rS w b ty m->rS w' b ty m
 mp:∀ b E ck,gh.S b 0->w.heap[b]?=some (.map E ck)->w'.heap[b]?=some (.map E ck)
def Step.refl(touch:bL->Prop)(n:Nat)(gh:Gh)(w:World)(hf:∀ b,w.heap.size<=b->gh.κ b≠.outer):Step touch n gh w gh w :=
 ⟨fun _ _ h=>h,fun _ _ _=>rfl,Nat.le_refl _,rfl,rfl,rfl,fun _ _ _=>⟨.inl rfl,rfl,fun _ h=>h⟩,hf,fun _ _=>rfl,fun _ _ _ h=>h,fun _ _ _ _ h=>h⟩
def Step.mono{Wc:bL->Prop}{n:Nat}{gh:Gh}{w:World}(h:Step touch n gh w bt w')(ht:∀ p,touch p->Wc p):Step Wc n gh w bt w' :=
 { h with od:=fun b hb hn=>h.od b hb (fun x=>hn (ht _ x)) }
def VR.mono{n:Nat}{gh:Gh}{w:World}(st:Step touch n gh w bt w')(hn:n<=n')
  {v:Value} {x:AV} (h:VR gh n w v x):VR bt n' w' v x:=by
 induction h with
 | plain v x h=>exact .plain v x (h.mono st.S st.cell st.mp)
 | full a k e h hz=>exact .full a k e (h.mono st.S st.cell st.mp) trivial
 | ref loc off h=>rw[<- st.ρ loc h];exact .ref loc off (awb h hn)
 | sref loc off k cap z h hk hz=>rw[<- st.ρ loc h];exact .sref loc off k cap z (awb h hn) hk (fun h0=>(hz h0).imp fun ty hb=>by rw[st.ρ loc h];exact st.len _ _ _ hb)
 | mref loc h=>rw[<- st.ρ loc h];exact .mref loc (awb h hn)
 | func f fs cs xs ys hf hc _ _ ih1 ih2=>exact .func f fs cs xs ys hf hc ih1 ih2
 | iface t v x _ ih=>exact .iface t v x ih
 | agg cs xs hs iw _ ih=>exact .agg cs xs hs iw ih
 | tuple vs xs hs _ ih=>exact .tuple vs xs hs ih
def NX(gh:Gh)(w:World)(p:bL)(v:Value)(e:List (List AV)):Prop :=
 ∃ b cap C ty lo hi sz,v=.slice (some ⟨b,0,none⟩) e.length cap/\gh.κ b=p/\e≠[]/\w.heap[b]?=some (.cells C ty (lo,hi))/\C.size=cap*sz /\
  (∀ (i:Nat) (r:List AV),e[i]?=some r->r.length=sz)/\e.length<=cap/\hi<=e.length*sz/\(∀ o,e.length*sz<=o->¬ gh.S b o)
def NX.mono{n:Nat}{gh:Gh}{w:World}(st:Step touch n gh w bt w')(hp:¬ touch p)
  {v:Value} {e:List (List AV)} (h:NX gh w p v e):NX bt w' p v e:=by
 obtain⟨b,cap,C,ty,lo,hi,sz,hv,hk,he,hb,hC,hr,hl,hh,hS⟩:=h;have aZ:b<w.heap.size:=(auZ.1 hb).1;obtain⟨h1,h2,h3⟩:=st.od b aZ (by rw[hk];exact hp)
 rcases h1 with h1|⟨C',oe,lo1,RI,lo',j8,k1,k2,_,k4⟩
 ·exact⟨b,cap,C,ty,lo,hi,sz,hv,by rw[h2,hk],he,by rw[h1,hb],hC,hr,hl,hh,fun o ho hs=>hS o ho (h3 o hs)⟩
 ·rw[hb] at k1
  injection k1 with k1
  injection k1 with e1 e2 e3
  injection e3 with e3 e4
  subst e1 e2 e3 e4;exact⟨b,cap,C,ty,lo',j8,sz,hv,by rw[h2,hk],he,k2,hC,hr,hl,k4 _ hh hS,fun o ho hs=>hS o ho (h3 o hs)⟩
def CR(gh:Gh)(n:Nat)(w:World)(p:bL)(v:Value)(x:AV):Prop :=
 VR gh n w v x\/∃ e,x=.slice e true/\PR gh.S w v (.slice e false)/\NX gh w p v e
def CR.mono{n:Nat}{gh:Gh}{w:World}(st:Step touch n gh w bt w')(hn:n<=n')(hp:¬ touch p)
  {v:Value} {x:AV} (h:CR gh n w p v x):CR bt n' w' p v x:=by
 rcases h with h|⟨e,rfl,h1,h2⟩
 ·exact .inl (h.mono st hn)
 ·exact .inr ⟨e,rfl,h1.mono st.S st.cell st.mp,h2.mono st hp⟩
theorem CR.dropped{gh:Gh}{n:Nat}{w:World}{v:Value}{x:AV}(h:CR gh n w p v x):VR gh n w v x.drop:=by
 rcases h with h|⟨e,rfl,h1,_⟩
 ·cases h with
  | plain v x h =>
   cases x<;>try exact .plain _ _ h
   cases h<;>first|exact .plain _ _ .dq|exact .plain _ _ (.slice _ _ _ _ _ _ _ ‹_› ‹_› ‹_› ‹_› ‹_›)
  | full a k e h=>exact .plain _ _ h
  | ref loc off h=>exact .ref loc off h
  | sref loc off k cap z h hk hz=>exact .sref loc off k cap z h hk hz
  | mref loc h=>exact .mref loc h
  | func f fs cs xs ys hf hc h1 h2=>exact .func f fs cs xs ys hf hc h1 h2
  | iface t v x h=>exact .iface t v x h
  | agg cs xs hs iw h=>exact .agg cs xs hs iw h
  | tuple vs xs hs h=>exact .tuple vs xs hs h
 ·exact .plain _ _ h1
theorem VR.dropped{gh:Gh}{n:Nat}{w:World}{v:Value}{x:AV}(h:VR gh n w v x):VR gh n w v x.drop:=CR.dropped (p:=.none) (.inl h)
def iL(gh:Gh)(n:Nat)(w:World)(b:Nat)(p:bL)(q:Nat->bL)(cs:List AV):Prop :=
 gh.κ b=p/\(∀ o,¬ gh.S b o)/\∃ C ty,w.heap[b]?=some (.cells C ty (0,0))/\cs.length<=C.size /\
  ∀ (j:Nat) (v:Value) (x:AV),C[j]?=some v->cs[j]?=some x->v.oneCell'=true/\CR gh n w (q j) v x
def iL.mono{n:Nat}{gh:Gh}{w:World}(st:Step touch n gh w bt w')(hn:n<=n')
  (hp:¬ touch p) (hq:∀ j,¬ touch (q j)) {cs:List AV} (h:iL gh n w b p q cs):iL bt n' w' b p q cs:=by
 obtain⟨hk,hS,C,ty,hb,hC,iG⟩:=h;have aZ:b<w.heap.size:=(auZ.1 hb).1;obtain⟨h1,h2,h3⟩:=st.od b aZ (by rw[hk];exact hp)
 have h1:=h1.none hS;exact⟨by rw[h2,hk],fun o ho=>hS o (h3 o ho),C,ty,by rw[h1,hb],hC,fun j v x hv hx=>⟨(iG j v x hv hx).1,(iG j v x hv hx).2.mono st hn (hq j)⟩⟩
def tX(gh:Gh)(w:World)(p:bL)(v:Value)(e:List (List AV)):Prop :=
 ∃ a cap,v=.slice a e.length cap/\((e=[]/\cap=0/\∀ ad,a=some ad->ad.spot=none/\True)\/∃ b C ty sz,e≠[]/\a=some ⟨b,0,none⟩/\gh.κ b=p/\(∀ o,¬ gh.S b o)/\w.heap[b]?=some (.cells C ty (0,0))/\C.size=cap*sz /\
  e.length<=cap/\(∀ (i:Nat) (r:List AV),e[i]?=some r->r.length=sz) /\
  ∀ (i j:Nat) (r:List AV) (x:AV),e[i]?=some r->r[j]?=some x->∃ u,C[i*sz+j]?=some u/\PR gh.S w u x)
theorem tX.mono{n:Nat}{gh:Gh}{w:World}(st:Step touch n gh w bt w')(hp:¬ touch p)
  {v:Value} {e:List (List AV)} (h:tX gh w p v e):tX bt w' p v e:=by
 obtain⟨a,cap,hv,h⟩:=h;refine⟨a,cap,hv,?_⟩
 rcases h with h|⟨b,C,ty,sz,dp,ha,hk,hS,hb,hC,hl,hr,iG⟩
 ·grind
 ·have aZ:b<w.heap.size:=(auZ.1 hb).1
  obtain⟨h1,h2,h3⟩:=st.od b aZ (by rw[hk];exact hp)
  have h1:=h1.none hS;exact .inr ⟨b,C,ty,sz,dp,ha,by rw[h2,hk],fun o ho=>hS o (h3 o ho),by rw[h1,hb],hC,hl,hr,fun i j r x hi hj=>by
   obtain⟨u,hu,hp⟩:=iG i j r x hi hj;exact⟨u,hu,hp.mono st.S st.cell st.mp⟩⟩
def FI(gh:Gh)(n:Nat)(w:World)(b:Nat)(p:bL)(q:Nat->bL)(kz:Nat)(ka va:Bool)(es:List (List AV)):Prop :=
 gh.κ b=p/\(∀ o,¬ gh.S b o)/\∃ E ck f,w.heap[b]?=some (.map E ck)/\I7 E ck kz ka va es f /\
  (∀ (i j:Nat) (r:List AV) (x:AV),es[i]?=some r->r[j]?=some x->j<kz->PR gh.S w (f i j) x) /\
  ∀ (i j:Nat) (r:List AV) (x:AV),es[i]?=some r->r[j]?=some x->kz<=j->(f i j).oneCell'=true/\(va=true->VR gh n w (f i j) x)/\CR gh n w (q i) (f i j) x
def FI.mono{n:Nat}{gh:Gh}{w:World}(st:Step touch n gh w bt w')(hn:n<=n')(hp:¬ touch p)(hq:∀ i,¬ touch (q i))
  {kz:Nat} {ka va:Bool} {es:List (List AV)} (h:FI gh n w b p q kz ka va es):FI bt n' w' b p q kz ka va es:=by
 obtain⟨hk,hS,E,ck,f,hb,hE,h1,h2⟩:=h;have aZ:b<w.heap.size:=(auZ.1 hb).1;obtain⟨k1,k2,k3⟩:=st.od b aZ (by rw[hk];exact hp)
 have k1:=k1.none hS;exact⟨by rw[k2,hk],fun o ho=>hS o (k3 o ho),E,ck,f,by rw[k1,hb],hE,fun i j r x hi hj hl=>(h1 i j r x hi hj hl).mono st.S st.cell st.mp,
  fun i j r x hi hj hl=>⟨(h2 i j r x hi hj hl).1,fun hv=>((h2 i j r x hi hj hl).2.1 hv).mono st hn,(h2 i j r x hi hj hl).2.2.mono st hn (hq i)⟩⟩
def wH(gh:Gh)(n:Nat)(w:World)(b loc:Nat):bM->Prop
 | .map kz ka va es=>FI gh n w b (.hb loc) (fun i=>.hs loc i) kz ka va es/\(es.all fun r=>r.all (aX loc))=true
 | .iW kz ka va es=>PR gh.S w (.map (some b)) (.iW kz ka va es)
 | .Tc cs=>PR gh.S w (.pointer (some ⟨b,0,none⟩)) (.eptr cs)
 | .bV cs=>iL gh n w b (.hb loc) (fun j=>.hs loc j) cs
 | _=>True
def wH.mono{n:Nat}{gh:Gh}{w:World}(st:Step touch n gh w bt w')(hn:n<=n')(hp:¬ touch (.hb loc))(hq:∀ i,¬ touch (.hs loc i))
  {o:bM} (h:wH gh n w b loc o):wH bt n' w' b loc o:=by
 cases o with
 | map kz ka va es=>exact⟨h.1.mono st hn hp hq,h.2⟩
 | iW kz ka va es=>exact PR.mono st.S st.cell st.mp h
 | Tc cs=>exact PR.mono st.S st.cell st.mp h
 | bV cs=>exact iL.mono st hn hp hq h
 | _=>trivial
def zr(gh:Gh)(w:World)(b:Nat)(p:bL)(kz:Nat)(ka va:Bool)(cur:List AV)(todo:List (List AV)):Prop :=
 gh.κ b=p/\(∀ o,¬ gh.S b o)/\∃ (m:Option Nat) (since:Nat) (seen:Array Nat) (last:Nat),w.heap[b]?=some (.mapIter m since seen last) /\
  ((m=none/\todo=[]/\seen=#[]/\cur=[])\/∃ m0 E es ck f,m=some m0/\gh.S m0 0/\w.heap[m0]?=some (.map E ck)/\zt E ck kz ka va es f/\since=ck/\last=ck /\
   (∀ (i j:Nat) (r:List AV) (x:AV),es[i]?=some r->r[j]?=some x->PR gh.S w (f i j) x) /\
   ((seen.back?=none/\cur=[])\/∃ (s i:Nat) (e:MapEntry),seen.back?=some s/\E[i]?=some e/\e.born=s/\es[i]?=some cur) /\
   todo.Perm (((E.toList.zip es).filter fun p=>!seen.contains p.1.born).map (·.2)))
def zr.mono{n:Nat}{gh:Gh}{w:World}(st:Step touch n gh w bt w')(hp:¬ touch p)
  {kz:Nat} {ka va:Bool} {cur:List AV} {todo:List (List AV)} (h:zr gh w b p kz ka va cur todo):zr bt w' b p kz ka va cur todo:=by
 obtain⟨hk,hS,m,since,seen,last,hb,h⟩:=h;have aZ:b<w.heap.size:=(auZ.1 hb).1;obtain⟨k1,k2,k3⟩:=st.od b aZ (by rw[hk];exact hp)
 have k1:=k1.none hS;refine⟨by rw[k2,hk],fun o ho=>hS o (k3 o ho),m,since,seen,last,by rw[k1,hb],?_⟩
 rcases h with h|⟨m0,E,es,ck,f,h1,h2,h3,h4,h5,h6,h7,h8,h9⟩
 ·exact .inl h
 ·exact .inr ⟨m0,E,es,ck,f,h1,st.S _ _ h2,st.mp _ _ _ h2 h3,h4,h5,h6,fun i j r x hi hj=>(h7 i j r x hi hj).mono st.S st.cell st.mp,h8,h9⟩
def SR(gh:Gh)(n nt:Nat)(w:World)(T:aD)(gen:Nat)(tm:Nat->Value)(i:Nat)(v:Value)(x:AV):Prop :=
 match x with
 | .lbox g cs=>g<gen/\∃ b,v=.pointer (some ⟨b,0,none⟩)/\iL gh n w b (.bx i) (fun j=>.sc i j) cs
 | .lsl g e=>g<gen/\tX gh w (.bx i) v e
 | .lref s g off=>s<nt/\g<gen/\(fz (T s)=some g->∀ b,tm s=.pointer (some ⟨b,0,none⟩)->v=.pointer (some ⟨b,off,none⟩))
 | .lsr s g=>s<nt/\g<gen/\(fz (T s)=some g->v=tm s)
 | .eref s g r z off=>s<nt/\g<gen/\(fz (T s)=some g->∀ b k cap,tm s=.slice (some ⟨b,0,none⟩) k cap->v=.pointer (some ⟨b,r*z+off,none⟩))
 | .iter g kz ka va cur todo=>g<gen/\∃ b,v=.pointer (some ⟨b,0,none⟩)/\zr gh w b (.bx i) kz ka va cur todo
 | x=>CR gh n w (.sl i) v x
structure bf (G:Nat->List AV) (base:Nat) (H:ae) (gh:Gh) (w:World):Prop where
 size:base<=w.heap.size
 pN:∀ b o,gh.S b o->b<w.heap.size
 qN:∀ b,gh.κ b≠.none->base<=b/\b<w.heap.size
 aW:∀ (g j:Nat) (x:AV),(G g)[j]?=some x->∃ v,w.cell? ⟨g,j,none⟩=some v/\PR gh.S w v x/\gh.S g j
 boxes:∀ (loc:Nat) (ty:TypeId) (cs:List AV),H[loc]?=some (bM.box ty cs)->iL gh H.length w (gh.ρ loc) (.hb loc) (fun j=>.hs loc j) cs
 refs:∀ (loc:Nat) (ty:TypeId) (cs:List AV),H[loc]?=some (bM.box ty cs)->cs.all (aX loc)=true
 Bq:∀ g,G g≠[]->∃ ty,rS w g ty (G g).length
 bytes:∀ b o n,gh.S b o->w.cell? ⟨b,o,none⟩=some (.int .u8 n)->∃ C fr,w.heap[b]?=some (.cells C jg fr)
 more:∀ (loc:Nat) (o:bM),H[loc]?=some o->wH gh H.length w (gh.ρ loc) loc o
 types:∀ (loc:Nat) (ty:TypeId) (cs:List AV),H[loc]?=some (bM.box ty cs)->ty≠bE->rS w (gh.ρ loc) ty cs.length
structure al8 (nt:Nat) (gh:Gh) (w:World) (a:Act) (s:AS):Prop where
 defers:a.defers=[]
 size:a.tmps.size=nt
 slot:∀ i,i<nt->SR gh s.H.length nt w s.T s.gen (fun k=>a.tmps.getD k undef) i (a.tmps.getD i undef) (s.T i)
def bf.mj{G:Nat->List AV}{base:Nat}{gh:Gh}{w:World}{n:Nat}(h:bf G base H gh w)(st:Step touch n gh w bt w')
  (jX:∀ b o m,bt.S b o->gh.S b o\/(w'.cell? ⟨b,o,none⟩=some (.int .u8 m)->∃ C fr,w'.heap[b]?=some (.cells C jg fr))) :
  ∀ b o m,bt.S b o->w'.cell? ⟨b,o,none⟩=some (.int .u8 m)->∃ C fr,w'.heap[b]?=some (.cells C jg fr):=by
 intro b o m hs hc
 rcases jX b o m hs with ho|hn
 ·obtain⟨C,fr,h1⟩:=h.bytes b o m ho (by rw[<- st.cell b o ho];exact hc)
  obtain⟨C',fr',h2,_⟩:=st.len b jg C.size ⟨C,fr,h1,rfl⟩;exact⟨C',fr',h2⟩
 ·exact hn hc
def bf.fresh{G:Nat->List AV}{base:Nat}{gh:Gh}{w:World}(h:bf G base H gh w)(b:Nat)(hb:w.heap.size<=b):gh.κ b=.none:=by
 by_cases hk:gh.κ b=.none
 ·exact hk
 ·have:=(h.qN b hk).2;omega
theorem SR.mono{n nt:Nat}{gh:Gh}{w:World}(st:Step touch n gh w bt w')(hn:n<=n'){T':aD}{gen':Nat}(hg:gen<=gen')
  {tm tm' : Nat->Value} {i:Nat} (h1:¬ touch (.bx i)) (h2:¬ touch (.sl i)) (h3:∀ j,¬ touch (.sc i j))
  (hT:∀ s,s<nt->(fz (T' s)=fz (T s)/\tm' s=tm s)\/fz (T' s)=none\/∃ g,gen<=g/\fz (T' s)=some g)
  {v:Value} {x:AV} (h:SR gh n nt w T gen tm i v x):SR bt n' nt w' T' gen' tm' i v x:=by
 have key:∀ s g,s<nt->g<gen->fz (T' s)=some g->fz (T s)=some g/\tm' s=tm s:=by
  grind
 cases x
 case lbox g cs =>
  obtain⟨RF,b,hv,hb⟩:=h;exact⟨by omega,b,hv,hb.mono st hn h1 h3⟩
 case lsl g e=>exact⟨by have:=h.1;omega,h.2.mono st h1⟩
 case iter g kz ka va cur todo =>
  obtain⟨RF,b,hv,hb⟩:=h;exact⟨by omega,b,hv,hb.mono st h1⟩
 case lref s g off =>
  obtain⟨hs,RF,hr⟩:=h;refine⟨hs,by omega,fun Mz b hb=>?_⟩
  grind
 case lsr s g =>
  obtain⟨hs,RF,hr⟩:=h;refine⟨hs,by omega,fun Mz=>?_⟩
  grind
 case eref s g r z off =>
  obtain⟨hs,RF,hr⟩:=h;refine⟨hs,by omega,fun Mz b k cap hb=>?_⟩
  grind
 all_goals exact CR.mono st hn h2 h
def rP(p:bL):Prop:=p≠.none/\p≠.outer
structure Ext (n:Nat) (gh:Gh) (w:World) (bt:Gh) (w' : World):Prop where
 step:Step rP n gh w bt w'
 out:∀ b,bt.κ b=.outer->gh.κ b=.outer
def Ext.refl(n:Nat)(gh:Gh)(w:World)(hf:∀ b,w.heap.size<=b->gh.κ b≠.outer):Ext n gh w gh w:=⟨Step.refl _ n gh w hf,fun _ h=>h⟩
def Ext.trans{n n' : Nat}{g1 g2 g3:Gh}{w1 w2 w3:World}(h:Ext n g1 w1 g2 w2)(h' : Ext n' g2 w2 g3 w3)(hn:n<=n'):Ext n g1 w1 g3 w3:=by
 refine⟨⟨fun b o hs=>h'.step.S b o (h.step.S b o hs),fun b o hs=>(h'.step.cell b o (h.step.S b o hs)).trans (h.step.cell b o hs),avx h.step.size h'.step.size,
  h'.step.os.trans h.step.os,h'.step.tape.trans h.step.tape,h'.step.output.trans h.step.output,?_,?_,fun loc hl=>(h'.step.ρ loc (awb hl hn)).trans (h.step.ρ loc hl),fun b ty m hb=>h'.step.len b ty m (h.step.len b ty m hb),fun b E ck hs hb=>h'.step.mp b E ck (h.step.S b 0 hs) (h.step.mp b E ck hs hb)⟩,fun b hb=>h.out b (h'.out b hb)⟩
 ·intro b hb hnt
  obtain⟨a1,a2,a3⟩:=h.step.od b hb hnt;obtain⟨c1,c2,c3⟩:=h'.step.od b (awb hb h.step.size) (by rw[a2];exact hnt)
  exact⟨a1.trans c1 a3,c2.trans a2,fun o ho=>a3 o (c3 o ho)⟩
 ·intro b hb ho
  have:=h'.out b ho
  by_cases j7:w2.heap.size<=b
  ·exact h'.step.fresh b j7 ho
  ·exact h.step.fresh b hb this
structure FR (L:List Nat) (nt:Nat) (gh:Gh) (w:World) (a:Act) (s:AS):Prop extends al8 nt gh w a s where
 obj:∀ i,(fz (s.T i)).isSome=true->i∈L
def gN(a:Act)(k:Nat):Value:=a.tmps.getD k undef
theorem qw(a:Act)(d:Nat)(v:Value)(k:Nat)(hd:d<a.tmps.size):gN (a.put (some d) v) k=if k=d then v else gN a k:=by
 unfold gN Act.put
 by_cases h:k=d
 ·subst h;simp[hd]
 ·simp[h,axd (awf h)]
theorem iE(a b:Nat):Nat.beq a b=decide (a=b):=by
 by_cases h:a=b
 ·subst h;simp
 ·have h1:Nat.beq a b≠true:=fun h'=>h (avR h')
  grind
theorem kZ(T:aD)(d:Nat)(v:AV)(k:Nat):T.put d v k=if k=d then v else T k:=by
 unfold aD.put
 simp_all
theorem FR.update{L:List Nat}{nt:Nat}{gh:Gh}{w:World}{a a':Act}{s s':AS}(h:FR L nt gh w a s)
  (st:Step touch s.H.length gh w bt w') (J4:a'.defers=[]) (j9:a'.tmps.size=nt) (hn:s.H.length<=s'.H.length) (hg:s.gen<=s'.gen)
  (D:Nat->Prop)
  (Kc:∀ i,¬ D i->s'.T i=s.T i/\(i<nt->gN a' i=gN a i/\¬ touch (.bx i)/\¬ touch (.sl i)/\∀ j,¬ touch (.sc i j)))
  (anf:∀ i,D i->(i<nt/\fz (s'.T i)=fz (s.T i)/\gN a' i=gN a i)\/fz (s'.T i)=none\/(i∈L/\∃ g,s.gen<=g/\fz (s'.T i)=some g))
  (jX:∀ i,D i->i<nt->SR bt s'.H.length nt w' s'.T s'.gen (gN a') i (gN a' i) (s'.T i)):FR L nt bt w' a' s':=by
 have hT:∀ i,i<nt->(fz (s'.T i)=fz (s.T i)/\gN a' i=gN a i)\/fz (s'.T i)=none\/∃ g,s.gen<=g/\fz (s'.T i)=some g:=by
  intro i hi
  by_cases hD:D i
  ·grind
  ·grind
 refine⟨⟨J4,j9,fun i hi=>?_⟩,fun i hi=>?_⟩
 ·by_cases hD:D i
  ·exact jX i hD hi
  ·obtain⟨k1,k2⟩:=Kc i hD
   obtain⟨k3,t1,t2,t3⟩:=k2 hi
   show SR bt s'.H.length nt w' s'.T s'.gen (gN a') i (gN a' i) (s'.T i)
   rw[k1,k3];exact SR.mono st hn hg t1 t2 t3 hT (h.slot i hi)
 ·by_cases hD:D i
  ·rcases anf i hD with ⟨_,h',_⟩|h'|⟨h',_⟩
   ·exact h.obj i (by rw[<- h'];exact hi)
   ·rw[h'] at hi;cases hi
   ·exact h'
  ·rw[(Kc i hD).1] at hi
   exact h.obj i hi
def oN(gh:Gh)(n nt:Nat)(w:World)(T:aD)(gen:Nat)(tm:Nat->Value)(v:Value)(x:AV):Prop :=
 match x with
 | .lbox ..|.lsl ..|.iter ..=>False
 | .lref s g off=>s<nt/\g<gen/\(fz (T s)=some g->∀ b,tm s=.pointer (some ⟨b,0,none⟩)->v=.pointer (some ⟨b,off,none⟩))
 | .lsr s g=>s<nt/\g<gen/\(fz (T s)=some g->v=tm s)
 | .eref s g r z off=>s<nt/\g<gen/\(fz (T s)=some g->∀ b k cap,tm s=.slice (some ⟨b,0,none⟩) k cap->v=.pointer (some ⟨b,r*z+off,none⟩))
 | x=>VR gh n w v x
def oN.fz{gh:Gh}{n nt:Nat}{w:World}{v:Value}{x:AV}(h:oN gh n nt w T gen tm v x):fz x=none:=by
 cases x<;>first|rfl|exact h.elim
def oN.sr{gh:Gh}{n nt:Nat}{w:World}{v:Value}{x:AV}(h:oN gh n nt w T gen tm v x)(i:Nat):SR gh n nt w T gen tm i v x:=by
 cases x<;>first|exact h.elim|exact h|exact .inl h
def oN.dU{gh:Gh}{n nt:Nat}{w:World}{v:Value}{x:AV}(h:VR gh n w v x):oN gh n nt w T gen tm v x:=by
 cases h with
 | plain v x h=>have h0:=h;cases h<;>exact .plain _ _ h0
 | full a k e h hz=>exact .full a k e h hz
 | ref loc off h=>exact .ref loc off h
 | sref loc off k cap z h hk hz=>exact .sref loc off k cap z h hk hz
 | mref loc h=>exact .mref loc h
 | func f fs cs xs ys hf hc h1 h2=>exact .func f fs cs xs ys hf hc h1 h2
 | iface t v x h=>exact .iface t v x h
 | agg cs xs hs iw h=>exact .agg cs xs hs iw h
 | tuple vs xs hs h=>exact .tuple vs xs hs h
def ni(s:AS)(d:Option Nat)(x:AV):(s.bW d x).H=s.H/\(s.bW d x).gen=s.gen/\(s.bW d x).lo=s.lo:=by cases d<;>exact⟨rfl,rfl,rfl⟩
def KQ(a:Act)(d:Option Nat)(v:Value):(a.put d v).tmps.size=a.tmps.size:=by cases d<;>simp[Act.put]
def A3(a:Act)(d:Option Nat)(v:Value):(a.put d v).defers=a.defers:=by cases d<;>rfl
theorem FR.put{L:List Nat}{nt:Nat}{gh:Gh}{w:World}{a:Act}{s:AS}{H':ae}{lo':Nat}(h:FR L nt gh w a s)(st:Step touch s.H.length gh w bt w')
  (ht:∀ i,¬ touch (.bx i)/\¬ touch (.sl i)/\∀ j,¬ touch (.sc i j)) (hH:s.H.length<=H'.length)
  (d:Option Nat) (hd:∀ k,d=some k->k<nt) {v:Value} {x:AV} (hv:oN bt H'.length nt w' s.T s.gen (gN a) v x) :
  FR L nt bt w' (a.put d v) (({ s with H:=H',lo:=lo' } : AS).bW d x):=by
 cases d with
 | none =>
  exact h.update st h.defers h.size hH (Nat.le_refl _) (fun _=>False) (fun i _=>⟨rfl,fun _=>⟨rfl,ht i⟩⟩) (fun _ h=>h.elim) (fun _ h=>h.elim)
 | some d =>
  have aZ:=hd d rfl;have j9:d<a.tmps.size:=by rw[h.size];exact aZ
  refine h.update (s':=({ s with H:=H',lo:=lo' } : AS).bW (some d) x) st ((A3 a (some d) v).trans h.defers) ((KQ a (some d) v).trans h.size) hH (Nat.le_refl _) (fun i=>i=d) ?_ ?_ ?_
  ·intro i hi
   refine⟨by simp[AS.bW,AS.cy,kZ,hi],fun _=>⟨by rw[qw a d v i j9,if_neg hi],ht i⟩⟩
  ·rintro i rfl
   exact .inr (.inl (by simp[AS.bW,AS.cy,kZ];exact hv.fz))
  ·rintro i rfl hi
   simp only[AS.bW,AS.cy,kZ,awE];rw[qw a i v i j9,if_pos rfl];refine SR.mono (touch:=fun _=>False) (n:=H'.length) (gh:=bt) (w:=w') (Step.refl _ _ _ _ (fun b hb=>st.fresh b (avx st.size hb))) (Nat.le_refl _) (Nat.le_refl _) id id (fun _=>id) ?_ (hv.sr i)
   intro k hk
   by_cases hki:k=i
   ·subst hki;exact .inr (.inl (by simp[aD.put];exact hv.fz))
   ·grind [kZ,qw]
section
section
variable {gh:Gh}{n:Nat}{w:World}{v:Value}
def VR.lW{b:Bool}(h:VR gh n w v (.bool b)):v=.bool b:=by cases h with|plain _ _ h=>cases h;rfl
def VR.kC{k:IntKind}{m:Int}(h:VR gh n w v (.int k m)):v=.int k m:=by cases h with|plain _ _ h=>cases h;rfl
def VR.kE{l:List UInt8}(h:VR gh n w v (.str l)):∃ s:ByteArray,v=.string s/\s.data.toList=l:=by cases h with|plain _ _ h=>cases h;exact⟨_,rfl,‹_›⟩
def VR.yF(h:VR gh n w v .de):v=.nilIface:=by cases h with|plain _ _ h=>cases h;rfl
def VR.AR(h:VR gh n w v .kH):v=.nilFunc:=by cases h with|plain _ _ h=>cases h;rfl
def VR.QI{t:TypeId}{x:AV}(h:VR gh n w v (.iface t x)):∃ u,v=.iface t u:=by
 cases h with
 | plain _ _ h=>cases h;exact⟨_,rfl⟩
 | iface _ _ _ _=>exact⟨_,rfl⟩
def VR.mI(h:VR gh n w v .aq):v=.slice none 0 0:=by cases h with|plain _ _ h=>cases h;rfl
def VR.iT{e:List (List AV)}(h:VR gh n w v (.slice e false)):PR gh.S w v (.slice e false):=by cases h with|plain _ _ h=>exact h
def VR.yE(h:VR gh n w v (.eptr cs)):PR gh.S w v (.eptr cs):=by cases h with|plain _ _ h=>exact h
def VR.kD(h:VR gh n w v (.ref loc off)):loc<n/\v=.pointer (some ⟨gh.ρ loc,off,none⟩):=by
 cases h with
 | plain _ _ h=>cases h
 | ref _ _ h=>exact⟨h,rfl⟩
def VR.kU{z:Nat}(h:VR gh n w v (.sref loc off k z)):loc<n/\∃ cap,k<=cap/\(z≠0->∃ ty,rS w (gh.ρ loc) ty (off+cap*z))/\v=.slice (some ⟨gh.ρ loc,off,none⟩) k cap:=by
 cases h with
 | plain _ _ h=>cases h
 | sref _ _ _ cap _ h hk hz=>exact⟨h,cap,hk,hz,rfl⟩
def VR.pC(h:VR gh n w v (.mref loc)):loc<n/\v=.map (some (gh.ρ loc)):=by
 cases h with
 | plain _ _ h=>cases h
 | mref _ h=>exact⟨h,rfl⟩
def VR.uH{f:Fn}{ys:List AV}(h:VR gh n w v (.func f xs ys)):∃ fs cs,v=.func f fs cs/\fs.size=xs.length/\cs.size=ys.length /\
  (∀ (j:Nat) (v:Value) (x:AV),fs[j]?=some v->xs[j]?=some x->VR gh n w v x)/\(∀ (j:Nat) (v:Value) (x:AV),cs[j]?=some v->ys[j]?=some x->VR gh n w v x):=by
 cases h with
 | plain _ _ h=>cases h;exact⟨#[],#[],rfl,rfl,rfl,fun j v x h=>by simp at h,fun j v x h=>by simp at h⟩
 | func _ fs cs _ _ hf hc h1 h2=>exact⟨fs,cs,rfl,hf,hc,h1,h2⟩
def VR.mf(h:VR gh n w v (.agg xs)):∃ cs:Array Value,v=.agg cs/\cs.size=xs.length/\(∀ (j:Nat) (v:Value),cs[j]?=some v->v.oneCell'=true) /\
  (∀ (j:Nat) (v:Value) (x:AV),cs[j]?=some v->xs[j]?=some x->VR gh n w v x):=by
 cases h with
 | plain _ _ h=>cases h
 | agg cs _ hs iw h=>exact⟨cs,rfl,hs,iw,h⟩
def VR.vk(h:VR gh n w v (.tuple xs)):∃ vs:Array Value,v=.tuple vs/\vs.size=xs.length /\
  (∀ (j:Nat) (v:Value) (x:AV),vs[j]?=some v->xs[j]?=some x->VR gh n w v x):=by
 cases h with
 | plain _ _ h=>cases h
 | tuple vs _ hs h=>exact⟨vs,rfl,hs,h⟩
def VR.QJ(h:VR gh n w v .undef):v=undef:=by
 obtain⟨vs,rfl,hs,_⟩:=h.vk;have:vs=#[]:=awH (cT hs)
 subst this;rfl
end
def VR.undef{gh:Gh}{n:Nat}{w:World} : VR gh n w undef .undef:=.tuple #[] [] rfl (fun j v x h=>by simp at h)
def x8{gh:Gh}{n:Nat}{w:World}{v:Value}{x:AV}(h:lG v=some x):VR gh n w v x:=by
 unfold lG at h
 split at h<;>first|(injection h with h;subst h)|cases h
 ·exact .plain _ _ (.bool _)
 ·exact .plain _ _ (.int _ _)
 ·exact .plain _ _ (.str _ _ rfl)
 ·exact .full none 0 [] .dq trivial
 ·exact .plain _ _ .kX
 ·exact .plain _ _ .kq
 ·exact .plain _ _ .kH
 ·exact .plain _ _ .de
def lP{gh:Gh}{n:Nat}{w:World} : ∀ {vs:List Value} {xs:List AV},fy vs=some xs->vs.length=xs.length /\
  ∀ (j:Nat) (v:Value) (x:AV),vs[j]?=some v->xs[j]?=some x->VR gh n w v x/\v.oneCell'=true
 | [],xs,h=>by simp[fy] at h;subst h;exact⟨rfl,fun j v x h=>by simp at h⟩
 | v :: r,xs,h=>by
  simp only[fy,auQ,auP] at h;obtain⟨x,hx,ys,hy,rfl⟩:=h;obtain⟨h1,h2⟩:=lP (gh:=gh) (n:=n) (w:=w) hy;refine⟨by simp[h1],fun j u y hu hy=>?_⟩
  cases j with
  | zero =>
   simp at hu hy;subst hu hy;refine⟨x8 hx,?_⟩;unfold lG at hx
   split at hx<;>first|rfl|cases hx
  | succ j=>exact h2 j u y (cT hu) (cT hy)
theorem L'{gh:Gh}{n:Nat}{w:World}{v:Value}{x:AV}(h:lG v=some x):VR gh n w v (oB x):=by
 have h0:=x8 (gh:=gh) (n:=n) (w:=w) h;unfold lG at h
 split at h<;>first|(injection h with h;subst h)|cases h
 all_goals first|exact h0|exact .plain _ _ .aq
theorem vX:∀ {vs:List Value} {xs:List AV},fy vs=some xs->∀ (j:Nat) (v:Value) (x:AV),vs[j]?=some v->xs[j]?=some x->lG v=some x
 | [],_,_,j,v,x,hv,_=>by simp at hv
 | u :: r,xs,h,j,v,x,hv,hx=>by
  simp only[fy,auQ,auP] at h;obtain⟨y,hy,ys,QC,rfl⟩:=h;cases j with
  | zero=>simp at hv hx;subst hv hx;exact hy
  | succ j=>exact vX QC j v x (cT hv) (cT hx)
theorem kP{gh:Gh}{n:Nat}{w:World}{v:Value}{x:AV}(h:uk v=some x):VR gh n w v x:=by
 unfold uk at h;split at h
 ·rename_i vs
  simp only[auP] at h;obtain⟨l,hl,rfl⟩:=h;obtain⟨h1,h2⟩:=lP (gh:=gh) (n:=n) (w:=w) hl;refine .agg vs _ (cT h1) (fun j v hv=>?_) (fun j v x hv hx=>?_)
  ·have hj:vs.toList[j]?=some v:=cT hv
   obtain⟨y,hy⟩:∃ y,l[j]?=some y:=by
    have:j<vs.toList.length:=(auU.1 hj).1
    simp_all
   exact (h2 j v y hj hy).2
  ·grind [L',vX]
 ·exact x8 h
section
variable {G:Nat->List AV}{base nt:Nat}{L:List Nat}{gh:Gh}{w:World}{a:Act}{s:AS}{x:Operand}{y:aE}
theorem XI(hW:bf G base s.H gh w)(g:Nat):VR gh s.H.length w (.pointer (some ⟨g,0,none⟩)) (.eptr (G g)):=by
 refine .plain _ _ ?_
 let f:Nat->Value:=fun j=>(w.cell? ⟨g,j,none⟩).getD undef
 refine .eptr g 0 (G g) f ?_ ?_
 ·intro j x h
  obtain⟨v,hv,hp,hs⟩:=hW.aW g j x h;refine⟨cT hs,by simp[f,hv],?_⟩
  simp only[f,hv,avN];exact hp.gm
 ·intro j x h
  obtain⟨v,hv,hp,hs⟩:=hW.aW g j x h
  grind
def arg_val(hW:bf G base s.H gh w)(hF:FR L nt gh w a s)(hc:ar nt x=some y) :
  oN gh s.H.length nt w s.T s.gen (gN a) (a.eval x) (y.addr G s.T).drop:=by
 cases x with
 | tmp t =>
  simp only[ar] at hc;rcases av7 (Nat.blt t nt) with hb|hb<;>rw[hb] at hc<;>simp at hc
  subst hc;have aZ:t<nt:=by simpa [avh] using hb
  have h:=hF.slot t aZ
  show oN gh s.H.length nt w s.T s.gen (gN a) (gN a t) _
  change SR gh s.H.length nt w s.T s.gen (gN a) t (gN a t) (s.T t) at h
  simp only[aE.addr];generalize hX:s.T t=X at h;cases X
  case lbox g cs =>
   obtain⟨hg,b,hv,_⟩:=h;refine⟨aZ,hg,fun _ b' iJ=>iJ⟩
  case lsl g e=>exact⟨aZ,h.1,fun _=>rfl⟩
  case lref=>exact h
  case lsr=>exact h
  case eref=>exact h
  case iter g kz ka va cur todo =>
   obtain⟨_,b,hv,_⟩:=h;rw[hv];exact .dU (.plain _ _ (.any _ rfl))
  all_goals exact .dU (CR.dropped h)
 | const v =>
  simp only[ar,auP] at hc;obtain⟨z,hz,rfl⟩:=hc;exact .dU (VR.dropped (kP hz))
 | global g =>
  simp only[ar,auR] at hc;subst hc;exact .dU (VR.dropped (XI hW g))
 | func f =>
  simp only[ar,auR] at hc;subst hc;exact .dU (.plain _ _ (.func _))
def Pt(h:fz (y.eval G T)=none):y.addr G T=y.eval G T:=by
 cases y with
 | tmp t =>
  simp only[aE.addr,aE.eval] at h ⊢;cases hX:T t<;>rw[hX] at h<;>first|rfl|(simp[fz] at h)
 | xI v=>rfl
 | aW g=>rfl
 | fn f=>rfl
def oN.vr{n:Nat}{v:Value}(h:oN gh n nt w T gen tm v z)(hz:aM z=true):VR gh n w v z:=by
 cases z<;>first|exact h|(simp[aM] at hz)
def kS : aM z.drop=aM z:=by cases z<;>rfl
def cX(hW:bf G base s.H gh w)(hF:FR L nt gh w a s)(hc:ar nt x=some y)(hz:y.eval G s.T=z)(hf:aM z=true) :
  VR gh s.H.length w (a.eval x) z.drop:=by
 have hg:fz (y.eval G s.T)=none:=by rw[hz];cases z<;>first|rfl|(simp[aM] at hf)
 have h:=arg_val hW hF hc;rw[Pt hg,hz] at h;exact h.vr (by rw[kS];exact hf)
theorem qh(hW:bf G base s.H gh w)(hF:FR L nt gh w a s)(hc:ar nt x=some y)(hz:y.addr G s.T=z)(hf:aM z=true) :
  VR gh s.H.length w (a.eval x) z.drop:=by
 have h:=arg_val hW hF hc;rw[hz] at h;exact h.vr (by rw[kS];exact hf)
def Hn(hF:FR L nt gh w a s){t:Nat}(aZ:t<nt){e:List (List AV)}(hz:s.T t=.slice e own):CR gh s.H.length w (.sl t) (a.eval (.tmp t)) (.slice e own):=by
 have h:=hF.slot t aZ;rw[hz] at h;exact h
end
end
section
section
variable {P:Program}{G:Nat->List AV}{base nt:Nat}{L:List Nat}{gh:Gh}{w:World}{a:Act}{s:AS}
def al{α:Type}{b:Bool}{x:Option α}{y:α}(h:cond b x none=some y):b=true/\x=some y:=by cases b<;>simp_all
theorem acR(hW:bf G base s.H gh w)(hF:FR L nt gh w a s){x:Operand}{y:aE}{take obj:Bool}(hc:ar nt x=some y)
  (he:qZ G s take obj y=some (z,none)):oN gh s.H.length nt w s.T s.gen (gN a) (a.eval x) z:=by
 have h:=arg_val hW hF hc;cases y with
 | tmp t =>
  simp only[qZ] at he;simp only[aE.addr] at h;generalize hX:s.T t=X at h he;cases X<;>simp only[auR,auV,avZ] at he<;>(try subst he)<;>(try exact h)
  case slice e own =>
   cases take<;>cases own<;>simp at he<;>subst he<;>exact h
  case lsl g e =>
   cases take
   ·simp at he;subst he;exact h
   ·grind
  case iter=>cases he
 | xI v =>
  simp only[qZ,aE.eval,auR,auV,avZ] at he;subst he;cases x<;>simp only[ar,auP,auR,reduceCtorEq] at hc
  case tmp t=>exact absurd (al hc).2 ag
  case const v' =>
   obtain⟨z,hz,hy⟩:=hc;injection hy with hy
   subst hy;exact .dU (kP hz)
 | aW g =>
  simp only[qZ,aE.eval,auR,auV,avZ] at he;subst he;exact h
 | fn f =>
  simp only[qZ,aE.eval,auR,auV,avZ] at he;subst he;exact h
theorem mC(hW:bf G base s.H gh w)(hF:FR L nt gh w a s){x:Operand}{y:aE}(hc:ar nt x=some y)(h:asNat (y.eval G s.T)=some k) :
  ∃ kd,a.eval x=.int kd (k:Int):=by
 unfold asNat at h;split at h
 ·rename_i kd m hy
  obtain⟨h0,h1⟩:=al h;have hm:(0:Int)<=m:=cT h0;have Wt:m.toNat=k:=cT h1;have hv:=(cX hW hF hc hy rfl).kC
  grind
 ·cases h
theorem oH{t:TypeId}(h:fD P t=some k):∃ i,P.info? t=some i/\i.size=k:=by
 simpa [fD,auP] using h
def fC{t:TypeId}(h:fD P t=some k)(w:World):(sizeOf t).run P w=.ok k w:=by
 obtain⟨i,hi,hk⟩:=oH h;simp[sizeOf,typeInfo,hi,hk]
def jk{t:TypeId}{g:Bool}(h:nP P t=some g)(w:World):(isAgg t).run P w=.ok g w:=by
 unfold nP at h;simp only[auP] at h;obtain⟨d,hd,hg⟩:=h;unfold isAgg;rw[Sem.run_bind,run_underlying hd w];subst hg;cases d<;>rfl
theorem addr_add(b o k:Nat):(⟨b,o,none⟩:Addr).add k=⟨b,o+k,none⟩:=by unfold Addr.add;split<;>simp_all
theorem mr{n:Nat}(hl:ab false agg sz off cs=some z){t:TypeId}(hg:nP P t=some agg)(hs:fD P t=some sz)
  {b o:Nat} {f:Nat->Value} (hf:∀ (j:Nat) (x:AV),cs[j]?=some x->w.cell? ⟨b,o+j,none⟩=some (f j)/\(f j).oneCell'=true/\VR gh n w (f j) x.drop) :
  ∃ v,(loadVar t ⟨b,o+off,none⟩).run P w=.ok v w/\VR gh n w v z:=by
 unfold ab at hl;cases agg
 ·simp only[cond_false,auP] at hl
  obtain⟨x,hx,rfl⟩:=hl;obtain⟨h1,h2,h3⟩:=hf off x hx;refine⟨f off,?_,h3⟩;simp[loadVar,jk hg,h1]
 ·simp only[cond_true] at hl
  obtain⟨h0,h1⟩:=al hl;have XJ:off+sz<=cs.length:=by simpa [avm] using h0
  injection h1 with h1
  subst h1;have w6:(loadCells ⟨b,o+off,none⟩ sz).run P w=.ok ((List.range sz).map fun j=>f (off+j)).toArray w :=
   run_loadCells w _ sz (fun j=>f (off+j)) fun j hj=>by
    grind [addr_add]
  refine⟨.agg ((List.range sz).map fun j=>f (off+j)).toArray,by simp[loadVar,jk hg,fC hs,w6],?_⟩
  have hlen:(((cs.drop off).take sz).map AV.drop).length=sz:=dw;refine .agg _ _ (by simp[];omega) ?_ ?_
  ·grind
  ·grind
def y9(hF:FR L nt gh w a s)(hb:b<nt)(hT:s.T b=.lbox g cs) :
  ∃ k,gN a b=.pointer (some ⟨k,0,none⟩)/\iL gh s.H.length w k (.bx b) (fun j=>.sc b j) cs:=by
 have h:=hF.slot b hb;rw[hT] at h;exact h.2
theorem pR(hF:FR L nt gh w a s){e:List (List AV)}(hb:b<nt)(hT:s.T b=.lsl g e):tX gh w (.bx b) (gN a b) e:=by
 have h:=hF.slot b hb;rw[hT] at h;exact h.2
def qW{n:Nat}(h:iL gh n w b p q cs) :
  ∃ f:Nat->Value,∀ (j:Nat) (x:AV),cs[j]?=some x->w.cell? ⟨b,0+j,none⟩=some (f j)/\(f j).oneCell'=true/\VR gh n w (f j) x.drop:=by
 obtain⟨_,_,C,ty,hb,hC,iG⟩:=h;refine⟨fun j=>C.getD j undef,fun j x hx=>?_⟩
 have hj:j<cs.length:=(auU.1 hx).1;have Bh:j<C.size:=ah;have hv:C[j]?=some C[j]:=au' Bh;obtain⟨h1,h2⟩:=iG j _ x hv hx;refine⟨by rw[avt,cell_of_row w b j C ty _ hb];simp[Bh],by simpa [Bh] using h1,by simpa [Bh] using h2.dropped⟩
def Xo(hW:bf G base s.H gh w)(hF:FR L nt gh w a s){t:TypeId}{x:Operand}{y:aE}{take:Bool}(hc:ar nt x=some y)(hg:nP P t=some agg)(hs:fD P t=some sz)
  (he:cO s take agg sz (y.addr G s.T)=some (z,none)) :
  ∃ v,(Instr.loadAt t (a.eval x)).run P w=.ok v w/\oN gh s.H.length nt w s.T s.gen (gN a) v z:=by
 have hv:=arg_val hW hF hc;have OS:∀ {n:Nat} {off:Nat} {cs:List AV} {v:AV},ab take agg sz off cs=some v->(take&&!agg)=false->ab false agg sz off cs=some v:=by
  intro n off cs v h1 h2;cases take
  ·exact h1
  ·cases agg
   ·cases h2
   ·exact h1
 generalize hY:y.addr G s.T=Y at hv he;cases Y<;>simp only[cO] at he<;>try (cases he;done)
 case eptr cs =>
  simp only[auP,auV,avZ] at he;obtain⟨u,hu,rfl⟩:=he;have hp:=VR.yE (hv:VR gh s.H.length w (a.eval x) (.eptr cs));generalize hA:a.eval x=V at hp;cases hp with
  | eptr b o _ f dm dv =>
   obtain⟨v,h1,h2⟩:=mr (gh:=gh) (n:=s.H.length) hu hg hs (b:=b) (o:=o) (f:=f)
    (fun j x hx=>⟨(dm j x hx).2.1,(dm j x hx).2.2,VR.dropped (.plain _ _ (dv j x hx))⟩)
   refine⟨v,?_,.dU h2⟩
   simpa [Instr.loadAt,Instr.sureAddr] using h1
 case ref loc off =>
  obtain⟨aZ,tE⟩:=VR.kD (hv:VR gh s.H.length w (a.eval x) (.ref loc off));split at he
  ·rename_i WH cs hH
   simp only[auP,auV] at he;obtain⟨u,hu,rfl,hn⟩:=he;have hq:(take&&!agg)=false:=by cases h:(take&&!agg)<;>simp_all
   obtain⟨f,hf⟩:=qW (hW.boxes loc _ cs hH);obtain⟨v,h1,h2⟩:=mr (gh:=gh) (n:=s.H.length) (OS (n:=0) hu hq) hg hs (b:=gh.ρ loc) (o:=0) (f:=f) hf;refine⟨v,?_,.dU h2⟩;rw[tE]
   simpa [Instr.loadAt,Instr.sureAddr] using h1
  ·rename_i cs hH
   simp only[auP,auV,avZ] at he;obtain⟨u,hu,rfl⟩:=he;have hp:PR gh.S w (.pointer (some ⟨gh.ρ loc,0,none⟩)) (.eptr cs):=hW.more loc _ hH;generalize hB:gh.ρ loc=b0 at hp tE;cases hp with
   | eptr b o _ f dm dv =>
    obtain⟨v,h1,h2⟩:=mr (gh:=gh) (n:=s.H.length) hu hg hs (b:=b0) (o:=0) (f:=f)
     (fun j x hx=>⟨(dm j x hx).2.1,(dm j x hx).2.2,VR.dropped (.plain _ _ (dv j x hx))⟩)
    refine⟨v,?_,.dU h2⟩;rw[tE]
    simpa [Instr.loadAt,Instr.sureAddr] using h1
  ·rename_i cs hH
   simp only[auP,auV,avZ] at he;obtain⟨u,hu,rfl⟩:=he;obtain⟨f,hf⟩:=qW (hW.more loc _ hH:iL gh s.H.length w (gh.ρ loc) (.hb loc) (fun j=>.hs loc j) cs)
   obtain⟨v,h1,h2⟩:=mr (gh:=gh) (n:=s.H.length) hu hg hs (b:=gh.ρ loc) (o:=0) (f:=f) hf;refine⟨v,?_,.dU h2⟩;rw[tE]
   simpa [Instr.loadAt,Instr.sureAddr] using h1
  ·cases he
 case lref b g off =>
  obtain⟨hb,RF,hr⟩:=(hv:_/\_/\_);split at he
  ·rename_i g' cs hT
   obtain⟨h0,iY⟩:=al he;clear he;have Ka:g=g':=by simpa [iE] using h0
   subst Ka
   rename _=some (z,none)=>he
   simp only[auP,auV] at he;obtain⟨u,hu,rfl,hn⟩:=he;have hq:(take&&!agg)=false:=by cases h:(take&&!agg)<;>simp_all
   obtain⟨k,hk,Qn⟩:=y9 hF hb hT;have tE:=hr (by rw[hT];rfl) k hk
   obtain⟨f,hf⟩:=qW Qn;obtain⟨v,h1,h2⟩:=mr (gh:=gh) (n:=s.H.length) (OS (n:=0) hu hq) hg hs (b:=k) (o:=0) (f:=f) hf;refine⟨v,?_,.dU h2⟩;rw[tE]
   simpa [Instr.loadAt,Instr.sureAddr] using h1
  ·cases he
 case eref b g i zz off =>
  obtain⟨hb,RF,hr⟩:=(hv:_/\_/\_);split at he
  ·rename_i g' e hT
   obtain⟨h0,iY⟩:=al he;clear he;have Ka:g=g':=by simpa [iE] using h0
   subst Ka
   rename _=some (z,none)=>he
   simp only[auQ] at he;obtain⟨r,MK,he⟩:=he;obtain⟨h1,he⟩:=al he;have hz:r.length=zz:=by simpa [iE] using h1
   simp only[auP,auV,avZ] at he;obtain⟨u,hu,rfl⟩:=he;obtain⟨ad,cap,oG,bU⟩:=pR hF hb hT
   rcases bU with ⟨rfl,_⟩|⟨k,C,ty,lp,_,rfl,hκ,hS,IW,hC,hl,zT,iG⟩
   ·simp at MK
   ·have tE:=hr (by rw[hT];rfl) k _ _ oG
    have j9:lp=zz:=by rw[<- hz,zT i r MK]
    subst j9;obtain⟨v,h1,h2⟩:=mr (P:=P) (gh:=gh) (w:=w) (n:=s.H.length) hu hg hs (b:=k) (o:=i*lp) (f:=fun j=>C.getD (i*lp+j) undef) (fun j x hx=>by
     obtain⟨u,I1,X7⟩:=iG i j r x MK hx;have hj:i*lp+j<C.size:=(auZ.1 I1).1;have iY:C.getD (i*lp+j) undef=u:=by
      rw[au' hj] at I1;injection I1 with I1
      simp[hj,I1]
     rw[iY,cell_of_row w k _ C ty _ IW,I1];exact⟨rfl,X7.gm,VR.dropped (.plain _ _ X7)⟩)
    refine⟨v,?_,.dU h2⟩;rw[tE]
    simpa [Instr.loadAt,Instr.sureAddr] using h1
  ·cases he
end
end
section
section
variable {P:Program}{G:Nat->List AV}{base nt:Nat}{L:List Nat}{gh:Gh}{w:World}{a:Act}{s:AS}
def Dd(hF:FR L nt gh w a s){v:Value}(hv:oN gh s.H.length nt w s.T s.gen (gN a) v z)(hl:aN s z=true) :
  ∃ b o,v=.pointer (some ⟨b,o,none⟩):=by
 cases z<;>simp only[aN,av4] at hl
 case eptr cs =>
  have hp:=VR.yE (hv:VR gh s.H.length w v (.eptr cs));cases hp;exact⟨_,_,rfl⟩
 case ref loc off=>exact⟨_,_,(VR.kD (hv:VR gh s.H.length w v (.ref loc off))).2⟩
 case lref b g off =>
  obtain⟨hb,hg,hr⟩:=(hv:_/\_/\_);split at hl
  ·rename_i g' cs hT
   have Ka:g=g':=by simpa [iE] using hl
   obtain⟨k,hk,_⟩:=y9 hF hb hT;exact⟨_,_,hr (by rw[hT,Ka];rfl) k hk⟩
  ·cases hl
 case eref b g i zz off =>
  obtain⟨hb,hg,hr⟩:=(hv:_/\_/\_);split at hl
  ·rename_i g' e hT
   obtain⟨h1,h2⟩:=by simpa [iE,avh] using hl
   obtain⟨ad,cap,oG,bU⟩:=pR hF hb hT
   rcases bU with ⟨rfl,_⟩|⟨k,_,_,_,_,rfl,_⟩
   ·simp at h2
   ·exact⟨_,_,hr (by rw[hT,h1];rfl) k _ _ oG⟩
  ·cases hl
def JL(hW:bf G base s.H gh w)(hF:FR L nt gh w a s){x:Operand}{y:aE}(ho:o.op=.nilCheck x)(hc:ar nt x=some y)(hl:aN s (y.addr G s.T)=true) :
  ∃ v,(execOp a.eval o).run P w=.ok (.value v) w/\oN gh s.H.length nt w s.T s.gen (gN a) v (y.addr G s.T):=by
 have hv:=arg_val hW hF hc;have hd:(y.addr G s.T).drop=y.addr G s.T:=by cases hz:y.addr G s.T<;>rw[hz] at hl<;>first|rfl|(simp[aN] at hl)
 rw[hd] at hv;obtain⟨b,of,hp⟩:=Dd hF hv hl;refine⟨a.eval x,?_,hv⟩;simp[execOp,ho,hp]
theorem OT(hF:FR L nt gh w a s){v:Value}{z':AV}(hv:oN gh s.H.length nt w s.T s.gen (gN a) v z)(hl:aN s z=true)(ho:bI off z=some z') :
  ∃ b o,v=.pointer (some ⟨b,o,none⟩)/\oN gh s.H.length nt w s.T s.gen (gN a) (.pointer (some ⟨b,o+off,none⟩)) z':=by
 cases z<;>simp only[bI,auR,reduceCtorEq] at ho<;>subst ho
 case eptr cs =>
  have hp:=VR.yE (hv:VR gh s.H.length w v (.eptr cs));cases hp with
  | eptr b o _ f dm dv =>
   refine⟨b,o,rfl,.dU (.plain _ _ (.eptr b (o+off) _ (fun j=>f (off+j)) ?_ ?_))⟩
   ·grind
   ·grind
 case ref loc of =>
  obtain⟨aZ,rfl⟩:=VR.kD (hv:VR gh s.H.length w v (.ref loc of));exact⟨_,_,rfl,.dU (.ref loc (of+off) aZ)⟩
 case lref b g of =>
  obtain⟨k,o,rfl⟩:=Dd hF hv hl;obtain⟨hb,hg,hr⟩:=(hv:_/\_/\_);refine⟨k,o,rfl,hb,hg,fun h1 b' h2=>?_⟩
  grind
 case eref b g i zz of =>
  obtain⟨k,o,rfl⟩:=Dd hF hv hl;obtain⟨hb,hg,hr⟩:=(hv:_/\_/\_);refine⟨k,o,rfl,hb,hg,fun h1 b' c1 c2 h2=>?_⟩
  grind
def GB(hl:aN s z=true):z.drop=z:=by cases z<;>first|rfl|(simp[aN] at hl)
def Hz(hW:bf G base s.H gh w)(hF:FR L nt gh w a s){t:TypeId}{x:Operand}{f:Nat}{y:aE}{fs:Array Go.Field}{q:Go.Field}
  (ho:o.op=.fieldAddr t x f) (hc:ar nt x=some y) (hu:P.underlying t=some (.struct fs)) (hq:fs[f]?=some q) (hs:fD P q.type=some sz) (h0:0<sz)
  (hl:aN s (y.addr G s.T)=true) (he:bI q.offset (y.addr G s.T)=some z) :
  ∃ v,(execOp a.eval o).run P w=.ok (.value v) w/\oN gh s.H.length nt w s.T s.gen (gN a) v z:=by
 have hv:=arg_val hW hF hc;rw[GB hl] at hv;obtain⟨b,of,hp,oG⟩:=OT hF hv hl he;refine⟨_,?_,oG⟩;have dp:¬ sz=0:=by omega
 simp[execOp,ho,hp,Instr.fieldAt,run_underlying hu,hq,Instr.sureAddr,fieldPlace,fC hs,dp,addr_add]
def S0(hW:bf G base s.H gh w)(hF:FR L nt gh w a s){t:TypeId}{x:Operand}{n:Nat}{y:aE}
  (ho:o.op=.indexAddr t x i) (hc:ar nt x=some y) (hi:ar nt i=some yi) (hu:P.underlying t=some (.array n e)) (hs:fD P e=some sz)
  (hk:asNat (yi.eval G s.T)=some k) (Qr:k<n) (hl:aN s (y.addr G s.T)=true) (he:bI (k*sz) (y.addr G s.T)=some z) :
  ∃ v,(execOp a.eval o).run P w=.ok (.value v) w/\oN gh s.H.length nt w s.T s.gen (gN a) v z:=by
 have hv:=arg_val hW hF hc;rw[GB hl] at hv;obtain⟨b,of,hp,oG⟩:=OT hF hv hl he;obtain⟨kd,HP⟩:=mC hW hF hi hk;refine⟨_,?_,oG⟩;have h1:k<n:=Qr;simp[execOp,ho,hp,HP,Instr.indexAt,asIntOf,run_underlying hu,Instr.sureAddr,fC hs,h1,addr_add]
def Xm(hW:bf G base s.H gh w)(hF:FR L nt gh w a s){t:TypeId}{x:Operand}{y:aE}
  (ho:o.op=.indexAddr t x i) (hc:ar nt x=some y) (hi:ar nt i=some yi) (hu:P.underlying t=some (.slice e)) (hs:fD P e=some sz)
  (hk:asNat (yi.eval G s.T)=some k) (hy:y.addr G s.T=.slice el own) (hr:el[k]?=some r) (zT:r.length=sz) :
  ∃ v,(execOp a.eval o).run P w=.ok (.value v) w/\oN gh s.H.length nt w s.T s.gen (gN a) v (.eptr r):=by
 have hv:=VR.iT (qh hW hF hc hy rfl);obtain⟨kd,HP⟩:=mC hW hF hi hk;generalize hA:a.eval x=V at hv;cases hv with
 | dq=>simp at hr
 | slice b of n cap lp _ f hn kT bU dm dv =>
  have Ft:k<el.length:=(auU.1 hr).1;have j9:lp=sz:=by rw[<- zT,bU k r hr]
  subst j9;refine⟨.pointer (some ⟨b,of+k*lp,none⟩),?_,.dU (.plain _ _ (.eptr b (of+k*lp) r (f k) (fun j x hx=>dm k j r x hr hx) (fun j x hx=>dv k j r x hr hx)))⟩
  have h1:k<n:=by omega
  simp[execOp,ho,hA,HP,Instr.indexAt,asIntOf,run_underlying hu,fC hs,h1,addr_add]
def P6(hW:bf G base s.H gh w)(hF:FR L nt gh w a s){t:TypeId}{x:Operand}{l of m zz:Nat}{y:aE}
  (ho:o.op=.indexAddr t x i) (hc:ar nt x=some y) (hi:ar nt i=some yi) (hu:P.underlying t=some (.slice e)) (hs:fD P e=some sz)
  (hk:asNat (yi.eval G s.T)=some k) (hy:y.addr G s.T=.sref l of m zz) (hkm:k<m) :
  ∃ v,(execOp a.eval o).run P w=.ok (.value v) w/\oN gh s.H.length nt w s.T s.gen (gN a) v (.ref l (of+k*sz)):=by
 obtain⟨aZ,cap,_,_,hA⟩:=VR.kU (qh hW hF hc hy rfl);obtain⟨kd,HP⟩:=mC hW hF hi hk;refine⟨.pointer (some ⟨gh.ρ l,of+k*sz,none⟩),?_,.dU (.ref l (of+k*sz) aZ)⟩;simp[execOp,ho,hA,HP,Instr.indexAt,asIntOf,run_underlying hu,fC hs,hkm,addr_add]
theorem S1(hW:bf G base s.H gh w)(hF:FR L nt gh w a s){t:TypeId}{x:Operand}{y:aE}
  (ho:o.op=.indexAddr t x i) (hc:ar nt x=some y) (hi:ar nt i=some yi) (hu:P.underlying t=some (.slice e)) (hs:fD P e=some sz)
  (hk:asNat (yi.eval G s.T)=some k) (hy:y.addr G s.T=.lsr b g) (hT:s.T b=.lsl g el) (hr:el[k]?=some r) (zT:r.length=sz) :
  ∃ v,(execOp a.eval o).run P w=.ok (.value v) w/\oN gh s.H.length nt w s.T s.gen (gN a) v (.eref b g k sz 0):=by
 have hv:=arg_val hW hF hc;rw[hy] at hv;obtain⟨hb,hg,hrr⟩:=(hv:_/\_/\_);obtain⟨kd,HP⟩:=mC hW hF hi hk;have tE:=hrr (by rw[hT];rfl)
 have Ft:k<el.length:=(auU.1 hr).1;obtain⟨ad,cap,oG,bU⟩:=pR hF hb hT
 rcases bU with ⟨rfl,_⟩|⟨c,C,ty,lp,_,rfl,hκ,hS,IW,hC,hl,hrw,iG⟩
 ·simp at hr
 ·have h1:k<el.length:=Ft
  refine⟨.pointer (some ⟨c,k*sz,none⟩),?_,hb,hg,fun _ b' c1 c2 h2=>?_⟩
  ·simp[execOp,ho,tE,oG,HP,Instr.indexAt,asIntOf,run_underlying hu,fC hs,h1,addr_add]
  ·grind
def Xs(hW:bf G base s.H gh w)(hF:FR L nt gh w a s){c x y:Operand}{ic iy:aE}{t:Bool}
  (ho:o.op=.pick c x y) (hc:ar nt c=some ic) (hx:ar nt x=some ix) (hy:ar nt y=some iy) (ht:ic.eval G s.T=.bool t) :
  ∃ v,(execOp a.eval o).run P w=.ok (.value v) w/\oN gh s.H.length nt w s.T s.gen (gN a) v (cond t (ix.addr G s.T).drop (iy.addr G s.T).drop):=by
 have hb:=(cX hW hF hc ht rfl).lW;have h1:=arg_val hW hF hx;have h2:=arg_val hW hF hy;cases t
 ·exact⟨_,by simp[execOp,ho,hb,asBool],h2⟩
 ·exact⟨_,by simp[execOp,ho,hb,asBool],h1⟩
def ahD(hW:bf G base s.H gh w)(hF:FR L nt gh w a s){op:UnOp}{t:TypeId}{x:Operand}
  (ho:o.op=.unOp op t x) (hc:ar nt x=some ix) (he:gr op (ix.eval G s.T)=some z) :
  ∃ v,(execOp a.eval o).run P w=.ok (.value v) w/\oN gh s.H.length nt w s.T s.gen (gN a) v z:=by
 generalize hz:ix.eval G s.T=X at he;unfold gr at he
 split at he<;>first|(injection he with he;subst he)|cases he
 ·have hv:=(cX hW hF hc hz rfl).kC
  exact⟨_,by simp[execOp,ho,hv,Op.unary,Op.intArith],.dU (.plain _ _ (.int _ _))⟩
 ·have hv:=(cX hW hF hc hz rfl).lW
  exact⟨_,by simp[execOp,ho,hv,Op.unary],.dU (.plain _ _ (.bool _))⟩
def S5(hW:bf G base s.H gh w)(hF:FR L nt gh w a s){x:Operand}{k k':IntKind}
  (ho:o.op=.convert st dt x) (hc:ar nt x=some ix) (hs:P.underlying st=some (.int k')) (hd:P.underlying dt=some (.int k)) (he:cd (.toInt k) (ix.eval G s.T)=some z) :
  ∃ v,(execOp a.eval o).run P w=.ok (.value v) w/\oN gh s.H.length nt w s.T s.gen (gN a) v z:=by
 generalize hz:ix.eval G s.T=X at he;cases X<;>simp[cd] at he
 subst he;have hv:=(cX hW hF hc hz rfl).kC;exact⟨_,by simp[execOp,ho,hv,convert,run_underlying hs,run_underlying hd,Conv.intToInt],.dU (.plain _ _ (.int _ _))⟩
def Mp(hW:bf G base s.H gh w)(hF:FR L nt gh w a s){x:Operand}
  (ho:o.op=.convert st dt x) (hc:ar nt x=some ix) (hs:P.underlying st=some .string) (hd:P.underlying dt=some .string) (he:cd .IE (ix.eval G s.T)=some z) :
  ∃ v,(execOp a.eval o).run P w=.ok (.value v) w/\oN gh s.H.length nt w s.T s.gen (gN a) v z:=by
 generalize hz:ix.eval G s.T=X at he;cases X<;>simp[cd] at he
 subst he;obtain⟨b,hv,hl⟩:=(cX hW hF hc hz rfl).kE;exact⟨_,by simp[execOp,ho,hv,convert,run_underlying hs,run_underlying hd],.dU (.plain _ _ (.str _ _ hl))⟩
def foldl_push(ns:List Int):∀ s:ByteArray,(ns.foldl (fun r n=>r.push (UInt8.ofNat n.toNat)) s).data.toList=s.data.toList++ns.map fun n=>UInt8.ofNat n.toNat:=by
 induction ns with
 | nil=>intro s;simp
 | cons n ns ih=>intro s;rw[axr,ih];simp[ByteArray.push]
def Ax:∀ {e:List (List AV)} {l:List UInt8},bytesOf e=some l->∃ ns:List Int,e=ns.map (fun n=>[AV.int .u8 n])/\l=ns.map fun n=>UInt8.ofNat n.toNat
 | [],l,h=>by simp[bytesOf] at h;exact⟨[],rfl,by simp[h]⟩
 | r :: e,l,h=>by
  unfold bytesOf at h;split at h
  ·rename_i hh;cases hh
  ·rename_i n r' heq
   injection heq with h1 h2
   subst h1 h2;simp only[auP] at h;obtain⟨l',Fu,rfl⟩:=h;obtain⟨ns,rfl,rfl⟩:=Ax Fu;exact⟨n :: ns,rfl,rfl⟩
  ·cases h
theorem Rl{n0:Nat}{V:Value}{ns:List Int}(hv:PR gh.S w V (.slice (ns.map fun n=>[AV.int .u8 n]) false)) :
  ∃ q:ByteArray,(Conv.bytesToString V).run P w=.ok (.string q) w/\q.data.toList=ns.map (fun n=>UInt8.ofNat n.toNat)/\∃ b c d,V=.slice b c d:=by
 generalize hE:(ns.map fun n=>[AV.int .u8 n])=E at hv
 cases hv with
 | dq =>
  have:ns=[]:=by simpa using hE
  subst this;exact⟨ByteArray.empty,by simp[Conv.bytesToString],rfl,_,_,_,rfl⟩
 | slice b of n cap lp _ f hn kT bU dm dv =>
  subst hE;have hlen:n=ns.length:=by rw[<- hn];simp
  have TM:(loadCells ⟨b,of,none⟩ n).run P w=.ok (ns.map (Value.int .u8)).toArray w:=by
   have:=run_loadCells_list (P:=P) w ⟨b,of,none⟩ (ns.map (Value.int .u8)) (fun j v hj=>by
    simp only[List.getElem?_map,auP] at hj;obtain⟨m,hm,rfl⟩:=hj;have hr:(ns.map fun n=>[AV.int .u8 n])[j]?=some [AV.int .u8 m]:=by simp[hm]
    have qa:lp=1:=by rw[<- bU j _ hr];rfl
    subst qa;obtain⟨_,h1,_⟩:=dm j 0 _ _ hr rfl;have h2:=dv j 0 _ _ hr rfl;have h3:f j 0=.int .u8 m:=by generalize f j 0=F at h2;cases h2;rfl
    rw[addr_add,<- h3,<- h1];simp)
   grind
  refine⟨_,run_bytesToString w _ n cap ns TM,?_,_,_,_,rfl⟩;rw[foldl_push];simp[ByteArray.empty,ByteArray.emptyWithCapacity];rfl
def JI(hW:bf G base s.H gh w)(hF:FR L nt gh w a s){x:Operand}
  (ho:o.op=.convert st dt x) (hc:ar nt x=some ix) (hs:P.underlying st=some (.slice e)) (hE:P.underlying e=some (.int .u8)) (hd:P.underlying dt=some .string) (he:cd .Cf (ix.eval G s.T)=some z) :
  ∃ v,(execOp a.eval o).run P w=.ok (.value v) w/\oN gh s.H.length nt w s.T s.gen (gN a) v z:=by
 generalize hz:ix.eval G s.T=X at he;cases X<;>simp only[cd,reduceCtorEq,auP] at he
 obtain⟨l,hl,rfl⟩:=he;obtain⟨ns,rfl,rfl⟩:=Ax hl;have hv:=VR.iT (cX hW hF hc hz rfl);obtain⟨q,h1,h2,b,c,d,hV⟩:=Rl (P:=P) (n0:=0) hv;refine⟨.string q,?_,.dU (.plain _ _ (.str _ _ h2))⟩;have h3:(convert st dt (a.eval x)).run P w=.ok (.string q) w:=by rw[hV] at h1 ⊢;rw[run_convert_bytes_string w st dt e b c d hs hE hd,h1]
 simp[execOp,ho,h3]
end
end
end Go.Abs
end
