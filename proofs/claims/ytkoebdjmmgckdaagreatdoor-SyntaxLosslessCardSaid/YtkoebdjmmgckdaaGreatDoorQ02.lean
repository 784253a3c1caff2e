/-
  A part of the proof of SyntaxLossless: AbsRule, AbsEq, AbsRel, AbsFrame, AbsArg, AbsOps1, AbsOps2.
-/
import Derived.IntWalk
import Derived.Laws.AppendOwn
import Derived.Below
import Derived.WalkKit
import Derived.Test.YtkoebdjmmgckdaaGreatDoorQ01
set_option linter.unusedSimpArgs false
set_option linter.unusedVariables false
set_option linter.defProp false
noncomputable section
namespace Go.Abs
variable {own:Bool}{e f:List (List AV)}{bytes sz:Nat}{G:Nat->List AV}{o:Option AV}{op:oH}
section
def mM(s:Nat):AV->AV
 | .lbox g _=>.lref s g 0
 | .lsl g _=>.lsr s g
 | .iter ..=>.any
 | v=>v
def ahn{G:Nat->List AV}{T:az}{s:Nat} : aI.addr G T (.tmp s)=mM s (T s):=by
 simp only[aI.addr,mM];split<;>simp_all
section
def Q9{b:Bool} : AV.drop (AV.bool b)=(.bool b):=rfl
def Ug{k:IntKind}{n:Int} : AV.drop (AV.int k n)=(.int k n):=rfl
def Ui{l:List UInt8} : AV.drop (AV.str l)=(.str l):=rfl
def M3:AV.drop AV.al=.al:=rfl
def LO:AV.plain AV.al=true:=rfl
def UH:aO AV.al=true:=rfl
def M4{e:List (List AV)}{own:Bool} : AV.drop (AV.slice e own)=.slice e false:=rfl
def Uh{loc off:Nat} : AV.drop (AV.ref loc off)=(.ref loc off):=rfl
def Rb{loc off n z:Nat} : AV.drop (AV.sref loc off n z)=(.sref loc off n z):=rfl
def Ra{f:Fn}{fs cs:List AV} : AV.drop (AV.func f fs cs)=(.func f fs cs):=rfl
def Uf{cs:List AV} : AV.drop (AV.agg cs)=(.agg cs):=rfl
def Im{b:Bool} : AV.cU (AV.bool b)=(.bool b):=rfl
def Kj{k:IntKind}{n:Int} : AV.cU (AV.int k n)=(.int k n):=rfl
def Kl{l:List UInt8} : AV.cU (AV.str l)=(.str l):=rfl
def Aw:AV.cU AV.cM=.cM:=rfl
def Ga{e:List (List AV)}{own:Bool} : AV.cU (AV.slice e own)=.slice e false:=rfl
def Kk{loc off:Nat} : AV.cU (AV.ref loc off)=(.ref loc off):=rfl
def Io{f:Fn}{fs cs:List AV} : AV.cU (AV.func f fs cs)=(.func f fs cs):=rfl
def F9{t:TypeId}{v:AV} : AV.cU (AV.iface t v)=(.iface t v):=rfl
def Bv{cs:List AV} : AV.cU (AV.agg cs)=.agg (cs.map AV.drop):=rfl
def Zh{b:Bool} : aO (AV.bool b)=true:=rfl
def aeO{k:IntKind}{n:Int} : aO (AV.int k n)=true:=rfl
def aeQ{l:List UInt8} : aO (AV.str l)=true:=rfl
def KB:aO AV.cM=true:=rfl
def UI{e:List (List AV)}{own:Bool} : aO (AV.slice e own)=true:=rfl
def aeP{loc off:Nat} : aO (AV.ref loc off)=true:=rfl
def Zj{loc off n z:Nat} : aO (AV.sref loc off n z)=true:=rfl
def Zi{f:Fn}{fs cs:List AV} : aO (AV.func f fs cs)=true:=rfl
def aeN{cs:List AV} : aO (AV.agg cs)=true:=rfl
def MT{b:Bool} : AV.cells (AV.bool b)=some [(.bool b)]:=rfl
def Q3{k:IntKind}{n:Int} : AV.cells (AV.int k n)=some [(.int k n)]:=rfl
def Q5{l:List UInt8} : AV.cells (AV.str l)=some [(.str l)]:=rfl
def Kb{e:List (List AV)}{own:Bool} : AV.cells (AV.slice e own)=some [(.slice e own)]:=rfl
def Q4{loc off:Nat} : AV.cells (AV.ref loc off)=some [(.ref loc off)]:=rfl
def MW{loc off n z:Nat} : AV.cells (AV.sref loc off n z)=some [(.sref loc off n z)]:=rfl
def MV{f:Fn}{fs cs:List AV} : AV.cells (AV.func f fs cs)=some [(.func f fs cs)]:=rfl
def GK{cs:List AV} : AV.cells (AV.agg cs)=some cs:=rfl
def Ol{b:Bool} : AV.plain (AV.bool b)=true:=rfl
def Sr{k:IntKind}{n:Int} : AV.plain (AV.int k n)=true:=rfl
def St{l:List UInt8} : AV.plain (AV.str l)=true:=rfl
def Ff:AV.plain AV.cM=true:=rfl
def LP{e:List (List AV)}{own:Bool} : AV.plain (AV.slice e own)=!own:=rfl
def Ih{base:Nat}{b:Bool} : AV.bp base (AV.bool b)=AV.plain (.bool b):=rfl
def J'{base:Nat}{k:IntKind}{n:Int} : AV.bp base (AV.int k n)=AV.plain (.int k n):=rfl
def Ka{base:Nat}{l:List UInt8} : AV.bp base (AV.str l)=AV.plain (.str l):=rfl
def Ar{base:Nat} : AV.bp base AV.cM=AV.plain .cM:=rfl
def F6{base:Nat}{e:List (List AV)}{own:Bool} : AV.bp base (AV.slice e own)=AV.plain (.slice e own):=rfl
def Jb{base:Nat}{b:Bool} : AV.dU base (AV.bool b)=AV.bp base (.bool b):=rfl
def LK{base:Nat}{k:IntKind}{n:Int} : AV.dU base (AV.int k n)=AV.bp base (.int k n):=rfl
def LM{base:Nat}{l:List UInt8} : AV.dU base (AV.str l)=AV.bp base (.str l):=rfl
def AW{base:Nat} : AV.dU base AV.cM=AV.bp base .cM:=rfl
def Gu{base:Nat}{e:List (List AV)}{own:Bool} : AV.dU base (AV.slice e own)=AV.bp base (.slice e own):=rfl
def LJ{base:Nat}{cs:List AV} : AV.dU base (AV.agg cs)=cs.all (AV.bp base):=rfl
def Ll{base:Nat}{b:Bool} : AV.leaves base (AV.bool b)=AV.dU base (.bool b):=rfl
def NW{base:Nat}{k:IntKind}{n:Int} : AV.leaves base (AV.int k n)=AV.dU base (.int k n):=rfl
def NX{base:Nat}{l:List UInt8} : AV.leaves base (AV.str l)=AV.dU base (.str l):=rfl
def I1{base:Nat}{e:List (List AV)}{own:Bool} : AV.leaves base (AV.slice e own)=true:=rfl
def NV{base:Nat}{cs:List AV} : AV.leaves base (AV.agg cs)=AV.dU base (.agg cs):=rfl
def I2{base:Nat}{vs:List AV} : AV.leaves base (AV.tuple vs)=vs.all (AV.dU base):=rfl
def MB{s:Nat}{b:Bool} : mM s (AV.bool b)=(.bool b):=rfl
def QP{s:Nat}{k:IntKind}{n:Int} : mM s (AV.int k n)=(.int k n):=rfl
def QS{s:Nat}{l:List UInt8} : mM s (AV.str l)=(.str l):=rfl
def J1{s:Nat}{e:List (List AV)}{own:Bool} : mM s (AV.slice e own)=(.slice e own):=rfl
def MC{s:Nat}{cs:List AV} : mM s (AV.eptr cs)=(.eptr cs):=rfl
def QR{s:Nat}{loc off:Nat} : mM s (AV.ref loc off)=(.ref loc off):=rfl
def MI{s:Nat}{loc off n z:Nat} : mM s (AV.sref loc off n z)=(.sref loc off n z):=rfl
def MH{s:Nat}{loc:Nat} : mM s (AV.mref loc)=(.mref loc):=rfl
def MF{s:Nat}{g:Nat}{cs:List AV} : mM s (AV.lbox g cs)=.lref s g 0:=rfl
def MG{s:Nat}{r g off:Nat} : mM s (AV.lref r g off)=(.lref r g off):=rfl
def QQ{s:Nat}{r g:Nat} : mM s (AV.lsr r g)=(.lsr r g):=rfl
def MD{s:Nat}{r g i z off:Nat} : mM s (AV.eref r g i z off)=(.eref r g i z off):=rfl
def ME{s:Nat}{f:Fn}{fs cs:List AV} : mM s (AV.func f fs cs)=(.func f fs cs):=rfl
def QO{s:Nat}{cs:List AV} : mM s (AV.agg cs)=(.agg cs):=rfl
def J2{s:Nat}{vs:List AV} : mM s (AV.tuple vs)=(.tuple vs):=rfl
end
def jC(A:AP)(o:Option AV)(t:Nat)(os:List aQ)(T:az)(H:aa)(lo gen:Nat)(K:AS->Prop):Prop :=
 bX o fun z=>WO A os ⟨T.put t z,H,lo,gen⟩ K
def oN(A:AP)(take obj:Bool)(i:Nat)(v:AV)(t:Nat)(os:List aQ)(T:az)(H:aa)(lo gen:Nat)(K:AS->Prop):Prop :=
 bX (match v with
  | .lbox g _=>some (AV.lref i g 0,(⟨T,H,lo,gen⟩:AS))
  | .lsl g e=>cond take (cond obj (some (.lsl gen e,⟨T.put i .any,H,lo,gen+1⟩)) (cond (nB e) (some (.slice e true,⟨T.put i (.slice e false),H,lo,gen⟩)) none)) (some (.lsr i g,⟨T,H,lo,gen⟩))
  | .slice e own=>cond (take&&own) (some (.slice e true,⟨T.put i (.slice e false),H,lo,gen⟩)) (some (.slice e false,⟨T,H,lo,gen⟩))
  | .iter ..=>none
  | v=>some (v,⟨T,H,lo,gen⟩)) fun r=>WO A os (r.2.cc t r.1) K
def oL(A:AP)(v:AV)(w:Bool)(t:Nat)(op:oH)(os:List aQ)(T:az)(H:aa)(lo gen:Nat)(K:AS->Prop):Prop :=
 bX (match v with|.bool b=>some (b==w)|.tuple []=>some false|_=>none) fun b =>
  (b=true->WO A (⟨some t,none,op⟩ :: os) ⟨T,H,lo,gen⟩ K)/\(b=false->WO A os ⟨T.put t .undef,H,lo,gen⟩ K)
def yD(A:AP)(r:Option (AV × Option fw))(t:Nat)(os:List aQ)(T:az)(H:aa)(lo gen:Nat)(K:AS->Prop):Prop :=
 bX (r.bind fun r=>match r.2 with
  | none=>some (r.1,(⟨T,H,lo,gen⟩:AS))
  | some c=>some (r.1,AS.iw ⟨T,H,lo,gen⟩ c)) fun r=>WO A os (r.2.cc t r.1) K
def ni(G:Nat->List AV)(T:az):List aI->List AV
 | []=>[]
 | a :: r=>(a.addr G T).cU :: ni G T r
def jN(G:Nat->List AV)(T:az):List aI->Bool
 | []=>true
 | a :: r=>aO (a.addr G T)&&jN G T r
def yB{T:az} : ∀ l:List aI,l.map (fun a=>(a.addr G T).cU)=ni G T l
 | []=>rfl
 | a :: r=>by simp[ni,yB r]
def vD{T:az} : ∀ l:List aI,(l.map fun a=>a.addr G T).all aO=jN G T l
 | []=>rfl
 | a :: r=>by simp only[axe,List.all_cons,jN,vD r]
def nD(G:Nat->List AV)(T:az):List (Nat × Nat × aI)->List (Nat × Nat × AV)
 | []=>[]
 | (o,z,a) :: r=>(o,z,(a.eval G T).drop) :: nD G T r
def HA{T:az} : ∀ l:List (Nat × Nat × aI),l.map (fun p=>(p.1,p.2.1,(p.2.2.eval G T).drop))=nD G T l
 | []=>rfl
 | a :: r=>by simp[nD,HA r]
def kM(G:Nat->List AV)(T:az):List (Nat × aI)->List (Nat × AV)
 | []=>[]
 | (i,a) :: r=>(i,(a.eval G T).drop) :: kM G T r
def Ax{T:az} : ∀ l:List (Nat × aI),l.map (fun p=>(p.1,(p.2.eval G T).drop))=kM G T l
 | []=>rfl
 | a :: r=>by simp[kM,Ax r]
def AU(G:Nat->List AV)(T:az):Option aI->Option AV
 | none=>none
 | some a=>some (a.eval G T)
def Qk(c a b:AV):Option AV:=match c with
 | .bool t=>some (cond t a.drop b.drop)
 | _=>none
def Wr(b:Bool)(o:Option (List (List AV))):Option AV:=o.bind fun E=>cond (mK b E) (some (.slice E true)) none
def bN(o:Option bG)(agg:Bool)(sz off:Nat):Option AV:=match o with
 | some (.box _ cs)=>ah false agg sz off cs
 | some (.UG cs)=>ah false agg sz off cs
 | some (.bR cs)=>ah false agg sz off cs
 | _=>none
def pI(v:AV)(g:Nat)(agg:Bool)(sz off:Nat):Option AV:=match v with
 | .lbox g' cs=>cond (Nat.beq g g') (ah false agg sz off cs) none
 | _=>none
def Fp(o:Option (List AV))(z:Nat)(agg:Bool)(sz off:Nat):Option AV:=o.bind fun r=>cond (Nat.beq r.length z) (ah false agg sz off r) none
def zA(v:AV)(g i z:Nat)(agg:Bool)(sz off:Nat):Option AV:=match v with
 | .lsl g' e=>cond (Nat.beq g g') (Fp (e[i]?) z agg sz off) none
 | _=>none
def zx(T:az)(H:aa)(agg:Bool)(sz:Nat)(x:AV):Option AV:=match x with
 | .eptr cs=>ah false agg sz 0 cs
 | .ref loc off=>bN H[loc]? agg sz off
 | .lref b g off=>pI (T b) g agg sz off
 | .eref b g i z off=>zA (T b) g i z agg sz off
 | _=>none
def qa(v:AV)(g:Nat)(r:AV):Option AV:=match v with
 | .lbox g' _=>cond (Nat.beq g g') (some r) none
 | _=>none
def zB(v:AV)(g i:Nat)(r:AV):Option AV:=match v with
 | .lsl g' e=>cond (Nat.beq g g'&&Nat.blt i e.length) (some r) none
 | _=>none
def faV(T:az)(off:Nat)(x:AV):Option AV:=match x with
 | .ref l o=>some (.ref l (o+off))
 | .eptr cs=>some (.eptr (cs.drop off))
 | .lref b g o=>qa (T b) g (.lref b g (o+off))
 | .eref b g i z o=>zB (T b) g i (.eref b g i z (o+off))
 | _=>none
def OD(sz:Nat)(r:Option (List AV))(f:List AV->AV):Option AV:=r.bind fun r=>cond (Nat.beq r.length sz) (some (f r)) none
def ixV(T:az)(sz:Nat)(x:AV)(n:Option Nat):Option AV:=match x with
 | .slice e _=>n.bind fun n=>OD sz (e[n]?) .eptr
 | .sref l o m _=>n.bind fun n=>cond (Nat.blt n m) (some (.ref l (o+n*sz))) none
 | .lsr t g=>match T t with
  | .lsl g' e=>cond (Nat.beq g g') (n.bind fun n=>OD sz (e[n]?) fun _=>.eref t g n sz 0) none
  | _=>none
 | _=>none
def NL(agg:Bool)(n sz:Nat)(x:AV)(i:Option Nat):Option AV:=match x with
 | .agg cs=>i.bind fun k=>cond (Nat.blt k n) (ah false agg sz (k*sz) cs) none
 | _=>none
def MS(o:Option UInt8):Option AV:=o.map fun (b:UInt8)=>AV.int .u8 b.toNat
def TX(x:AV)(i:Option Nat):Option AV:=match x with
 | .str l=>i.bind fun n=>MS (l[n]?)
 | _=>none
def UD(x:AV)(i:Nat):Option AV:=match x with
 | .tuple vs=>(vs[i]?).map AV.cU
 | _=>none
def NY(T:az)(k:sO)(x:AV):Option AV:=match x with
 | .lsr t g=>match T t with
  | .lsl g' e=>cond (Nat.beq g g') (ny k (.slice e false)) none
  | _=>none
 | v=>ny k v
def T1(A:AP)(f:AV)(vs:List AV)(t:Nat)(os:List aQ)(T:az)(H:aa)(lo gen:Nat)(K:AS->Prop):Prop:=match f with
 | .func (.func n) fs cs=>yD A (ai A n (fs++vs++cs) H) t os T H lo gen K
 | _=>False
def YC(A:AP)(b:Bool)(sz bytes i:Nat)(x y:AV)(t:Nat)(os:List aQ)(T:az)(H:aa)(lo gen:Nat)(K:AS->Prop):Prop:=match x with
 | .slice e own=>bX (aC b sz bytes (.slice e own) y) fun z=>WO A os ⟨(T.put i (.slice e false)).put t z,H,lo,gen⟩ K
 | .al=>bX (aC b sz bytes (.slice [] true) y) fun z=>WO A os ⟨T.put t z,H,lo,gen⟩ K
 | _=>False
section
variable {A:AP}{T:az}{H:aa}{lo gen:Nat}{K:AS->Prop}{os:List aQ}{t:Nat}
def ye{z:AV} : jC A (some z) t os T H lo gen K=WO A os ⟨T.put t z,H,lo,gen⟩ K:=aS
def ad0(z:AV)(h:o=some z)(hK:WO A os ⟨T.put t z,H,lo,gen⟩ K):jC A o t os T H lo gen K:=by
 rw[h,ye];exact hK
def gJ(h:br A.aX (ai A) ⟨T,H,lo,gen⟩ op=o.map (·,none)):WO A (⟨some t,none,op⟩ :: os) ⟨T,H,lo,gen⟩ K=jC A o t os T H lo gen K:=by
 rw[fG];cases o with
 | none=>simp[jC,bS,h,bX]
 | some z =>
  simp only[jC,bS,h,axa,aw7];simp only[aS];rfl
section
variable {take obj:Bool}{i:Nat}
def aau{b:Bool} : oN A take obj i (AV.bool b) t os T H lo gen K=WO A os ⟨T.put t (AV.bool b),H,lo,gen⟩ K:=aS
def agL{k:IntKind}{n:Int} : oN A take obj i (AV.int k n) t os T H lo gen K=WO A os ⟨T.put t (AV.int k n),H,lo,gen⟩ K:=aS
def agQ{l:List UInt8} : oN A take obj i (AV.str l) t os T H lo gen K=WO A os ⟨T.put t (AV.str l),H,lo,gen⟩ K:=aS
def Lu:oN A take obj i AV.cM t os T H lo gen K=WO A os ⟨T.put t AV.cM,H,lo,gen⟩ K:=aS
def agM{loc off:Nat} : oN A take obj i (AV.ref loc off) t os T H lo gen K=WO A os ⟨T.put t (AV.ref loc off),H,lo,gen⟩ K:=aS
def aaz{loc off n z:Nat} : oN A take obj i (AV.sref loc off n z) t os T H lo gen K=WO A os ⟨T.put t (AV.sref loc off n z),H,lo,gen⟩ K:=aS
def aay{loc:Nat} : oN A take obj i (AV.mref loc) t os T H lo gen K=WO A os ⟨T.put t (AV.mref loc),H,lo,gen⟩ K:=aS
def aav{fn:Fn}{fs cs:List AV} : oN A take obj i (AV.func fn fs cs) t os T H lo gen K=WO A os ⟨T.put t (AV.func fn fs cs),H,lo,gen⟩ K:=aS
def Wn{u:TypeId}{v:AV} : oN A take obj i (AV.iface u v) t os T H lo gen K=WO A os ⟨T.put t (AV.iface u v),H,lo,gen⟩ K:=aS
def Wp{vs:List AV} : oN A take obj i (AV.tuple vs) t os T H lo gen K=WO A os ⟨T.put t (AV.tuple vs),H,lo,gen⟩ K:=aS
def agO{e:List (List AV)} : oN A take obj i (.slice e false) t os T H lo gen K=WO A os ⟨T.put t (.slice e false),H,lo,gen⟩ K:=by
 simp[oN,aS,AS.cc]
def agP{e:List (List AV)} : oN A true obj i (.slice e true) t os T H lo gen K=WO A os ⟨(T.put i (.slice e false)).put t (.slice e true),H,lo,gen⟩ K:=by
 simp[oN,aS,AS.cc]
def agN{e:List (List AV)}{own:Bool} : oN A false obj i (.slice e own) t os T H lo gen K=WO A os ⟨T.put t (.slice e false),H,lo,gen⟩ K:=by
 simp[oN,aS,AS.cc]
def aaw{g:Nat}{e:List (List AV)} : oN A false obj i (.lsl g e) t os T H lo gen K=WO A os ⟨T.put t (.lsr i g),H,lo,gen⟩ K:=by
 simp[oN,aS,AS.cc]
def vU{g:Nat}(hn:nB e=true):oN A true false i (.lsl g e) t os T H lo gen K=WO A os ⟨(T.put i (.slice e false)).put t (.slice e true),H,lo,gen⟩ K:=by
 simp[oN,aS,AS.cc,hn]
def aax{g:Nat}{e:List (List AV)} : oN A true true i (.lsl g e) t os T H lo gen K=WO A os ⟨(T.put i .any).put t (.lsl gen e),H,lo,gen+1⟩ K:=by
 simp[oN,aS,AS.cc]
end
def amS{take obj:Bool}{i:Nat} : WO A (⟨some t,none,.mov take obj (.tmp i)⟩ :: os) ⟨T,H,lo,gen⟩ K=oN A take obj i (T i) t os T H lo gen K:=by
 rw[fG];simp only[oN,bS,br,rO];cases hT:T i with
 | slice e own=>cases take<;>cases own<;>simp[bX,AS.cR,AS.cc,dY]
 | lbox g cs=>simp[bX,AS.cR,AS.cc,dY]
 | lsl g e=>cases take<;>cases obj<;>cases hn:nB e<;>simp[bX,AS.cR,AS.cc,dY,hn]
 | _=>simp[bX,AS.cR,AS.cc,dY]
def W6{take obj:Bool}{v:AV} : WO A (⟨some t,none,.mov take obj (.yn v)⟩ :: os) ⟨T,H,lo,gen⟩ K=jC A (some v) t os T H lo gen K:=gJ rfl
def ahG{take obj:Bool}{f:FuncId} : WO A (⟨some t,none,.mov take obj (.fn f)⟩ :: os) ⟨T,H,lo,gen⟩ K=jC A (some (.func (.func f) [] [])) t os T H lo gen K:=gJ rfl
def aa4{g:Nat}{w:Bool}{op:oH} : WO A (⟨some t,some (g,w),op⟩ :: os) ⟨T,H,lo,gen⟩ K=oL A (T g) w t op os T H lo gen K:=by
 rw[fG];simp only[oL,fG];unfold bS;simp only;cases hT:T g with
 | bool b =>
  cases hb:(b==w) with
  | true=>simp only[hb,aS,cond_true,forall_const,Bool.true_eq_false,false_implies,ax',eq_self]
  | false=>simp only[hb,aS,cond_false,forall_const,ayg,false_implies,ayV,eq_self,AS.cR,AS.cc]
 | tuple l =>
  cases l with
  | nil=>simp only[aS,forall_const,ayg,false_implies,ayV,eq_self,AS.cR,AS.cc]
  | cons a l=>simp[bX]
 | _=>simp[bX]
def amM{op:oH} : oL A (.bool true) true t op os T H lo gen K=WO A (⟨some t,none,op⟩ :: os) ⟨T,H,lo,gen⟩ K:=by simp[oL,aS]
def amJ{op:oH} : oL A (.bool false) false t op os T H lo gen K=WO A (⟨some t,none,op⟩ :: os) ⟨T,H,lo,gen⟩ K:=by simp[oL,aS]
def amL{op:oH} : oL A (.bool true) false t op os T H lo gen K=WO A os ⟨T.put t .undef,H,lo,gen⟩ K:=by simp[oL,aS]
def amK{op:oH} : oL A (.bool false) true t op os T H lo gen K=WO A os ⟨T.put t .undef,H,lo,gen⟩ K:=by simp[oL,aS]
def amN{op:oH}{w:Bool} : oL A (.tuple []) w t op os T H lo gen K=WO A os ⟨T.put t .undef,H,lo,gen⟩ K:=by simp[oL,aS]
def ahI{c a b:aI} : WO A (⟨some t,none,.pick c a b⟩ :: os) ⟨T,H,lo,gen⟩ K=jC A (Qk (c.eval A.aX T) (a.addr A.aX T) (b.addr A.aX T)) t os T H lo gen K:=by
 refine gJ ?_;simp only[br,Qk];cases c.eval A.aX T<;>rfl
def abh{x y:AV} : Qk (.bool true) x y=some x.drop:=rfl
def abg{x y:AV} : Qk (.bool false) x y=some y.drop:=rfl
def WY{z:List AV} : WO A (⟨some t,none,.allocL z⟩ :: os) ⟨T,H,lo,gen⟩ K=WO A os ⟨T.put t (.lbox gen z),H,lo,gen+1⟩ K:=by
 rw[fG];simp only[bS,br,aw7,cond_false,aS];rfl
def WX{ty:TypeId}{z:List AV} : WO A (⟨some t,none,.H8 ty z⟩ :: os) ⟨T,H,lo,gen⟩ K=WO A os ⟨T.put t (.ref H.length 0),H++[.box ty z],cond (Nat.blt H.length lo) H.length lo,gen⟩ K:=by
 rw[fG];simp only[bS,br,aw7,cond_false,aS];rfl
def aaU{z:List AV}{ps:List (Nat × Nat × aI)} : WO A (⟨some t,none,.build z ps⟩ :: os) ⟨T,H,lo,gen⟩ K=jC A ((dW z (nD A.aX T ps)).map .agg) t os T H lo gen K:=by
 refine gJ ?_;simp only[br,HA,ayZ];rfl
def HE{b:Bool}{sz:Nat}{z:List (List AV)}{ps:List (Nat × aI)} : WO A (⟨some t,none,.mkslice b sz z ps⟩ :: os) ⟨T,H,lo,gen⟩ K=jC A (Wr b (cC sz z (kM A.aX T ps))) t os T H lo gen K:=by
 refine gJ ?_;simp only[br,Ax,Wr];cases cC sz z (kM A.aX T ps) with
 | none=>rfl
 | some E=>simp only[aw7];cases mK b E<;>rfl
def aq7{b:Bool}{E:List (List AV)} : Wr b (some E)=cond (mK b E) (some (.slice E true)) none:=rfl
def aa8{agg:Bool}{sz:Nat}{x:aI} : WO A (⟨some t,none,.load false agg sz x⟩ :: os) ⟨T,H,lo,gen⟩ K=jC A (zx T H agg sz (x.addr A.aX T)) t os T H lo gen K:=by
 refine gJ ?_;simp only[br,cH,zx,axt,cond_false];cases x.addr A.aX T with
 | ref loc off=>cases hl:H[loc]? with
  | none=>simp only[hl,bN];rfl
  | some o=>cases o<;>simp only[hl,bN]<;>rfl
 | lref b g off =>
  cases hb:T b with
  | lbox g' cs=>simp only[hb,pI];cases Nat.beq g g'<;>rfl
  | _=>simp only[hb,pI];rfl
 | eref b g i z off =>
  cases hb:T b with
  | lsl g' e =>
   simp only[hb,zA,Fp];cases Nat.beq g g' with
   | false=>rfl
   | true =>
    simp only[cond_true];cases e[i]? with
    | none=>rfl
    | some r=>simp only[aw7];cases Nat.beq r.length z<;>rfl
  | _=>simp only[hb,zA];rfl
 | _=>rfl
def aa9{agg:Bool}{sz:Nat}{cs:List AV} : zx T H agg sz (.eptr cs)=ah false agg sz 0 cs:=rfl
def aba{agg:Bool}{sz loc off:Nat} : zx T H agg sz (.ref loc off)=bN H[loc]? agg sz off:=rfl
def ahs{ty:TypeId}{cs:List AV}{agg:Bool}{sz off:Nat} : bN (some (.box ty cs)) agg sz off=ah false agg sz off cs:=rfl
def aa'{agg:Bool}{sz b g off:Nat} : zx T H agg sz (.lref b g off)=pI (T b) g agg sz off:=rfl
def aa7{g g' : Nat}{cs:List AV}{agg:Bool}{sz off:Nat} : pI (.lbox g cs) g' agg sz off=cond (Nat.beq g' g) (ah false agg sz off cs) none:=rfl
def W3{sz off:Nat}{cs:List AV} : ah false true sz off cs=cond (Nat.ble (off+sz) cs.length) (some (.agg (((cs.drop off).take sz).map AV.drop))) none:=rfl
def W2{sz off:Nat}{cs:List AV} : ah false false sz off cs=(cs[off]?).map AV.drop:=by
 simp only[ah,cond_false]
def amx{op:BinOp}{q:Ah}{x y:aI} : WO A (⟨some t,none,.bin op q x y⟩ :: os) ⟨T,H,lo,gen⟩ K=jC A (Bm op q (nO x || nO y) (x.eval A.aX T) (y.eval A.aX T)) t os T H lo gen K:=gJ rfl
def aq9{op:UnOp}{x:aI} : WO A (⟨some t,none,.un op x⟩ :: os) ⟨T,H,lo,gen⟩ K=jC A (yj op (x.eval A.aX T)) t os T H lo gen K:=gJ rfl
def ahy{c:CT}{x:aI} : WO A (⟨some t,none,.conv c x⟩ :: os) ⟨T,H,lo,gen⟩ K=jC A (j8 c (x.eval A.aX T)) t os T H lo gen K:=gJ rfl
def abk{k:An}{x:aI}{l h m:Option aI} : WO A (⟨some t,none,.slice k x l h m⟩ :: os) ⟨T,H,lo,gen⟩ K=jC A (gX k (x.eval A.aX T) (AU A.aX T l) (AU A.aX T h) (AU A.aX T m)) t os T H lo gen K:=by
 refine gJ ?_;cases l<;>cases h<;>cases m<;>rfl
def amw{op:BinOp}{q:Ah}{c:Bool}{j k:IntKind}{a b:Int} : Bm op q c (.int j a) (.int k b)=cond (decide (j=k)) (ab op j a b) none:=rfl
def amB{op:BinOp}{q:Ah}{c:Bool}{a b:List UInt8} : Bm op q c (.str a) (.str b)=mr op a b:=rfl
def LZ{off:Nat}{x:aI} : WO A (⟨some t,none,.fieldAddr off x⟩ :: os) ⟨T,H,lo,gen⟩ K=jC A (faV T off (x.addr A.aX T)) t os T H lo gen K:=by
 refine gJ ?_;simp only[br,faV];cases x.addr A.aX T with
 | lref b g o =>
  cases hb:T b with
  | lbox g' cs=>simp only[hb,cK,iK,qa];cases Nat.beq g g'<;>rfl
  | _=>simp only[hb,cK,qa];rfl
 | eref b g i z o =>
  cases hb:T b with
  | lsl g' e=>simp only[hb,cK,iK,zB];cases (Nat.beq g g'&&Nat.blt i e.length)<;>rfl
  | _=>simp only[hb,cK,zB];rfl
 | _=>rfl
def amF{off:Nat}{cs:List AV} : faV T off (.eptr cs)=some (.eptr (cs.drop off)):=rfl
def amH{off l o:Nat} : faV T off (.ref l o)=some (.ref l (o+off)):=rfl
def amG{off b g o:Nat} : faV T off (.lref b g o)=qa (T b) g (.lref b g (o+off)):=rfl
def Oy{g g' : Nat}{cs:List AV}{r:AV} : qa (.lbox g cs) g' r=cond (Nat.beq g' g) (some r) none:=rfl
def aa6{n sz:Nat}{x i:aI} : WO A (⟨some t,none,.ixArr n sz x i⟩ :: os) ⟨T,H,lo,gen⟩ K=jC A ((asNat (i.eval A.aX T)).bind fun k=>cond (Nat.blt k n) (faV T (k*sz) (x.addr A.aX T)) none) t os T H lo gen K:=by
 refine gJ ?_;simp only[br];cases asNat (i.eval A.aX T) with
 | none=>rfl
 | some k =>
  simp only[aw7];cases Nat.blt k n with
  | false=>rfl
  | true =>
   simp only[axF,cond_true,faV];cases x.addr A.aX T with
   | lref b g o =>
    cases hb:T b with
    | lbox g' cs=>simp only[hb,cK,iK,qa];cases Nat.beq g g'<;>rfl
    | _=>simp only[hb,cK,qa];rfl
   | eref b g i z o =>
    cases hb:T b with
    | lsl g' e=>simp only[hb,cK,iK,zB];cases (Nat.beq g g'&&Nat.blt i e.length)<;>rfl
    | _=>simp only[hb,cK,zB];rfl
   | _=>rfl
def ahB{sz:Nat}{x i:aI} : WO A (⟨some t,none,.ixSl sz x i⟩ :: os) ⟨T,H,lo,gen⟩ K=jC A (ixV T sz (x.addr A.aX T) (asNat (i.eval A.aX T))) t os T H lo gen K:=by
 refine gJ ?_;simp only[br,ixV];cases x.addr A.aX T with
 | slice e own =>
  cases asNat (i.eval A.aX T) with
  | none=>rfl
  | some n =>
   simp only[aw7,OD];cases e[n]? with
   | none=>rfl
   | some r=>simp only[aw7];cases Nat.beq r.length sz<;>rfl
 | sref l o m z =>
  cases asNat (i.eval A.aX T) with
  | none=>rfl
  | some n=>simp only[aw7];cases Nat.blt n m<;>rfl
 | lsr s g =>
  cases hs:T s with
  | lsl g' e =>
   simp only[hs];cases Nat.beq g g' with
   | false=>rfl
   | true =>
    simp only[cond_true];cases asNat (i.eval A.aX T) with
    | none=>rfl
    | some n =>
     simp only[aw7,OD];cases e[n]? with
     | none=>rfl
     | some r=>simp only[aw7];cases Nat.beq r.length sz<;>rfl
  | _=>simp[hs]
 | _=>rfl
def amQ{sz n:Nat}{e:List (List AV)}{own:Bool} : ixV T sz (.slice e own) (some n)=OD sz (e[n]?) .eptr:=rfl
def amP{sz n l o m z:Nat} : ixV T sz (.sref l o m z) (some n)=cond (Nat.blt n m) (some (.ref l (o+n*sz))) none:=rfl
def amO{sz n s g:Nat} : ixV T sz (.lsr s g) (some n)=(match T s with|.lsl g' e=>cond (Nat.beq g g') (OD sz (e[n]?) fun _=>.eref s g n sz 0) none|_=>none):=rfl
def ahS{sz:Nat}{r:List AV}{f:List AV->AV} : OD sz (some r) f=cond (Nat.beq r.length sz) (some (f r)) none:=rfl
def aa5{agg:Bool}{n sz:Nat}{x i:aI} : WO A (⟨some t,none,.index agg n sz x i⟩ :: os) ⟨T,H,lo,gen⟩ K=jC A (NL agg n sz (x.eval A.aX T) (asNat (i.eval A.aX T))) t os T H lo gen K:=by
 refine gJ ?_;simp only[br,NL];cases asNat (i.eval A.aX T) with
 | none=>cases x.eval A.aX T<;>rfl
 | some k =>
  simp only[aw7];cases Nat.blt k n with
  | false=>cases x.eval A.aX T<;>rfl
  | true=>cases x.eval A.aX T<;>rfl
def W4{agg:Bool}{n sz k:Nat}{cs:List AV} : NL agg n sz (.agg cs) (some k)=cond (Nat.blt k n) (ah false agg sz (k*sz) cs) none:=rfl
def Ox{x i:aI} : WO A (⟨some t,none,.rS x i⟩ :: os) ⟨T,H,lo,gen⟩ K=jC A (TX (x.eval A.aX T) (asNat (i.eval A.aX T))) t os T H lo gen K:=by
 refine gJ ?_;simp only[br,TX];cases x.eval A.aX T with
 | str l =>
  cases asNat (i.eval A.aX T) with
  | none=>rfl
  | some n=>simp only[aw7];cases l[n]?<;>rfl
 | _=>rfl
def aaV{l:List UInt8}{n:Nat} : TX (.str l) (some n)=MS (l[n]?):=rfl
def W0{b:UInt8} : MS (some b)=some (.int .u8 b.toNat):=rfl
def Sw{x:aI}{i:Nat} : WO A (⟨some t,none,.extract x i⟩ :: os) ⟨T,H,lo,gen⟩ K=jC A (UD (x.eval A.aX T) i) t os T H lo gen K:=by
 refine gJ ?_;simp only[br,UD];cases x.eval A.aX T with
 | tuple vs=>simp only;cases vs[i]?<;>rfl
 | _=>rfl
def aa3{vs:List AV}{i:Nat} : UD (.tuple vs) i=(vs[i]?).map AV.cU:=rfl
def amR{k:sO}{x:aI} : WO A (⟨some t,none,.len k x⟩ :: os) ⟨T,H,lo,gen⟩ K=jC A (NY T k (x.addr A.aX T)) t os T H lo gen K:=by
 refine gJ ?_;simp only[br,NY];cases x.addr A.aX T with
 | lsr s g =>
  cases hs:T s with
  | lsl g' e=>simp only[hs];cases Nat.beq g g'<;>rfl
  | _=>simp[hs]
 | _=>rfl
def ahE{l:List UInt8} : NY T .str (.str l)=some (.int .i64 l.length):=rfl
def ahC{e:List (List AV)}{own:Bool} : NY T .sl (.slice e own)=some (.int .i64 e.length):=rfl
def ahD{l o m z:Nat} : NY T .sl (.sref l o m z)=some (.int .i64 m):=rfl
def ahv{f:FuncId}{args:List aI} : WO A (⟨some t,none,.call (.fn f) args⟩ :: os) ⟨T,H,lo,gen⟩ K=(jN A.aX T args=true/\yD A (ai A f (ni A.aX T args) H) t os T H lo gen K):=by
 rw[fG];simp only[bS,br,aI.eval,vD,yB,yD,axM,List.append_nil];refine propext ?_;cases jN A.aX T args with
 | false=>simp[bX]
 | true =>
  simp only[cond_true,ayV];cases ai A f (ni A.aX T args) H with
  | none=>simp[bX]
  | some r =>
   obtain⟨v,c⟩:=r;cases c with
   | none=>simp only[axa,ayd,aw7];simp[bX,AS.cR]
   | some c=>simp only[axa,aw7];simp[bX,AS.cR]
def aaY{i:Nat}{args:List aI} : WO A (⟨some t,none,.call (.tmp i) args⟩ :: os) ⟨T,H,lo,gen⟩ K=(jN A.aX T args=true/\T1 A (T i) (ni A.aX T args) t os T H lo gen K):=by
 rw[fG];simp only[bS,br,aI.eval,vD,yB,T1,yD];refine propext ?_;cases hT:T i with
 | func fn fs cs =>
  cases fn with
  | func n =>
   cases jN A.aX T args with
   | false=>simp[bX]
   | true =>
    simp only[cond_true,ayV];cases ai A n (fs++ni A.aX T args++cs) H with
    | none=>simp[bX]
    | some r =>
     obtain⟨v,c⟩:=r;cases c with
     | none=>simp only[axa,ayd,aw7];simp[bX,AS.cR]
     | some c=>simp only[axa,aw7];simp[bX,AS.cR]
  | _=>simp[bX]
 | _=>simp[bX]
def aaW{n:FuncId}{fs vs cs:List AV} : T1 A (.func (.func n) fs cs) vs t os T H lo gen K=yD A (ai A n (fs++vs++cs) H) t os T H lo gen K:=rfl
def amV{v:AV} : yD A (some (v,none)) t os T H lo gen K=WO A os ⟨T.put t v,H,lo,gen⟩ K:=by
 simp[yD,aS,AS.cc]
def ahR{v:AV}{h:aa}{l:Nat} : yD A (some (v,some ⟨h,l⟩)) t os T H lo gen K=WO A os ⟨T.put t v,h,cond (Nat.blt l lo) l lo,gen⟩ K:=by
 simp[yD,aS,AS.cc,AS.iw]
def WZ{b:Bool}{sz bytes i:Nat}{y:aI} : WO A (⟨some t,none,.append b false sz bytes (.tmp i) y⟩ :: os) ⟨T,H,lo,gen⟩ K=YC A b sz bytes i (T i) (y.eval A.aX T) t os T H lo gen K:=by
 rw[fG];simp only[bS,br,fO,YC];cases hT:T i with
 | slice e own =>
  simp only[cond_false];cases aC b sz bytes (.slice e own) (y.eval A.aX T) with
  | none=>simp[bX]
  | some z=>simp[bX,AS.cR,AS.cc]
 | lsl g e =>
  simp only[axt,cond_false];cases dN sz (y.eval A.aX T)<;>simp[bX]
 | al =>
  simp only[cond_false];cases aC b sz bytes (.slice [] true) (y.eval A.aX T) with
  | none=>simp[bX]
  | some z=>simp[bX,AS.cR,AS.cc]
 | _=>simp[bX]
def ahq{b:Bool}{sz bytes i:Nat}{y:AV} : YC A b sz bytes i .al y t os T H lo gen K=bX (aC b sz bytes (.slice [] true) y) fun z=>WO A os ⟨T.put t z,H,lo,gen⟩ K:=rfl
def aho{b:Bool}{sz bytes i:Nat}{e:List (List AV)}{own:Bool}{y:AV} : YC A b sz bytes i (.slice e own) y t os T H lo gen K=bX (aC b sz bytes (.slice e own) y) fun z=>WO A os ⟨(T.put i (.slice e false)).put t z,H,lo,gen⟩ K:=rfl
def abl{dst:Option Nat}{sz:Nat}{a v:aI} : WO A (⟨dst,none,.store sz a v⟩ :: os) ⟨T,H,lo,gen⟩ K=bX (bS A.aX (ai A) ⟨T,H,lo,gen⟩ ⟨dst,none,.store sz a v⟩) fun s'=>WO A os s' K:=fG
def abb{dst:Option Nat}{agg:Bool}{sz:Nat}{x:aI} : WO A (⟨dst,none,.load true agg sz x⟩ :: os) ⟨T,H,lo,gen⟩ K=bX (bS A.aX (ai A) ⟨T,H,lo,gen⟩ ⟨dst,none,.load true agg sz x⟩) fun s'=>WO A os s' K:=fG
def Oz{dst:Option Nat}{x:aI} : WO A (⟨dst,none,.nilCheck x⟩ :: os) ⟨T,H,lo,gen⟩ K=bX (bS A.aX (ai A) ⟨T,H,lo,gen⟩ ⟨dst,none,.nilCheck x⟩) fun s'=>WO A os s' K:=fG
def W5{dst:Option Nat}{f:Fn}{a b:List aI} : WO A (⟨dst,none,.mkfunc f a b⟩ :: os) ⟨T,H,lo,gen⟩ K=bX (bS A.aX (ai A) ⟨T,H,lo,gen⟩ ⟨dst,none,.mkfunc f a b⟩) fun s'=>WO A os s' K:=fG
end
def aaS{G:Nat->List AV}{T:az}{v:AV} : aI.addr G T (.yn v)=v:=rfl
def aaT{G:Nat->List AV}{T:az}{g:Nat} : aI.addr G T (.aX g)=.eptr (G g):=rfl
def spK(sz:Nat)(es:List (List AV))(i:Nat)(o:Option (List AV))(r:List (Nat × AV)):Option (List (List AV)):=match o with
 | none=>none
 | some cs=>cond (Nat.blt i es.length) (cC sz (es.set i cs) r) none
def amY{sz:Nat}{es:List (List AV)} : cC sz es []=some es:=rfl
def amW{sz i:Nat}{es:List (List AV)}{v:AV}{r:List (Nat × AV)} : cC sz es ((i,v) :: r)=spK sz es i (v.elem sz) r:=by
 simp only[cC,spK];cases v.elem sz<;>rfl
def amX{sz i:Nat}{es:List (List AV)}{cs:List AV}{r:List (Nat × AV)} : spK sz es i (some cs) r=cond (Nat.blt i es.length) (cC sz (es.set i cs) r) none:=rfl
def aa0{sz:Nat}{cs:List AV} : AV.elem sz (.agg cs)=cond (Nat.beq (cs.map AV.drop).length sz&&(cs.map AV.drop).all AV.plain) (some (cs.map AV.drop)) none:=rfl
def aa1{k:IntKind}{n:Int} : AV.elem 1 (.int k n)=some [.int k n]:=rfl
def aa2{l:List UInt8} : AV.elem 1 (.str l)=some [.str l]:=rfl
def bpK(cells:List AV)(off sz:Nat)(o:Option (List AV))(r:List (Nat × Nat × AV)):Option (List AV):=match o with
 | none=>none
 | some cs=>cond (Nat.beq cs.length sz&&Nat.ble (off+cs.length) cells.length) (dW (putAt cells off (cs.map AV.drop)) r) none
def amA{cells:List AV} : dW cells []=some cells:=rfl
def amy{cells:List AV}{off sz:Nat}{v:AV}{r:List (Nat × Nat × AV)} : dW cells ((off,sz,v) :: r)=bpK cells off sz v.cells r:=by
 simp only[dW,bpK];cases v.cells<;>rfl
def amz{cells cs:List AV}{off sz:Nat}{r:List (Nat × Nat × AV)} : bpK cells off sz (some cs) r=cond (Nat.beq cs.length sz&&Nat.ble (off+cs.length) cells.length) (dW (putAt cells off (cs.map AV.drop)) r) none:=rfl
def nbA:AV->Bool
 | .int .u8 _=>false
 | .any=>false
 | _=>true
def Tb:List AV->Bool
 | []=>true
 | x :: r=>nbA x&&Tb r
def nb:List (List AV)->Bool
 | []=>true
 | r :: e=>Tb r&&nb e
def Wy:∀ r:List AV,(r.all fun|.int .u8 _=>false|.any=>false|_=>true)=Tb r
 | []=>rfl
 | x :: r=>by
  rw[List.all_cons,Tb,<- Wy r]
  congr 1
def D2:∀ e:List (List AV),nB e=nb e
 | []=>rfl
 | r :: e=>by
  have:=D2 e
  simp only[nB] at this;simp only[nB,List.all_cons,nb,this];rw[<- Wy];rfl
def W9{E:List (List AV)} : mK false E=nb E:=by simp only[mK,cond_false,D2]
def aq8{E:List (List AV)} : nB E=nb E:=D2 E
def amT:nb []=true:=rfl
def amU{r:List AV}{e:List (List AV)} : nb (r :: e)=(Tb r&&nb e):=rfl
theorem W7:Tb []=true:=rfl
theorem W8{x:AV}{r:List AV} : Tb (x :: r)=(nbA x&&Tb r):=rfl
theorem adS{n:Int} : nbA (.int .i64 n)=true:=rfl
theorem adU{l:List UInt8} : nbA (.str l)=true:=rfl
theorem adT{e:List (List AV)}{o:Bool} : nbA (.slice e o)=true:=rfl
def AR{E:List (List AV)}(h:∀ r∈E,Tb r=true):nb E=true:=by
 induction E with
 | nil=>rfl
 | cons r E ih=>rw[nb,h r (List.mem_cons_self ..),ih fun r hr=>h r (ax8 _ hr)];rfl
def Hn:∀ {e f:List (List AV)},nb (e++f)=(nb e&&nb f)
 | [],f=>by simp[nb]
 | r :: e,f=>by simp only[axN,nb,Hn,Bool.and_assoc]
def wO(sz:Nat)(e:List (List AV)):Prop:=(∀ r∈e,r.length=sz)/\nb e=true
def AE(h:∀ r∈e,r.length=sz):fZ sz e=true:=by
 cases e with
 | nil=>rfl
 | cons r e=>simp[fZ,h r (List.mem_cons_self ..)]
theorem xw{o:Bool}(h1:wO sz e)(h2:wO sz f)(hb:(e.length+f.length)*bytes<=70368744177664)(hl:e.length+f.length<=70368744177664) :
  aC false sz bytes (.slice e true) (.slice f o)=some (.slice (e++f) true):=by
 simp only[aC,dN,aw7];cases f with
 | nil=>simp
 | cons r f =>
  have hr:mK false (e++r :: f)=true:=by rw[W9,Hn,h1.2,h2.2];rfl
  have hf:cn sz bytes e (r :: f)=true:=by
   simp only[cn,AE h1.1,AE h2.1,axH hb,axH hl,Bool.and_self]
  simp only[hr,hf,Bool.and_self,cond_true]
def O0{b:Bool}{o o':Bool} : aC b sz bytes (.slice e o) (.slice [] o')=some (.slice e o):=rfl
def N2(v:AV)(g:Nat):Option AV:=match v with
 | .lsl g' e=>cond (Nat.beq g g') (cond (nB e) (some (.slice e true)) none) none
 | _=>none
def SH(T:az)(t:Nat)(v:AV):Option AV:=match v with
 | .lsl _ e=>cond (nB e) (some (.slice e true)) none
 | .lsr b g=>N2 (T b) g
 | .lbox ..|.lref ..|.eref ..|.iter ..=>none
 | v=>some v
def ajS(base lo:Nat)(H:aa)(o:Option AV):Option (AV × Option fw):=o.bind fun r=>cond (r.leaves base) (some (r,cond (Nat.beq lo base) none (some ⟨H.take base,lo⟩))) none
def OA(o:Option bG)(agg:Bool)(sz:Nat):Option AV:=match o with
 | some (.box _ cs)=>ah false agg sz 0 cs
 | _=>none
def Xc(v:AV)(H:aa)(agg:Bool)(sz:Nat):Option AV:=match v with
 | .lbox _ cs=>ah false agg sz 0 cs
 | .ref loc 0=>OA H[loc]? agg sz
 | _=>none
def acy(o:Option AV)(l:Option (List AV)):Option (List AV):=o.bind fun v=>l.map (v.cU :: ·)
section
variable {T:az}{H:aa}{lo gen base t:Nat}{rs:List gN}
def mc(base lo:Nat)(H:aa):Bool:=cond (Nat.beq lo base) true (((H.take base).drop lo).all fun o=>match o with|.bR cs=>cs.all (AV.bp base)|_=>true)
def abf{n:Nat}{H:aa} : mc n n H=true:=by simp[mc]
def amI:fin base rs ⟨T,H,lo,gen⟩=cond (mc base lo H) (ajS base lo H (mJ ⟨T,H,lo,gen⟩ rs)) none:=rfl
def ahA{v:AV} : ajS base lo H (some v)=cond (v.leaves base) (some (v,cond (Nat.beq lo base) none (some ⟨H.take base,lo⟩))) none:=rfl
def ahK:mJ ⟨T,H,lo,gen⟩ [.tmp t]=SH T t (T t):=by
 simp only[mJ,oR,SH];cases hT:T t with
 | lsl g e=>simp only[hT]
 | lsr b g =>
  cases hb:T b with
  | lsl g' e =>
   simp only[hb,N2];cases Nat.beq g g' with
   | false=>simp only[cond_false,iP,hT];rfl
   | true=>simp only[cond_true,hb]
  | _=>simp only[hb,N2,iP,hT];rfl
 | _=>simp only[iP,hT];rfl
def abi{a sz:Nat}{agg:Bool} : mJ ⟨T,H,lo,gen⟩ [.cell a agg sz]=iP ⟨T,H,lo,gen⟩ (.cell a agg sz):=rfl
def ahJ:mJ ⟨T,H,lo,gen⟩ []=some (.tuple []):=rfl
def ahL{r1 r2:gN}{rs:List gN} : mJ ⟨T,H,lo,gen⟩ (r1 :: r2 :: rs)=(lS ⟨T,H,lo,gen⟩ (r1 :: r2 :: rs)).map .tuple:=rfl
def ahN:lS ⟨T,H,lo,gen⟩ []=some []:=rfl
def ahO{r:gN}{rs:List gN} : lS ⟨T,H,lo,gen⟩ (r :: rs)=acy (iP ⟨T,H,lo,gen⟩ r) (lS ⟨T,H,lo,gen⟩ rs):=rfl
def aaZ{v:AV}{l:List AV} : acy (some v) (some l)=some (v.cU :: l):=rfl
def ahP:iP ⟨T,H,lo,gen⟩ (.tmp t)=cond (aO (T t)) (some (T t)) none:=rfl
def ahM{a sz:Nat}{agg:Bool} : iP ⟨T,H,lo,gen⟩ (.cell a agg sz)=Xc (T a) H agg sz:=by
 simp only[iP,Xc];cases T a with
 | ref loc off =>
  cases off with
  | zero=>cases hl:H[loc]? with
   | none=>simp only[hl,OA]
   | some o=>cases o<;>simp only[hl,OA]
  | succ n=>rfl
 | _=>rfl
def abj{g sz:Nat}{cs:List AV}{agg:Bool} : Xc (.lbox g cs) H agg sz=ah false agg sz 0 cs:=rfl
def abt{b:Bool} : SH T t (AV.bool b)=some (AV.bool b):=rfl
def ahV{k:IntKind}{n:Int} : SH T t (AV.int k n)=some (AV.int k n):=rfl
def ahW{l:List UInt8} : SH T t (AV.str l)=some (AV.str l):=rfl
def Xo{e:List (List AV)}{own:Bool} : SH T t (AV.slice e own)=some (AV.slice e own):=rfl
end
def Ya(A:AP)(sz bytes:Nat)(x y:AV)(t:Nat)(os:List aQ)(T:az)(H:aa)(lo gen:Nat)(K:AS->Prop):Prop :=
 bX (jv ⟨T,H,lo,gen⟩ sz bytes x y) fun r=>match r.2 with
  | some s'=>WO A os (s'.cc t r.1) K
  | none=>WO A os ⟨T.put t r.1,H,lo,gen⟩ K
def V3(k:AV)(kz:Nat)(ka:Bool):Option (List AV):=k.drop.cells.bind fun kc=>cond (Nat.beq kc.length kz&&ka==k.drop.isAgg) (some kc) none
def zy(H:aa)(ok:Bool)(kz:Nat)(ka va:Bool)(ks:List CK)(zero:List AV)(m k:AV):Option AV :=
 (V3 k kz ka).bind fun kc=>match m with
  | .ke=>some (BI ok va zero false)
  | .mA qw qv qy es=>cond (Nat.beq kz qw&&ka==qv&&va==qy&&uJ es&&VZ ks kc) ((dC ks kc es).map (qc ok va zero kz es)) none
  | .iW qw qv qy es=>cond (Nat.beq kz qw&&ka==qv&&va==qy) ((dC ks kc es).map (qc ok va zero kz es)) none
  | .mref l=>match H[l]? with
   | some (.map qw qv qy es)=>cond (Nat.beq kz qw&&ka==qv&&va==qy) ((dC ks kc es).map (qc ok va zero kz es)) none
   | some (.iW qw qv qy es)=>cond (Nat.beq kz qw&&ka==qv&&va==qy) ((dC ks kc es).map (qc ok va zero kz es)) none
   | _=>none
  | _=>none
section
variable {A:AP}{T:az}{H:aa}{lo gen:Nat}{K:AS->Prop}{os:List aQ}{t:Nat}
def vy{x:Option (AV × Option AS)}(h:br A.aX (ai A) ⟨T,H,lo,gen⟩ op=x):WO A (⟨some t,none,op⟩ :: os) ⟨T,H,lo,gen⟩ K=bX x fun r=>match r.2 with
  | some s'=>WO A os (s'.cc t r.1) K
  | none=>WO A os ⟨T.put t r.1,H,lo,gen⟩ K:=by
 rw[fG];simp only[bS,h];cases x with
 | none=>simp[bX]
 | some r =>
  obtain⟨z,s'⟩:=r;cases s' with
  | none=>simp only[aw7,axt,cond_false,aS];rfl
  | some s'=>simp only[aw7,cond_false,aS];rfl
def ahr{sz bytes:Nat}{x y:aI} : WO A (⟨some t,none,.appendO sz bytes x y⟩ :: os) ⟨T,H,lo,gen⟩ K=Ya A sz bytes (x.addr A.aX T) (y.eval A.aX T) t os T H lo gen K:=vy rfl
def aeg{r:List AV}(h1:cn sz bytes [] (r :: f)=true)(h2:dG (r :: f)=true) :
  Ya A sz bytes .al (.slice (r :: f) own) t os T H lo gen K=WO A os ⟨T.put t (.sref H.length 0 (f.length+1) sz),H++[.box bz (r :: f).flatten],cond (Nat.blt H.length lo) H.length lo,gen⟩ K:=by
 simp only[Ya,jv,Hp,jP,dN,aw7,azs,ayb,axF,h1,h2,cond_true,aS,List.length_cons];rfl
def OY{n l:Nat}{ty:TypeId}{cs:List AV}(hl:H[l]?=some (.box ty cs))(hc:cs.length=n*sz)(h1:(n+f.length)*bytes<=70368744177664)(h2:n+f.length<=70368744177664)
  (h3:fZ sz f=true) (h4:dG f=true) :
  Ya A sz bytes (.sref l 0 n sz) (.slice f own) t os T H lo gen K=WO A os ⟨T.put t (.sref H.length 0 (n+f.length) sz),H.set l .dead++[.box bz (cs++f.flatten)],cond (Nat.blt l lo) l lo,gen⟩ K:=by
 have e1:Nat.beq cs.length (n*sz)=true:=by rw[hc];exact ayP _
 simp only[Ya,jv,Hp,jP,dN,aw7,hl,e1,h3,h4,ayP,axX,axH h1,axH h2,cond_true,aS];rfl
def abc{kz:Nat}{ka va:Bool} : WO A (⟨some t,none,.Lv kz ka va⟩ :: os) ⟨T,H,lo,gen⟩ K=WO A os ⟨T.put t (.mref H.length),H++[.map kz ka va []],cond (Nat.blt H.length lo) H.length lo,gen⟩ K:=by
 rw[vy rfl];simp only[br,aS];rfl
def ahF{ok:Bool}{kz:Nat}{ka va:Bool}{ks:List CK}{zero:List AV}{m k:aI} : WO A (⟨some t,none,.look ok kz ka va ks zero m k⟩ :: os) ⟨T,H,lo,gen⟩ K=jC A (zy H ok kz ka va ks zero (m.addr A.aX T) (k.eval A.aX T)) t os T H lo gen K:=by
 refine gJ ?_;simp only[br,xF,zy,V3];cases (k.eval A.aX T).drop.cells with
 | none=>rfl
 | some kc =>
  simp only[aw7];cases (Nat.beq kc.length kz&&ka==(k.eval A.aX T).drop.isAgg) with
  | false=>rfl
  | true =>
   simp only[cond_true,aw7];cases m.addr A.aX T with
   | ke=>rfl
   | mA qw qv qy es =>
    simp only[];cases (Nat.beq kz qw&&ka==qv&&va==qy&&uJ es&&VZ ks kc) with
    | false=>rfl
    | true=>simp only[cond_true,ayZ];rfl
   | iW qw qv qy es =>
    simp only[zD];cases (Nat.beq kz qw&&ka==qv&&va==qy) with
    | false=>rfl
    | true=>simp only[cond_true,aw7,ayZ];rfl
   | mref l =>
    simp only[zD];cases hl:H[l]? with
    | none=>rfl
    | some o =>
     cases o with
     | map qw qv qy es =>
      simp only[];cases (Nat.beq kz qw&&ka==qv&&va==qy) with
      | false=>rfl
      | true=>simp only[cond_true,aw7,ayZ];rfl
     | iW qw qv qy es =>
      simp only[];cases (Nat.beq kz qw&&ka==qv&&va==qy) with
      | false=>rfl
      | true=>simp only[cond_true,aw7,ayZ];rfl
     | _=>simp only[];rfl
   | _=>rfl
def ahH{kz vz:Nat}{ka va:Bool}{ks:List CK}{m k v:aI} : WO A (⟨none,none,.N5 kz ka va vz ks m k v⟩ :: os) ⟨T,H,lo,gen⟩ K =
  bX (tu ⟨T,H,lo,gen⟩ kz ka va vz ks (m.addr A.aX T) (k.eval A.aX T) (v.eval A.aX T)) fun s'=>WO A os (s'.cN v) K:=by
 rw[fG];simp only[bS,br];cases tu ⟨T,H,lo,gen⟩ kz ka va vz ks (m.addr A.aX T) (k.eval A.aX T) (v.eval A.aX T) with
 | none=>simp[bX]
 | some s'=>simp only[axa,aw7,cond_false,aS];rfl
end
end
end Go.Abs
namespace Go.Abs
open Go
variable {m:List (List UInt8)}{i:Nat}
section
abbrev CU(n:Int):Prop:=-9223372036854775808<=n/\n<=9223372036854775807
def wrap64{n:Int}(h:-9223372036854775808<=n/\n<=9223372036854775807):IntKind.i64.wrap n=n:=by
 exact IntWalk.i64_in _ h
def XZ{n:Int}(h:0<=n/\n<=255):IntKind.u8.wrap n=n:=IntWalk.u8_in _ h
def Ap{k:IntKind}{n:Nat} : asNat (.int k n)=some n:=by simp[asNat]
def QW{k:IntKind}{n:Nat} : asNat (.int k (no_index (@OfNat.ofNat Int n instOfNat)))=some n:=by
 show asNat (.int k ((n:Nat):Int))=some n
 exact Ap
def QV{k:IntKind}{a n:Nat} : asNat (.int k ((a:Int)+no_index (@OfNat.ofNat Int n instOfNat)))=some (a+n):=by
 show asNat (.int k ((a:Int)+((n:Nat):Int)))=some (a+n)
 rw[<- Int.natCast_add];exact Ap
def gf{k:IntKind}{n:Int}(h:0<=n):asNat (.int k n)=some n.toNat:=by simp[asNat,h]
def O9{a b:Nat} : Nat.ble a b=decide (a<=b):=by
 cases h:Nat.ble a b with
 | true=>simp[ax5 h]
 | false=>simp[show ¬ a<=b from fun e=>by rw[axH e] at h;cases h]
def YN{a b:Nat} : Nat.blt a b=decide (a<b):=by
 show Nat.ble (a+1) b=_
 rw[O9];rfl
def dle{a b:Nat}(h:a<=b):decide (a<=b)=true:=by simp[h]
def dlt{a b:Nat}(h:a<b):decide (a<b)=true:=by simp[h]
def zd{a b:Int}(h:a<b):decide (a<b)=true:=by simp[h]
def zc{a b:Int}(h:b<=a):decide (a<b)=false:=df
def zb{a b:Int}(h:a<=b):decide (a<=b)=true:=by simp[h]
def za{a b:Int}(h:b<a):decide (a<=b)=false:=df
def y9{a b:Int}(h:a=b):(a==b)=true:=by simp[h]
def y8{a b:Int}(h:a≠b):(a==b)=false:=by simp[h]
def zg{a b:Int}(h:a≠b):(a != b)=true:=by simp[h]
def zf{a b:Int}(h:a=b):(a != b)=false:=by simp[h]
def ag5{a b:Nat}(h:a≠b):Nat.beq a b=false:=by
 cases hb:Nat.beq a b with
 | false=>rfl
 | true=>exact absurd (ax4 hb) h
def ints(l:List Int):List (List AV):=l.map fun n=>[.int .i64 n]
def strs(l:List (List UInt8)):List (List AV):=l.map fun n=>[.str n]
def p7{l:List Int} : (ints l).length=l.length:=by simp[ints]
def bu{l:List (List UInt8)} : (strs l).length=l.length:=by simp[strs]
def ints_at{l:List Int}{n:Int}(h:l[i]?=some n):(ints l)[i]?=some [.int .i64 n]:=by simp[ints,h]
def gY{l:List (List UInt8)}{n:List UInt8}(h:l[i]?=some n):(strs l)[i]?=some [.str n]:=by simp[strs,h]
def VE{l:List Int} : (ints l)[i]?=l[i]?.map fun n=>[.int .i64 n]:=by simp[ints]
def qH:∀ {l:List (List UInt8)} {n:Nat},n=l.length->chunks 1 n (l.map .str)=strs l
 | [],0,_=>rfl
 | a :: l,n+1,h=>by
  simp only[axe,chunks,strs,axJ,axQ,ayH,List.drop_zero];rw[qH (cJ h)];rfl
def SP{l:List (List UInt8)}{n:Nat}(h:l.length<=n):(strs l).take n=strs l:=axy (by rw[bu];exact h)
def G8{l:List Int} : wO 1 (ints l):=⟨fun r hr=>by simp only[ints,List.mem_map] at hr;obtain⟨n,_,rfl⟩:=hr;rfl,AR fun r hr=>by simp only[ints,List.mem_map] at hr;obtain⟨n,_,rfl⟩:=hr;rfl⟩
def A7{l:List (List UInt8)} : wO 1 (strs l):=⟨fun r hr=>by simp only[strs,List.mem_map] at hr;obtain⟨n,_,rfl⟩:=hr;rfl,AR fun r hr=>by simp only[strs,List.mem_map] at hr;obtain⟨n,_,rfl⟩:=hr;rfl⟩
def mh:strs []=[]:=rfl
def abN{l:List (List UInt8)} : nb (strs l)=true:=A7.2
def La{l m:List Int} : ints l++ints m=ints (l++m):=by simp[ints]
def Mg{l:List (List UInt8)} : strs l++strs m=strs (l++m):=by simp[strs]
def J4{l m:List Int}{o:Bool}(h:l.length+m.length<=1099511627776):aC false 1 8 (.slice (ints l) true) (.slice (ints m) o)=some (.slice (ints (l++m)) true):=by
 rw[xw G8 G8 (by rw[p7,p7];omega) (by rw[p7,p7];omega),La]
def TC{n:Int}{o:Bool} : aC false 1 8 (.slice [] true) (.slice [[.int .i64 n]] o)=some (.slice (ints [n]) true):=J4 (l:=[]) (m:=[n]) ae
def ca{l:List (List UInt8)}{o:Bool}(h:l.length+m.length<=1099511627776):aC false 1 16 (.slice (strs l) true) (.slice (strs m) o)=some (.slice (strs (l++m)) true):=by
 rw[xw A7 A7 (by rw[bu,bu];omega) (by rw[bu,bu];omega),Mg]
theorem fM{l:List (List UInt8)}{n:List UInt8}{o:Bool}(h:l.length<=1099511627775):aC false 1 16 (.slice (strs l) true) (.slice [[.str n]] o)=some (.slice (strs (l++[n])) true):=ca (m:=[n]) df
def TE{n:List UInt8}{o:Bool} : aC false 1 16 (.slice [] true) (.slice [[.str n]] o)=some (.slice (strs [n]) true):=ca (l:=[]) (m:=[n]) ae
def afH{H l m:aa} : H++l++m=H++(l++m):=axf ..
def afI{H l:aa} : List.length (H++l)=H.length+l.length:=List.length_append
def Vm{H l:aa}{k:Nat} : (H++l)[H.length+k]?=l[k]?:=by rw[List.getElem?_append_right af];simp
def ZL{H l:aa} : (H++l)[H.length]?=l[0]?:=Vm (k:=0)
def Vn{H l:aa}{k:Nat}{x:bG} : (H++l).set (H.length+k) x=H++l.set k x:=by rw[List.set_append_right _ _ af];simp
def ZM{H l:aa}{x:bG} : (H++l).set H.length x=H++l.set 0 x:=Vn (k:=0)
def ZN{H l:aa} : (H++l).take H.length=H:=ae
def akS{n k:Nat} : decide (n+k<n)=false:=ae
def afJ{n:Nat} : decide (n<n)=false:=ae
def TU(A:AP)(ty:TypeId)(v:AV)(t:Nat)(os:List aQ)(T:az)(H:aa)(lo gen:Nat)(K:AS->Prop):Prop :=
 bX (v.drop.cells.bind fun cs=>cond (cs.all (aV H.length)) (some (cs.map AV.drop)) none) fun cs=>WO A os ⟨T.put t (.ref H.length 0),H++[.box ty cs],cond (Nat.blt H.length lo) H.length lo,gen⟩ K
section
variable {A:AP}{T:az}{H:aa}{lo gen:Nat}{K:AS->Prop}{os:List aQ}{t:Nat}
def aht{ty:TypeId}{x:aI} : WO A (⟨some t,none,.box ty x⟩ :: os) ⟨T,H,lo,gen⟩ K=TU A ty (x.eval A.aX T) t os T H lo gen K:=by
 rw[vy rfl];simp only[br,TU];cases (x.eval A.aX T).drop.cells with
 | none=>simp[bX]
 | some cs =>
  simp only[aw7];cases cs.all (aV H.length) with
  | false=>simp[bX]
  | true=>simp only[cond_true,aS];rfl
def aes{ty:TypeId}{cs:List AV} : TU A ty (.agg cs) t os T H lo gen K=bX (cond (cs.all (aV H.length)) (some (cs.map AV.drop)) none) fun cs=>WO A os ⟨T.put t (.ref H.length 0),H++[.box ty cs],cond (Nat.blt H.length lo) H.length lo,gen⟩ K:=rfl
end
def afc{n:Nat}{k:IntKind}{m:Int} : aV n (.int k m)=true:=rfl
def Zx{n:Nat}{b:Bool} : aV n (.bool b)=true:=rfl
def afd{n:Nat}{s:List UInt8} : aV n (.str s)=true:=rfl
def U4{n:Nat}{e:List (List AV)}{o:Bool} : aV n (.slice e o)=true:=rfl
def zS{a b:Int}(h:0<=a):a.tdiv b=a / b:=ay5 h
def jV{a b:Int}(h:0<=a):a.tmod b=a % b:=axU h
def Kc(A:AP)(v:AV)(w:Bool)(p:Bool)(os:List aQ)(T:az)(H:aa)(lo gen:Nat)(K:AS->Prop):Prop :=
 bX (match v with|.bool b=>some (b==w)|.tuple []=>some false|_=>none) fun b=>(b=true->p=true)/\WO A os ⟨T,H,lo,gen⟩ K
def Pa(A:AP)(v:AV)(t:Nat)(os:List aQ)(T:az)(H:aa)(lo gen:Nat)(K:AS->Prop):Prop :=
 bX v.drop.cells fun cs=>WO A os ⟨T.put t (.lbox gen (cs.map AV.drop)),H,lo,gen+1⟩ K
def Ig(A:AP)(r:Option (AV × Option fw))(t:Nat)(os:List aQ)(T:az)(H:aa)(lo gen:Nat)(K:AS->Prop):Prop :=
 bX (r.bind fun r=>match r.2 with
  | none=>some r.1
  | some _=>none) fun v=>WO A os ⟨T.put t v,H,lo,gen⟩ K
section
variable {A:AP}{T:az}{H:aa}{lo gen:Nat}{K:AS->Prop}{os:List aQ}{t:Nat}
def amD{c:S0}{x:aI} : WO A (⟨none,none,.chk c x⟩ :: os) ⟨T,H,lo,gen⟩ K=(fY c (x.addr A.aX T)=true/\WO A os ⟨T,H,lo,gen⟩ K):=by
 rw[fG];simp only[bS,br];refine propext ?_;cases fY c (x.addr A.aX T) with
 | false=>simp[bX]
 | true=>simp[bX,dY,AS.cR]
def ahx{g:Nat}{w:Bool}{c:S0}{x:aI} : WO A (⟨none,some (g,w),.chk c x⟩ :: os) ⟨T,H,lo,gen⟩ K=Kc A (T g) w (fY c (x.addr A.aX T)) os T H lo gen K:=by
 rw[fG];simp only[Kc];unfold bS;simp only[br];cases hT:T g with
 | bool b =>
  cases hb:(b==w) with
  | true =>
   refine propext ?_;cases fY c (x.addr A.aX T) with
   | false=>simp[hb,bX]
   | true=>simp[hb,bX,dY,AS.cR]
  | false=>simp[hb,bX,AS.cR]
 | tuple l =>
  cases l with
  | nil=>simp[bX,AS.cR]
  | cons a l=>simp[bX]
 | _=>simp[bX]
def amE{p:Bool} : Kc A (.bool true) false p os T H lo gen K=WO A os ⟨T,H,lo,gen⟩ K:=by simp[Kc,aS]
def amC{p:Bool} : Kc A (.bool false) true p os T H lo gen K=WO A os ⟨T,H,lo,gen⟩ K:=by simp[Kc,aS]
def ahw{b w:Bool} : Kc A (.bool b) w true os T H lo gen K=WO A os ⟨T,H,lo,gen⟩ K:=by simp[Kc,aS]
def ahu{x:aI} : WO A (⟨some t,none,.boxL x⟩ :: os) ⟨T,H,lo,gen⟩ K=Pa A (x.eval A.aX T) t os T H lo gen K:=by
 rw[vy rfl];simp only[br,Pa];cases (x.eval A.aX T).drop.cells with
 | none=>simp[bX]
 | some cs=>simp only[axa,aS];rfl
def aer{cs:List AV} : Pa A (.agg cs) t os T H lo gen K=WO A os ⟨T.put t (.lbox gen (cs.map AV.drop)),H,lo,gen+1⟩ K:=by
 simp only[Pa,AV.drop,AV.cells];exact aS
def aaX{f:FuncId}{args:List aI} : WO A (⟨some t,none,.Da (.fn f) args⟩ :: os) ⟨T,H,lo,gen⟩ K=(jN A.aX T args=true/\Ig A (ai A f (ni A.aX T args) H) t os T H lo gen K):=by
 rw[fG];simp only[bS,br,aI.eval,vD,yB,Ig,axM,List.append_nil];refine propext ?_;cases jN A.aX T args with
 | false=>simp[bX]
 | true =>
  simp only[cond_true,ayV];cases ai A f (ni A.aX T args) H with
  | none=>simp[bX]
  | some r =>
   obtain⟨v,c⟩:=r;cases c with
   | none=>simp only[aw7];simp[bX,AS.cR,AS.cc]
   | some c=>simp[bX]
def ahQ{v:AV} : Ig A (some (v,none)) t os T H lo gen K=WO A os ⟨T.put t v,H,lo,gen⟩ K:=by
 simp[Ig,aS]
def abd{sz:Nat}{z:List (List AV)}{ps:List (Nat × aI)} : WO A (⟨some t,none,.zE sz z ps⟩ :: os) ⟨T,H,lo,gen⟩ K =
  bX ((cC sz z (kM A.aX T ps)).bind fun E=>cond (dG E) (some E) none) fun E=>WO A os ⟨T.put t (.sref H.length 0 E.length sz),H++[.box bz E.flatten],cond (Nat.blt H.length lo) H.length lo,gen⟩ K:=by
 rw[vy rfl];simp only[br,Ax];cases cC sz z (kM A.aX T ps) with
 | none=>simp[bX]
 | some E =>
  simp only[aw7];cases dG E with
  | false=>simp[bX]
  | true=>simp only[cond_true,aS];rfl
end
section
variable {b g o l n z:Nat}{e:List (List AV)}{own:Bool}{cs:List AV}{s:List UInt8}
def ajy{b' : Nat} : fY (.frame b) (.lref b' g o)=Nat.beq b b':=rfl
def ajB:fY .heap (.ref l o)=true:=rfl
def ajA:fY .heap (.eptr cs)=true:=rfl
def ajC:fY .heap (.slice e own)=true:=rfl
def ajz:fY .heap (.sref l o n z)=true:=rfl
def ajD:fY .heap (.str s)=true:=rfl
end
section
variable {A:AP}{T:az}{H:aa}{lo gen:Nat}{K:AS->Prop}{os:List aQ}{t:Nat}
end
def OZ(A:AP)(sz bytes i:Nat)(v y:AV)(t:Nat)(os:List aQ)(T:az)(H:aa)(lo gen:Nat)(K:AS->Prop):Prop:=match v with
 | .al=>bX ((dN sz y).bind fun f=>cond (cn sz bytes [] f) (some f) none) fun f=>WO A os ⟨(T.put i .any).put t (.lsl gen f),H,lo,gen+1⟩ K
 | .slice e own=>bX ((dN sz y).bind fun f=>cond (e.isEmpty&&own&&cn sz bytes [] f) (some f) none) fun f=>WO A os ⟨(T.put i .any).put t (.lsl gen f),H,lo,gen+1⟩ K
 | .lsl _ e=>bX ((dN sz y).bind fun f=>cond (cn sz bytes e f) (some (e++f)) none) fun f=>WO A os ⟨(T.put i .any).put t (.lsl gen f),H,lo,gen+1⟩ K
 | _=>False
section
variable {A:AP}{T:az}{H:aa}{lo gen:Nat}{K:AS->Prop}{os:List aQ}{t:Nat}
def ahp{b:Bool}{sz bytes i:Nat}{y:aI} : WO A (⟨some t,none,.append b true sz bytes (.tmp i) y⟩ :: os) ⟨T,H,lo,gen⟩ K=OZ A sz bytes i (T i) (y.eval A.aX T) t os T H lo gen K:=by
 rw[fG];simp only[bS,br,fO,OZ];cases hT:T i with
 | al =>
  simp only[cond_true];cases dN sz (y.eval A.aX T) with
  | none=>simp[bX]
  | some f=>simp only[aw7];cases cn sz bytes [] f<;>simp[bX,AS.cR,AS.cc]
 | lsl g e =>
  simp only[axF];cases dN sz (y.eval A.aX T) with
  | none=>simp[bX]
  | some f=>simp only[aw7];cases cn sz bytes e f<;>simp[bX,AS.cR,AS.cc]
 | slice e own =>
  simp only[cond_true];cases dN sz (y.eval A.aX T) with
  | none=>simp[bX]
  | some f=>simp only[aw7];cases (e.isEmpty&&own&&cn sz bytes [] f)<;>simp[bX,AS.cR,AS.cc]
 | _=>simp[bX]
def aei{sz bytes i:Nat}{e:List (List AV)}{own:Bool} : OZ A sz bytes i .al (.slice e own) t os T H lo gen K=bX (cond (cn sz bytes [] e) (some e) none) fun f=>WO A os ⟨(T.put i .any).put t (.lsl gen f),H,lo,gen+1⟩ K:=rfl
def aeh{sz bytes i g:Nat}{e f:List (List AV)}{own:Bool} : OZ A sz bytes i (.lsl g e) (.slice f own) t os T H lo gen K=bX (cond (cn sz bytes e f) (some (e++f)) none) fun f=>WO A os ⟨(T.put i .any).put t (.lsl gen f),H,lo,gen+1⟩ K:=rfl
end
section
variable {A:AP}{T:az}{H:aa}{lo gen:Nat}{K:AS->Prop}{os:List aQ}{t:Nat}
def Wo{take obj:Bool}{i:Nat} : oN A take obj i AV.al t os T H lo gen K=WO A os ⟨T.put t AV.al,H,lo,gen⟩ K:=aS
def J0{s:Nat} : mM s AV.al=.al:=rfl
def NZ{T:az} : NY T .sl .al=some (.int .i64 0):=rfl
def F5{base:Nat} : AV.bp base .al=AV.plain .al:=rfl
end
def aG.pre:Nat->aG->aG
 | 0,.seq a _=>a
 | n+1,.seq a b=>.seq a (aG.pre n b)
 | _,c=>c
def aG.post:Nat->aG->aG
 | 0,.seq _ b=>b
 | n+1,.seq _ b=>aG.post n b
 | _,_=>.skip
def iC{A:AP}(n:Nat){c:aG}{s:AS}{Q:bB->AS->Prop}(R:AS->Prop)(h1:W A (c.pre n) s (andThen R Q))(h2:∀ s',R s'->W A (c.post n) s' Q):W A c s Q:=by
 induction n generalizing c s with
 | zero =>
  cases c with
  | seq a b=>exact yu R h1 h2
  | _ =>
   refine uH h1 (fun e s' h=>?_)
   cases e with
   | normal =>
    have:=h2 s' h
    obtain⟨n,e,s'',h3,h4⟩:=this;simp only[aG.post,kF,aw2,aw6] at h3;obtain⟨rfl,rfl⟩:=h3;exact h4
   | _=>exact h
 | succ n ih =>
  cases c with
  | seq a b =>
   simp only[aG.pre,Gw] at h1 ⊢;refine uH h1 (fun e s' h=>?_)
   cases e with
   | normal=>exact ih h h2
   | _=>exact h
  | _ =>
   refine uH h1 (fun e s' h=>?_)
   cases e with
   | normal =>
    have:=h2 s' h
    obtain⟨n,e,s'',h3,h4⟩:=this;simp only[aG.post,kF,aw2,aw6] at h3;obtain⟨rfl,rfl⟩:=h3;exact h4
   | _=>exact h
section
variable {o:Option (List (List AV))}{base:Nat}{A:AP}{T:az}{H:aa}{lo gen:Nat}{K:AS->Prop}{os:List aQ}{t:Nat}
def U3:aV base AV.al=true:=rfl
end
end
end Go.Abs
namespace Go.Abs
variable {z:AV}{agg own:Bool}{el:List (List AV)}{cs r xs:List AV}{b g gen k loc n' off sz:Nat}{S:Nat->Nat->Prop}{tm:Nat->Value}{o:Oper}{i:Operand}{dt e st:TypeId}{w':World}{ix yi:aI}{H:aa}{T:az}
inductive bF where
 | none|outer|ret
 | hb (loc:Nat)
 | hs (loc j:Nat)
 | bx (i:Nat)
 | sl (i:Nat)
 | sc (i j:Nat)
 | par (j:Nat)
 deriving DecidableEq,Inhabited
variable {q:Nat->bF}{p:bF}{touch:bF->Prop}
structure Gh where
 S:Nat->Nat->Prop
 κ:Nat->bF
 ρ:Nat->Nat
variable {a8:Gh}
def uy(agg:Bool)(n:Nat)(f:Nat->Value):Value:=cond agg (.agg ((List.range n).map f).toArray) (f 0)
structure JX (E:Array MapEntry) (ck kz:Nat) (ka va:Bool) (es:List (List AV)) (f:Nat->Nat->Value):Prop where
 size:E.size=es.length
 clk:ck=E.size
 at' : ∀ (i:Nat) (e:MapEntry),E[i]?=some e->e.born=i
 born:∀ (i:Nat) (e:MapEntry),E[i]?=some e->e.born<ck
 apart:∀ (i j:Nat) (e e' : MapEntry),E[i]?=some e->E[j]?=some e'->e.born=e'.born->i=j
 row:∀ (i:Nat) (e:MapEntry) (r:List AV),E[i]?=some e->es[i]?=some r->kz<=r.length/\(ka=false->kz=1)/\(va=false->r.length=kz+1)/\e.key=uy ka kz (f i)/\e.val=uy va (r.length-kz) (fun j=>f i (kz+j))
structure Aj (E:Array MapEntry) (ck kz:Nat) (ka va:Bool) (es:List (List AV)) (f:Nat->Nat->Value):Prop where
 size:E.size=es.length
 born:∀ (i:Nat) (e:MapEntry),E[i]?=some e->e.born<ck
 apart:∀ (i j:Nat) (e e' : MapEntry),E[i]?=some e->E[j]?=some e'->e.born=e'.born->i=j
 row:∀ (i:Nat) (e:MapEntry) (r:List AV),E[i]?=some e->es[i]?=some r->kz<=r.length/\(ka=false->kz=1)/\(va=false->r.length=kz+1)/\e.key=uy ka kz (f i)/\e.val=uy va (r.length-kz) (fun j=>f i (kz+j))
def JX.iter{E:Array MapEntry}{ck kz:Nat}{ka va:Bool}{es:List (List AV)}{f:Nat->Nat->Value}(h:JX E ck kz ka va es f):Aj E ck kz ka va es f:=⟨h.size,h.born,h.apart,h.row⟩
inductive PR (S:Nat->Nat->Prop) (w:World):Value->AV->Prop where
 | bool (b:Bool):PR S w (.bool b) (.bool b)
 | int (k:IntKind) (n:Int):PR S w (.int k n) (.int k n)
 | str (s:ByteArray) (l:List UInt8) (h:s.data.toList=l):PR S w (.string s) (.str l)
 | any (v:Value) (h:v.oneCell'=true):PR S w v .any
 | kX:PR S w (.pointer none) .kX
 | ke:PR S w (.map none) .ke
 | kC:PR S w .nilFunc .kC
 | cM:PR S w .nilIface .cM
 | func (f:Fn):PR S w (.func f #[] #[]) (.func f [] [])
 | iface (t:TypeId) (v:Value) (x:AV) (h:PR S w v x):PR S w (.iface t v) (.iface t x)
 | dr:PR S w (.slice none 0 0) (.slice [] false)
 | al:PR S w (.slice none 0 0) .al
 | slice (b o n cap sz:Nat) (e:List (List AV)) (f:Nat->Nat->Value) (hn:e.length=n) (kQ:n<=cap)
   (bQ:∀ (i:Nat) (r:List AV),e[i]?=some r->r.length=sz)
   (cZ:∀ (i j:Nat) (r:List AV) (x:AV),e[i]?=some r->r[j]?=some x->S b (o+i*sz+j)/\w.cell? ⟨b,o+i*sz+j,none⟩=some (f i j)/\(f i j).oneCell'=true)
   (dh:∀ (i j:Nat) (r:List AV) (x:AV),e[i]?=some r->r[j]?=some x->PR S w (f i j) x) :
   PR S w (.slice (some ⟨b,o,none⟩) n cap) (.slice e false)
 | eptr (b o:Nat) (cs:List AV) (f:Nat->Value)
   (cZ:∀ (j:Nat) (x:AV),cs[j]?=some x->S b (o+j)/\w.cell? ⟨b,o+j,none⟩=some (f j)/\(f j).oneCell'=true)
   (dh:∀ (j:Nat) (x:AV),cs[j]?=some x->PR S w (f j) x) :
   PR S w (.pointer (some ⟨b,o,none⟩)) (.eptr cs)
 | iW (b kz:Nat) (ka va:Bool) (es:List (List AV)) (E:Array MapEntry) (ck:Nat) (f:Nat->Nat->Value) (hS:S b 0) (hb:w.heap[b]?=some (.map E ck)) (hE:JX E ck kz ka va es f)
   (dh:∀ (i j:Nat) (r:List AV) (x:AV),es[i]?=some r->r[j]?=some x->PR S w (f i j) x):PR S w (.map (some b)) (.iW kz ka va es)
 | mA (b kz:Nat) (ka va:Bool) (es uS:List (List AV)) (E:Array MapEntry) (ck:Nat) (f:Nat->Nat->Value) (hS:S b 0) (hb:w.heap[b]?=some (.map E ck)) (hE:Aj E ck kz ka va uS f) (hp:uS.Perm es)
   (dh:∀ (i j:Nat) (r:List AV) (x:AV),uS[i]?=some r->r[j]?=some x->PR S w (f i j) x):PR S w (.map (some b)) (.mA kz ka va es)
def PR.fJ{w:World}{v:Value}{x:AV}(h:PR S w v x):v.oneCell'=true:=by
 cases h<;>first|rfl|assumption
def PR.mono{S':Nat->Nat->Prop}{w:World}(hS:∀ b o,S b o->S' b o)(hc:∀ b o,S b o->w'.cell? ⟨b,o,none⟩=w.cell? ⟨b,o,none⟩)
  (hm:∀ b E ck,S b 0->w.heap[b]?=some (.map E ck)->w'.heap[b]?=some (.map E ck))
  {v:Value} {x:AV} (h:PR S w v x):PR S' w' v x:=by
 induction h with
 | bool b=>exact .bool b
 | int k n=>exact .int k n
 | str s l h=>exact .str s l h
 | any v h=>exact .any v h
 | kX=>exact .kX
 | ke=>exact .ke
 | kC=>exact .kC
 | cM=>exact .cM
 | func f=>exact .func f
 | iface t v x _ ih=>exact .iface t v x ih
 | dr=>exact .dr
 | al=>exact .al
 | slice b o n cap sz e f hn kQ bQ cZ _ ih =>
  exact .slice b o n cap sz e f hn kQ bQ (fun i j r x h1 h2=>by
   obtain⟨a,c,d⟩:=cZ i j r x h1 h2;exact⟨hS _ _ a,(hc _ _ a).trans c,d⟩) ih
 | eptr b o cs f cZ _ ih =>
  exact .eptr b o cs f (fun j x h=>by
   obtain⟨a,c,d⟩:=cZ j x h;exact⟨hS _ _ a,(hc _ _ a).trans c,d⟩) ih
 | iW b kz ka va es E ck f h1 h2 h3 _ ih=>exact .iW b kz ka va es E ck f (hS _ _ h1) (hm _ _ _ h1 h2) h3 ih
 | mA b kz ka va es uS E ck f h1 h2 h3 h4 _ ih=>exact .mA b kz ka va es uS E ck f (hS _ _ h1) (hm _ _ _ h1 h2) h3 h4 ih
def sJ(w:World)(b:Nat)(ty:TypeId)(n:Nat):Prop:=∃ C fr,w.heap[b]?=some (.cells C ty fr)/\C.size=n
inductive VR (gh:Gh) (n:Nat) (w:World):Value->AV->Prop where
 | plain (v:Value) (x:AV) (h:PR gh.S w v x):VR gh n w v x
 | full (a:Option Addr) (k:Nat) (e:List (List AV)) (h:PR gh.S w (.slice a k k) (.slice e false)) (hz:True):VR gh n w (.slice a k k) (.slice e true)
 | ref (loc off:Nat) (h:loc<n):VR gh n w (.pointer (some ⟨gh.ρ loc,off,none⟩)) (.ref loc off)
 | sref (loc off k cap z:Nat) (h:loc<n) (hk:k<=cap) (hz:z≠0->∃ ty,sJ w (gh.ρ loc) ty (off+cap*z)):VR gh n w (.slice (some ⟨gh.ρ loc,off,none⟩) k cap) (.sref loc off k z)
 | mref (loc:Nat) (h:loc<n):VR gh n w (.map (some (gh.ρ loc))) (.mref loc)
 | func (f:Fn) (fs cs:Array Value) (xs ys:List AV) (hf:fs.size=xs.length) (hc:cs.size=ys.length)
   (h1:∀ (j:Nat) (v:Value) (x:AV),fs[j]?=some v->xs[j]?=some x->VR gh n w v x)
   (h2:∀ (j:Nat) (v:Value) (x:AV),cs[j]?=some v->ys[j]?=some x->VR gh n w v x):VR gh n w (.func f fs cs) (.func f xs ys)
 | iface (t:TypeId) (v:Value) (x:AV) (h:VR gh n w v x):VR gh n w (.iface t v) (.iface t x)
 | agg (cs:Array Value) (xs:List AV) (hs:cs.size=xs.length)
   (gV:∀ (j:Nat) (v:Value),cs[j]?=some v->v.oneCell'=true)
   (h:∀ (j:Nat) (v:Value) (x:AV),cs[j]?=some v->xs[j]?=some x->VR gh n w v x):VR gh n w (.agg cs) (.agg xs)
 | tuple (vs:Array Value) (xs:List AV) (hs:vs.size=xs.length)
   (h:∀ (j:Nat) (v:Value) (x:AV),vs[j]?=some v->xs[j]?=some x->VR gh n w v x):VR gh n w (.tuple vs) (.tuple xs)
def Kept(S:Nat->Prop)(x y:Option Obj):Prop :=
 y=x\/∃ C ty lo hi lo' j6,x=some (.cells C ty (lo,hi))/\y=some (.cells C ty (lo',j6))/\(∃ o n,S o/\C[o]?=some (Value.int .u8 n))/\∀ m,hi<=m->(∀ o,m<=o->¬ S o)->j6<=m
def Kept.none{S:Nat->Prop}{x y:Option Obj}(h:Kept S x y)(hS:∀ o,¬ S o):y=x:=by
 rcases h with h|⟨_,_,_,_,_,_,_,_,⟨o,_,ho,_⟩,_⟩
 ·exact h
 ·exact absurd ho (hS o)
def Kept.trans{S T:Nat->Prop}{x y z:Option Obj}(h:Kept S x y)(h' : Kept T y z)(hT:∀ o,T o->S o):Kept S x z:=by
 rcases h with rfl|⟨C,ty,lo,hi,lo',j6,h1,h2,h3,h4⟩
 ·rcases h' with rfl|⟨C,ty,lo,hi,lo',j6,h1,h2,⟨o,n,ho,hn⟩,h4⟩
  ·exact .inl rfl
  ·exact .inr ⟨C,ty,lo,hi,lo',j6,h1,h2,⟨o,n,hT o ho,hn⟩,fun m hm hS=>h4 m hm (fun o ho ht=>hS o ho (hT o ht))⟩
 ·rcases h' with rfl|⟨C2,ty2,lo2,B3,lo3,hi3,k1,k2,_,k4⟩
  ·exact .inr ⟨C,ty,lo,hi,lo',j6,h1,h2,h3,h4⟩
  ·rw[h2] at k1
   injection k1 with k1
   injection k1 with e1 e2 e3
   injection e3 with e3 e4
   subst e1 e2 e3 e4;exact .inr ⟨C,ty,lo,hi,lo3,hi3,h1,k2,h3,fun m hm hS=>k4 m (h4 m hm hS) (fun o ho ht=>hS o ho (hT o ht))⟩
structure Step (touch:bF->Prop) (n:Nat) (gh:Gh) (w:World) (a8:Gh) (w' : World):Prop where
 S:∀ b o,gh.S b o->a8.S b o
 cell:∀ b o,gh.S b o->w'.cell? ⟨b,o,none⟩=w.cell? ⟨b,o,none⟩
 size:w.heap.size<=w'.heap.size
 os:w'.os=w.os
 tape:w'.tape=w.tape
 output:w'.output=w.output
 oo:∀ b,b<w.heap.size->¬ touch (gh.κ b)->Kept (gh.S b) (w.heap[b]?) (w'.heap[b]?)/\a8.κ b=gh.κ b/\∀ o,a8.S b o->gh.S b o
 fresh:∀ b,w.heap.size<=b->a8.κ b≠.outer
 ρ:∀ loc,loc<n->a8.ρ loc=gh.ρ loc
 len:∀ b ty m,sJ w b ty m->sJ w' b ty m
 mp:∀ b E ck,gh.S b 0->w.heap[b]?=some (.map E ck)->w'.heap[b]?=some (.map E ck)
def Step.refl(touch:bF->Prop)(n:Nat)(gh:Gh)(w:World)(hf:∀ b,w.heap.size<=b->gh.κ b≠.outer):Step touch n gh w gh w :=
 ⟨fun _ _ h=>h,fun _ _ _=>rfl,Nat.le_refl _,rfl,rfl,rfl,fun _ _ _=>⟨.inl rfl,rfl,fun _ h=>h⟩,hf,fun _ _=>rfl,fun _ _ _ h=>h,fun _ _ _ _ h=>h⟩
def Step.mono{XO:bF->Prop}{n:Nat}{gh:Gh}{w:World}(h:Step touch n gh w a8 w')(ht:∀ p,touch p->XO p):Step XO n gh w a8 w' :=
 { h with oo:=fun b hb hn=>h.oo b hb (fun x=>hn (ht _ x)) }
def VR.mono{n:Nat}{gh:Gh}{w:World}(st:Step touch n gh w a8 w')(hn:n<=n')
  {v:Value} {x:AV} (h:VR gh n w v x):VR a8 n' w' v x:=by
 induction h with
 | plain v x h=>exact .plain v x (h.mono st.S st.cell st.mp)
 | full a k e h hz=>exact .full a k e (h.mono st.S st.cell st.mp) trivial
 | ref loc off h=>rw[<- st.ρ loc h];exact .ref loc off (ayh h hn)
 | sref loc off k cap z h hk hz=>rw[<- st.ρ loc h];exact .sref loc off k cap z (ayh h hn) hk (fun h0=>(hz h0).imp fun ty hb=>by rw[st.ρ loc h];exact st.len _ _ _ hb)
 | mref loc h=>rw[<- st.ρ loc h];exact .mref loc (ayh h hn)
 | func f fs cs xs ys hf hc _ _ ih1 ih2=>exact .func f fs cs xs ys hf hc ih1 ih2
 | iface t v x _ ih=>exact .iface t v x ih
 | agg cs xs hs gV _ ih=>exact .agg cs xs hs gV ih
 | tuple vs xs hs _ ih=>exact .tuple vs xs hs ih
def OU(gh:Gh)(w:World)(p:bF)(v:Value)(e:List (List AV)):Prop :=
 ∃ b cap C ty lo hi sz,v=.slice (some ⟨b,0,none⟩) e.length cap/\gh.κ b=p/\e≠[]/\w.heap[b]?=some (.cells C ty (lo,hi))/\C.size=cap*sz /\
  (∀ (i:Nat) (r:List AV),e[i]?=some r->r.length=sz)/\e.length<=cap/\hi<=e.length*sz/\(∀ o,e.length*sz<=o->¬ gh.S b o)
def OU.mono{n:Nat}{gh:Gh}{w:World}(st:Step touch n gh w a8 w')(hp:¬ touch p)
  {v:Value} {e:List (List AV)} (h:OU gh w p v e):OU a8 w' p v e:=by
 obtain⟨b,cap,C,ty,lo,hi,sz,hv,hk,he,hb,hC,hr,hl,hh,hS⟩:=h;have aP:b<w.heap.size:=(axb.1 hb).1;obtain⟨h1,h2,h3⟩:=st.oo b aP (by rw[hk];exact hp)
 rcases h1 with h1|⟨C',oI,lo1,S6,lo',j6,k1,k2,_,k4⟩
 ·exact⟨b,cap,C,ty,lo,hi,sz,hv,by rw[h2,hk],he,by rw[h1,hb],hC,hr,hl,hh,fun o ho hs=>hS o ho (h3 o hs)⟩
 ·rw[hb] at k1
  injection k1 with k1
  injection k1 with e1 e2 e3
  injection e3 with e3 e4
  subst e1 e2 e3 e4;exact⟨b,cap,C,ty,lo',j6,sz,hv,by rw[h2,hk],he,k2,hC,hr,hl,k4 _ hh hS,fun o ho hs=>hS o ho (h3 o hs)⟩
def CR(gh:Gh)(n:Nat)(w:World)(p:bF)(v:Value)(x:AV):Prop :=
 VR gh n w v x\/∃ e,x=.slice e true/\PR gh.S w v (.slice e false)/\OU gh w p v e
def CR.mono{n:Nat}{gh:Gh}{w:World}(st:Step touch n gh w a8 w')(hn:n<=n')(hp:¬ touch p)
  {v:Value} {x:AV} (h:CR gh n w p v x):CR a8 n' w' p v x:=by
 rcases h with h|⟨e,rfl,h1,h2⟩
 ·exact .inl (h.mono st hn)
 ·exact .inr ⟨e,rfl,h1.mono st.S st.cell st.mp,h2.mono st hp⟩
theorem CR.dropped{gh:Gh}{n:Nat}{w:World}{v:Value}{x:AV}(h:CR gh n w p v x):VR gh n w v x.drop:=by
 rcases h with h|⟨e,rfl,h1,_⟩
 ·cases h with
  | plain v x h =>
   cases x<;>try exact .plain _ _ h
   cases h<;>first|exact .plain _ _ .dr|exact .plain _ _ (.slice _ _ _ _ _ _ _ ‹_› ‹_› ‹_› ‹_› ‹_›)
  | full a k e h=>exact .plain _ _ h
  | ref loc off h=>exact .ref loc off h
  | sref loc off k cap z h hk hz=>exact .sref loc off k cap z h hk hz
  | mref loc h=>exact .mref loc h
  | func f fs cs xs ys hf hc h1 h2=>exact .func f fs cs xs ys hf hc h1 h2
  | iface t v x h=>exact .iface t v x h
  | agg cs xs hs gV h=>exact .agg cs xs hs gV h
  | tuple vs xs hs h=>exact .tuple vs xs hs h
 ·exact .plain _ _ h1
theorem VR.dropped{gh:Gh}{n:Nat}{w:World}{v:Value}{x:AV}(h:VR gh n w v x):VR gh n w v x.drop:=CR.dropped (p:=.none) (.inl h)
def iL(gh:Gh)(n:Nat)(w:World)(b:Nat)(p:bF)(q:Nat->bF)(cs:List AV):Prop :=
 gh.κ b=p/\(∀ o,¬ gh.S b o)/\∃ C ty,w.heap[b]?=some (.cells C ty (0,0))/\cs.length<=C.size /\
  ∀ (j:Nat) (v:Value) (x:AV),C[j]?=some v->cs[j]?=some x->v.oneCell'=true/\CR gh n w (q j) v x
def iL.mono{n:Nat}{gh:Gh}{w:World}(st:Step touch n gh w a8 w')(hn:n<=n')
  (hp:¬ touch p) (hq:∀ j,¬ touch (q j)) {cs:List AV} (h:iL gh n w b p q cs):iL a8 n' w' b p q cs:=by
 obtain⟨hk,hS,C,ty,hb,hC,iz⟩:=h;have aP:b<w.heap.size:=(axb.1 hb).1;obtain⟨h1,h2,h3⟩:=st.oo b aP (by rw[hk];exact hp)
 have h1:=h1.none hS;exact⟨by rw[h2,hk],fun o ho=>hS o (h3 o ho),C,ty,by rw[h1,hb],hC,fun j v x hv hx=>⟨(iz j v x hv hx).1,(iz j v x hv hx).2.mono st hn (hq j)⟩⟩
def uD(gh:Gh)(w:World)(p:bF)(v:Value)(e:List (List AV)):Prop :=
 ∃ a cap,v=.slice a e.length cap/\((e=[]/\cap=0/\∀ ad,a=some ad->ad.spot=none/\True)\/∃ b C ty sz,e≠[]/\a=some ⟨b,0,none⟩/\gh.κ b=p/\(∀ o,¬ gh.S b o)/\w.heap[b]?=some (.cells C ty (0,0))/\C.size=cap*sz /\
  e.length<=cap/\(∀ (i:Nat) (r:List AV),e[i]?=some r->r.length=sz) /\
  ∀ (i j:Nat) (r:List AV) (x:AV),e[i]?=some r->r[j]?=some x->∃ u,C[i*sz+j]?=some u/\PR gh.S w u x)
theorem uD.mono{n:Nat}{gh:Gh}{w:World}(st:Step touch n gh w a8 w')(hp:¬ touch p)
  {v:Value} {e:List (List AV)} (h:uD gh w p v e):uD a8 w' p v e:=by
 obtain⟨a,cap,hv,h⟩:=h;refine⟨a,cap,hv,?_⟩
 rcases h with h|⟨b,C,ty,sz,da,ha,hk,hS,hb,hC,hl,hr,iz⟩
 ·grind
 ·have aP:b<w.heap.size:=(axb.1 hb).1
  obtain⟨h1,h2,h3⟩:=st.oo b aP (by rw[hk];exact hp)
  have h1:=h1.none hS;exact .inr ⟨b,C,ty,sz,da,ha,by rw[h2,hk],fun o ho=>hS o (h3 o ho),by rw[h1,hb],hC,hl,hr,fun i j r x hi hj=>by
   obtain⟨u,hu,hp⟩:=iz i j r x hi hj;exact⟨u,hu,hp.mono st.S st.cell st.mp⟩⟩
def Gv(gh:Gh)(n:Nat)(w:World)(b:Nat)(p:bF)(q:Nat->bF)(kz:Nat)(ka va:Bool)(es:List (List AV)):Prop :=
 gh.κ b=p/\(∀ o,¬ gh.S b o)/\∃ E ck f,w.heap[b]?=some (.map E ck)/\JX E ck kz ka va es f /\
  (∀ (i j:Nat) (r:List AV) (x:AV),es[i]?=some r->r[j]?=some x->j<kz->PR gh.S w (f i j) x) /\
  ∀ (i j:Nat) (r:List AV) (x:AV),es[i]?=some r->r[j]?=some x->kz<=j->(f i j).oneCell'=true/\(va=true->VR gh n w (f i j) x)/\CR gh n w (q i) (f i j) x
def Gv.mono{n:Nat}{gh:Gh}{w:World}(st:Step touch n gh w a8 w')(hn:n<=n')(hp:¬ touch p)(hq:∀ i,¬ touch (q i))
  {kz:Nat} {ka va:Bool} {es:List (List AV)} (h:Gv gh n w b p q kz ka va es):Gv a8 n' w' b p q kz ka va es:=by
 obtain⟨hk,hS,E,ck,f,hb,hE,h1,h2⟩:=h;have aP:b<w.heap.size:=(axb.1 hb).1;obtain⟨k1,k2,k3⟩:=st.oo b aP (by rw[hk];exact hp)
 have k1:=k1.none hS;exact⟨by rw[k2,hk],fun o ho=>hS o (k3 o ho),E,ck,f,by rw[k1,hb],hE,fun i j r x hi hj hl=>(h1 i j r x hi hj hl).mono st.S st.cell st.mp,
  fun i j r x hi hj hl=>⟨(h2 i j r x hi hj hl).1,fun hv=>((h2 i j r x hi hj hl).2.1 hv).mono st hn,(h2 i j r x hi hj hl).2.2.mono st hn (hq i)⟩⟩
def xq(gh:Gh)(n:Nat)(w:World)(b loc:Nat):bG->Prop
 | .map kz ka va es=>Gv gh n w b (.hb loc) (fun i=>.hs loc i) kz ka va es/\(es.all fun r=>r.all (aV loc))=true
 | .iW kz ka va es=>PR gh.S w (.map (some b)) (.iW kz ka va es)
 | .UG cs=>PR gh.S w (.pointer (some ⟨b,0,none⟩)) (.eptr cs)
 | .bR cs=>iL gh n w b (.hb loc) (fun j=>.hs loc j) cs
 | _=>True
def xq.mono{n:Nat}{gh:Gh}{w:World}(st:Step touch n gh w a8 w')(hn:n<=n')(hp:¬ touch (.hb loc))(hq:∀ i,¬ touch (.hs loc i))
  {o:bG} (h:xq gh n w b loc o):xq a8 n' w' b loc o:=by
 cases o with
 | map kz ka va es=>exact⟨h.1.mono st hn hp hq,h.2⟩
 | iW kz ka va es=>exact PR.mono st.S st.cell st.mp h
 | UG cs=>exact PR.mono st.S st.cell st.mp h
 | bR cs=>exact iL.mono st hn hp hq h
 | _=>trivial
def Ai(gh:Gh)(w:World)(b:Nat)(p:bF)(kz:Nat)(ka va:Bool)(cur:List AV)(todo:List (List AV)):Prop :=
 gh.κ b=p/\(∀ o,¬ gh.S b o)/\∃ (m:Option Nat) (since:Nat) (seen:Array Nat) (last:Nat),w.heap[b]?=some (.mapIter m since seen last) /\
  ((m=none/\todo=[]/\seen=#[]/\cur=[])\/∃ m0 E es ck f,m=some m0/\gh.S m0 0/\w.heap[m0]?=some (.map E ck)/\Aj E ck kz ka va es f/\since=ck/\last=ck /\
   (∀ (i j:Nat) (r:List AV) (x:AV),es[i]?=some r->r[j]?=some x->PR gh.S w (f i j) x) /\
   ((seen.back?=none/\cur=[])\/∃ (s i:Nat) (e:MapEntry),seen.back?=some s/\E[i]?=some e/\e.born=s/\es[i]?=some cur) /\
   todo.Perm (((E.toList.zip es).filter fun p=>!seen.contains p.1.born).map (·.2)))
def Ai.mono{n:Nat}{gh:Gh}{w:World}(st:Step touch n gh w a8 w')(hp:¬ touch p)
  {kz:Nat} {ka va:Bool} {cur:List AV} {todo:List (List AV)} (h:Ai gh w b p kz ka va cur todo):Ai a8 w' b p kz ka va cur todo:=by
 obtain⟨hk,hS,m,since,seen,last,hb,h⟩:=h;have aP:b<w.heap.size:=(axb.1 hb).1;obtain⟨k1,k2,k3⟩:=st.oo b aP (by rw[hk];exact hp)
 have k1:=k1.none hS;refine⟨by rw[k2,hk],fun o ho=>hS o (k3 o ho),m,since,seen,last,by rw[k1,hb],?_⟩
 rcases h with h|⟨m0,E,es,ck,f,h1,h2,h3,h4,h5,h6,h7,h8,h9⟩
 ·exact .inl h
 ·exact .inr ⟨m0,E,es,ck,f,h1,st.S _ _ h2,st.mp _ _ _ h2 h3,h4,h5,h6,fun i j r x hi hj=>(h7 i j r x hi hj).mono st.S st.cell st.mp,h8,h9⟩
def SR(gh:Gh)(n nt:Nat)(w:World)(T:az)(gen:Nat)(tm:Nat->Value)(i:Nat)(v:Value)(x:AV):Prop :=
 match x with
 | .lbox g cs=>g<gen/\∃ b,v=.pointer (some ⟨b,0,none⟩)/\iL gh n w b (.bx i) (fun j=>.sc i j) cs
 | .lsl g e=>g<gen/\uD gh w (.bx i) v e
 | .lref s g off=>s<nt/\g<gen/\(dY (T s)=some g->∀ b,tm s=.pointer (some ⟨b,0,none⟩)->v=.pointer (some ⟨b,off,none⟩))
 | .lsr s g=>s<nt/\g<gen/\(dY (T s)=some g->v=tm s)
 | .eref s g r z off=>s<nt/\g<gen/\(dY (T s)=some g->∀ b k cap,tm s=.slice (some ⟨b,0,none⟩) k cap->v=.pointer (some ⟨b,r*z+off,none⟩))
 | .iter g kz ka va cur todo=>g<gen/\∃ b,v=.pointer (some ⟨b,0,none⟩)/\Ai gh w b (.bx i) kz ka va cur todo
 | x=>CR gh n w (.sl i) v x
structure aY (G:Nat->List AV) (base:Nat) (H:aa) (gh:Gh) (w:World):Prop where
 size:base<=w.heap.size
 qj:∀ b o,gh.S b o->b<w.heap.size
 ru:∀ b,gh.κ b≠.none->base<=b/\b<w.heap.size
 aX:∀ (g j:Nat) (x:AV),(G g)[j]?=some x->∃ v,w.cell? ⟨g,j,none⟩=some v/\PR gh.S w v x/\gh.S g j
 boxes:∀ (loc:Nat) (ty:TypeId) (cs:List AV),H[loc]?=some (bG.box ty cs)->iL gh H.length w (gh.ρ loc) (.hb loc) (fun j=>.hs loc j) cs
 refs:∀ (loc:Nat) (ty:TypeId) (cs:List AV),H[loc]?=some (bG.box ty cs)->cs.all (aV loc)=true
 Cg:∀ g,G g≠[]->∃ ty,sJ w g ty (G g).length
 bytes:∀ b o n,gh.S b o->w.cell? ⟨b,o,none⟩=some (.int .u8 n)->∃ C fr,w.heap[b]?=some (.cells C je fr)
 more:∀ (loc:Nat) (o:bG),H[loc]?=some o->xq gh H.length w (gh.ρ loc) loc o
 types:∀ (loc:Nat) (ty:TypeId) (cs:List AV),H[loc]?=some (bG.box ty cs)->ty≠bz->sJ w (gh.ρ loc) ty cs.length
structure aom (nt:Nat) (gh:Gh) (w:World) (a:Act) (s:AS):Prop where
 defers:a.defers=[]
 size:a.tmps.size=nt
 slot:∀ i,i<nt->SR gh s.H.length nt w s.T s.gen (fun k=>a.tmps.getD k undef) i (a.tmps.getD i undef) (s.T i)
def aY.mw{G:Nat->List AV}{base:Nat}{gh:Gh}{w:World}{n:Nat}(h:aY G base H gh w)(st:Step touch n gh w a8 w')
  (jm:∀ b o m,a8.S b o->gh.S b o\/(w'.cell? ⟨b,o,none⟩=some (.int .u8 m)->∃ C fr,w'.heap[b]?=some (.cells C je fr))) :
  ∀ b o m,a8.S b o->w'.cell? ⟨b,o,none⟩=some (.int .u8 m)->∃ C fr,w'.heap[b]?=some (.cells C je fr):=by
 intro b o m hs hc
 rcases jm b o m hs with ho|hn
 ·obtain⟨C,fr,h1⟩:=h.bytes b o m ho (by rw[<- st.cell b o ho];exact hc)
  obtain⟨C',fr',h2,_⟩:=st.len b je C.size ⟨C,fr,h1,rfl⟩;exact⟨C',fr',h2⟩
 ·exact hn hc
def aY.fresh{G:Nat->List AV}{base:Nat}{gh:Gh}{w:World}(h:aY G base H gh w)(b:Nat)(hb:w.heap.size<=b):gh.κ b=.none:=by
 by_cases hk:gh.κ b=.none
 ·exact hk
 ·have:=(h.ru b hk).2;omega
theorem SR.mono{n nt:Nat}{gh:Gh}{w:World}(st:Step touch n gh w a8 w')(hn:n<=n'){T':az}{gen':Nat}(hg:gen<=gen')
  {tm tm' : Nat->Value} {i:Nat} (h1:¬ touch (.bx i)) (h2:¬ touch (.sl i)) (h3:∀ j,¬ touch (.sc i j))
  (hT:∀ s,s<nt->(dY (T' s)=dY (T s)/\tm' s=tm s)\/dY (T' s)=none\/∃ g,gen<=g/\dY (T' s)=some g)
  {v:Value} {x:AV} (h:SR gh n nt w T gen tm i v x):SR a8 n' nt w' T' gen' tm' i v x:=by
 have key:∀ s g,s<nt->g<gen->dY (T' s)=some g->dY (T s)=some g/\tm' s=tm s:=by
  grind
 cases x
 case lbox g cs =>
  obtain⟨S5,b,hv,hb⟩:=h;exact⟨by omega,b,hv,hb.mono st hn h1 h3⟩
 case lsl g e=>exact⟨by have:=h.1;omega,h.2.mono st h1⟩
 case iter g kz ka va cur todo =>
  obtain⟨S5,b,hv,hb⟩:=h;exact⟨by omega,b,hv,hb.mono st h1⟩
 case lref s g off =>
  obtain⟨hs,S5,hr⟩:=h;refine⟨hs,by omega,fun Nt b hb=>?_⟩
  grind
 case lsr s g =>
  obtain⟨hs,S5,hr⟩:=h;refine⟨hs,by omega,fun Nt=>?_⟩
  grind
 case eref s g r z off =>
  obtain⟨hs,S5,hr⟩:=h;refine⟨hs,by omega,fun Nt b k cap hb=>?_⟩
  grind
 all_goals exact CR.mono st hn h2 h
def sG(p:bF):Prop:=p≠.none/\p≠.outer
structure Ext (n:Nat) (gh:Gh) (w:World) (a8:Gh) (w' : World):Prop where
 step:Step sG n gh w a8 w'
 out:∀ b,a8.κ b=.outer->gh.κ b=.outer
def Ext.refl(n:Nat)(gh:Gh)(w:World)(hf:∀ b,w.heap.size<=b->gh.κ b≠.outer):Ext n gh w gh w:=⟨Step.refl _ n gh w hf,fun _ h=>h⟩
def Ext.trans{n n' : Nat}{g1 g2 g3:Gh}{w1 w2 w3:World}(h:Ext n g1 w1 g2 w2)(h' : Ext n' g2 w2 g3 w3)(hn:n<=n'):Ext n g1 w1 g3 w3:=by
 refine⟨⟨fun b o hs=>h'.step.S b o (h.step.S b o hs),fun b o hs=>(h'.step.cell b o (h.step.S b o hs)).trans (h.step.cell b o hs),axx h.step.size h'.step.size,
  h'.step.os.trans h.step.os,h'.step.tape.trans h.step.tape,h'.step.output.trans h.step.output,?_,?_,fun loc hl=>(h'.step.ρ loc (ayh hl hn)).trans (h.step.ρ loc hl),fun b ty m hb=>h'.step.len b ty m (h.step.len b ty m hb),fun b E ck hs hb=>h'.step.mp b E ck (h.step.S b 0 hs) (h.step.mp b E ck hs hb)⟩,fun b hb=>h.out b (h'.out b hb)⟩
 ·intro b hb hnt
  obtain⟨a1,a2,a3⟩:=h.step.oo b hb hnt;obtain⟨c1,c2,c3⟩:=h'.step.oo b (ayh hb h.step.size) (by rw[a2];exact hnt)
  exact⟨a1.trans c1 a3,c2.trans a2,fun o ho=>a3 o (c3 o ho)⟩
 ·intro b hb ho
  have:=h'.out b ho
  by_cases kG:w2.heap.size<=b
  ·exact h'.step.fresh b kG ho
  ·exact h.step.fresh b hb this
structure FR (L:List Nat) (nt:Nat) (gh:Gh) (w:World) (a:Act) (s:AS):Prop extends aom nt gh w a s where
 obj:∀ i,(dY (s.T i)).isSome=true->i∈L
def gv(a:Act)(k:Nat):Value:=a.tmps.getD k undef
theorem qV(a:Act)(d:Nat)(v:Value)(k:Nat)(hd:d<a.tmps.size):gv (a.put (some d) v) k=if k=d then v else gv a k:=by
 unfold gv Act.put
 by_cases h:k=d
 ·subst h;simp[hd]
 ·simp[h,azh (ayk h)]
theorem im(a b:Nat):Nat.beq a b=decide (a=b):=by
 by_cases h:a=b
 ·subst h;simp
 ·have h1:Nat.beq a b≠true:=fun h'=>h (ax4 h')
  grind
theorem kZ(T:az)(d:Nat)(v:AV)(k:Nat):T.put d v k=if k=d then v else T k:=by
 unfold az.put
 simp_all
theorem FR.update{L:List Nat}{nt:Nat}{gh:Gh}{w:World}{a a':Act}{s s':AS}(h:FR L nt gh w a s)
  (st:Step touch s.H.length gh w a8 w') (KT:a'.defers=[]) (j7:a'.tmps.size=nt) (hn:s.H.length<=s'.H.length) (hg:s.gen<=s'.gen)
  (D:Nat->Prop)
  (K5:∀ i,¬ D i->s'.T i=s.T i/\(i<nt->gv a' i=gv a i/\¬ touch (.bx i)/\¬ touch (.sl i)/\∀ j,¬ touch (.sc i j)))
  (apt:∀ i,D i->(i<nt/\dY (s'.T i)=dY (s.T i)/\gv a' i=gv a i)\/dY (s'.T i)=none\/(i∈L/\∃ g,s.gen<=g/\dY (s'.T i)=some g))
  (jm:∀ i,D i->i<nt->SR a8 s'.H.length nt w' s'.T s'.gen (gv a') i (gv a' i) (s'.T i)):FR L nt a8 w' a' s':=by
 have hT:∀ i,i<nt->(dY (s'.T i)=dY (s.T i)/\gv a' i=gv a i)\/dY (s'.T i)=none\/∃ g,s.gen<=g/\dY (s'.T i)=some g:=by
  intro i hi
  by_cases hD:D i
  ·grind
  ·grind
 refine⟨⟨KT,j7,fun i hi=>?_⟩,fun i hi=>?_⟩
 ·by_cases hD:D i
  ·exact jm i hD hi
  ·obtain⟨k1,k2⟩:=K5 i hD
   obtain⟨k3,t1,t2,t3⟩:=k2 hi
   show SR a8 s'.H.length nt w' s'.T s'.gen (gv a') i (gv a' i) (s'.T i)
   rw[k1,k3];exact SR.mono st hn hg t1 t2 t3 hT (h.slot i hi)
 ·by_cases hD:D i
  ·rcases apt i hD with ⟨_,h',_⟩|h'|⟨h',_⟩
   ·exact h.obj i (by rw[<- h'];exact hi)
   ·rw[h'] at hi;cases hi
   ·exact h'
  ·rw[(K5 i hD).1] at hi
   exact h.obj i hi
def pn(gh:Gh)(n nt:Nat)(w:World)(T:az)(gen:Nat)(tm:Nat->Value)(v:Value)(x:AV):Prop :=
 match x with
 | .lbox ..|.lsl ..|.iter ..=>False
 | .lref s g off=>s<nt/\g<gen/\(dY (T s)=some g->∀ b,tm s=.pointer (some ⟨b,0,none⟩)->v=.pointer (some ⟨b,off,none⟩))
 | .lsr s g=>s<nt/\g<gen/\(dY (T s)=some g->v=tm s)
 | .eref s g r z off=>s<nt/\g<gen/\(dY (T s)=some g->∀ b k cap,tm s=.slice (some ⟨b,0,none⟩) k cap->v=.pointer (some ⟨b,r*z+off,none⟩))
 | x=>VR gh n w v x
def pn.dY{gh:Gh}{n nt:Nat}{w:World}{v:Value}{x:AV}(h:pn gh n nt w T gen tm v x):dY x=none:=by
 cases x<;>first|rfl|exact h.elim
def pn.sr{gh:Gh}{n nt:Nat}{w:World}{v:Value}{x:AV}(h:pn gh n nt w T gen tm v x)(i:Nat):SR gh n nt w T gen tm i v x:=by
 cases x<;>first|exact h.elim|exact h|exact .inl h
def pn.dw{gh:Gh}{n nt:Nat}{w:World}{v:Value}{x:AV}(h:VR gh n w v x):pn gh n nt w T gen tm v x:=by
 cases h with
 | plain v x h=>have h0:=h;cases h<;>exact .plain _ _ h0
 | full a k e h hz=>exact .full a k e h hz
 | ref loc off h=>exact .ref loc off h
 | sref loc off k cap z h hk hz=>exact .sref loc off k cap z h hk hz
 | mref loc h=>exact .mref loc h
 | func f fs cs xs ys hf hc h1 h2=>exact .func f fs cs xs ys hf hc h1 h2
 | iface t v x h=>exact .iface t v x h
 | agg cs xs hs gV h=>exact .agg cs xs hs gV h
 | tuple vs xs hs h=>exact .tuple vs xs hs h
def nG(s:AS)(d:Option Nat)(x:AV):(s.cR d x).H=s.H/\(s.cR d x).gen=s.gen/\(s.cR d x).lo=s.lo:=by cases d<;>exact⟨rfl,rfl,rfl⟩
def LV(a:Act)(d:Option Nat)(v:Value):(a.put d v).tmps.size=a.tmps.size:=by cases d<;>simp[Act.put]
def BO(a:Act)(d:Option Nat)(v:Value):(a.put d v).defers=a.defers:=by cases d<;>rfl
theorem FR.put{L:List Nat}{nt:Nat}{gh:Gh}{w:World}{a:Act}{s:AS}{H':aa}{lo':Nat}(h:FR L nt gh w a s)(st:Step touch s.H.length gh w a8 w')
  (ht:∀ i,¬ touch (.bx i)/\¬ touch (.sl i)/\∀ j,¬ touch (.sc i j)) (hH:s.H.length<=H'.length)
  (d:Option Nat) (hd:∀ k,d=some k->k<nt) {v:Value} {x:AV} (hv:pn a8 H'.length nt w' s.T s.gen (gv a) v x) :
  FR L nt a8 w' (a.put d v) (({ s with H:=H',lo:=lo' } : AS).cR d x):=by
 cases d with
 | none =>
  exact h.update st h.defers h.size hH (Nat.le_refl _) (fun _=>False) (fun i _=>⟨rfl,fun _=>⟨rfl,ht i⟩⟩) (fun _ h=>h.elim) (fun _ h=>h.elim)
 | some d =>
  have aP:=hd d rfl;have j7:d<a.tmps.size:=by rw[h.size];exact aP
  refine h.update (s':=({ s with H:=H',lo:=lo' } : AS).cR (some d) x) st ((BO a (some d) v).trans h.defers) ((LV a (some d) v).trans h.size) hH (Nat.le_refl _) (fun i=>i=d) ?_ ?_ ?_
  ·intro i hi
   refine⟨by simp[AS.cR,AS.cc,kZ,hi],fun _=>⟨by rw[qV a d v i j7,if_neg hi],ht i⟩⟩
  ·rintro i rfl
   exact .inr (.inl (by simp[AS.cR,AS.cc,kZ];exact hv.dY))
  ·rintro i rfl hi
   simp only[AS.cR,AS.cc,kZ,ayE];rw[qV a i v i j7,if_pos rfl];refine SR.mono (touch:=fun _=>False) (n:=H'.length) (gh:=a8) (w:=w') (Step.refl _ _ _ _ (fun b hb=>st.fresh b (axx st.size hb))) (Nat.le_refl _) (Nat.le_refl _) id id (fun _=>id) ?_ (hv.sr i)
   intro k hk
   by_cases hki:k=i
   ·subst hki;exact .inr (.inl (by simp[az.put];exact hv.dY))
   ·grind [kZ,qV]
section
section
variable {gh:Gh}{n:Nat}{w:World}{v:Value}
def VR.lZ{b:Bool}(h:VR gh n w v (.bool b)):v=.bool b:=by cases h with|plain _ _ h=>cases h;rfl
def VR.ko{k:IntKind}{m:Int}(h:VR gh n w v (.int k m)):v=.int k m:=by cases h with|plain _ _ h=>cases h;rfl
def VR.ku{l:List UInt8}(h:VR gh n w v (.str l)):∃ s:ByteArray,v=.string s/\s.data.toList=l:=by cases h with|plain _ _ h=>cases h;exact⟨_,rfl,‹_›⟩
def VR.zi(h:VR gh n w v .cM):v=.nilIface:=by cases h with|plain _ _ h=>cases h;rfl
def VR.BG(h:VR gh n w v .kC):v=.nilFunc:=by cases h with|plain _ _ h=>cases h;rfl
def VR.R6{t:TypeId}{x:AV}(h:VR gh n w v (.iface t x)):∃ u,v=.iface t u:=by
 cases h with
 | plain _ _ h=>cases h;exact⟨_,rfl⟩
 | iface _ _ _ _=>exact⟨_,rfl⟩
def VR.mT(h:VR gh n w v .al):v=.slice none 0 0:=by cases h with|plain _ _ h=>cases h;rfl
def VR.jx{e:List (List AV)}(h:VR gh n w v (.slice e false)):PR gh.S w v (.slice e false):=by cases h with|plain _ _ h=>exact h
def VR.zh(h:VR gh n w v (.eptr cs)):PR gh.S w v (.eptr cs):=by cases h with|plain _ _ h=>exact h
def VR.kq(h:VR gh n w v (.ref loc off)):loc<n/\v=.pointer (some ⟨gh.ρ loc,off,none⟩):=by
 cases h with
 | plain _ _ h=>cases h
 | ref _ _ h=>exact⟨h,rfl⟩
def VR.kS{z:Nat}(h:VR gh n w v (.sref loc off k z)):loc<n/\∃ cap,k<=cap/\(z≠0->∃ ty,sJ w (gh.ρ loc) ty (off+cap*z))/\v=.slice (some ⟨gh.ρ loc,off,none⟩) k cap:=by
 cases h with
 | plain _ _ h=>cases h
 | sref _ _ _ cap _ h hk hz=>exact⟨h,cap,hk,hz,rfl⟩
def VR.p8(h:VR gh n w v (.mref loc)):loc<n/\v=.map (some (gh.ρ loc)):=by
 cases h with
 | plain _ _ h=>cases h
 | mref _ h=>exact⟨h,rfl⟩
def VR.vd{f:Fn}{ys:List AV}(h:VR gh n w v (.func f xs ys)):∃ fs cs,v=.func f fs cs/\fs.size=xs.length/\cs.size=ys.length /\
  (∀ (j:Nat) (v:Value) (x:AV),fs[j]?=some v->xs[j]?=some x->VR gh n w v x)/\(∀ (j:Nat) (v:Value) (x:AV),cs[j]?=some v->ys[j]?=some x->VR gh n w v x):=by
 cases h with
 | plain _ _ h=>cases h;exact⟨#[],#[],rfl,rfl,rfl,fun j v x h=>by simp at h,fun j v x h=>by simp at h⟩
 | func _ fs cs _ _ hf hc h1 h2=>exact⟨fs,cs,rfl,hf,hc,h1,h2⟩
def VR.mo(h:VR gh n w v (.agg xs)):∃ cs:Array Value,v=.agg cs/\cs.size=xs.length/\(∀ (j:Nat) (v:Value),cs[j]?=some v->v.oneCell'=true) /\
  (∀ (j:Nat) (v:Value) (x:AV),cs[j]?=some v->xs[j]?=some x->VR gh n w v x):=by
 cases h with
 | plain _ _ h=>cases h
 | agg cs _ hs gV h=>exact⟨cs,rfl,hs,gV,h⟩
def VR.vM(h:VR gh n w v (.tuple xs)):∃ vs:Array Value,v=.tuple vs/\vs.size=xs.length /\
  (∀ (j:Nat) (v:Value) (x:AV),vs[j]?=some v->xs[j]?=some x->VR gh n w v x):=by
 cases h with
 | plain _ _ h=>cases h
 | tuple vs _ hs h=>exact⟨vs,rfl,hs,h⟩
def VR.R7(h:VR gh n w v .undef):v=undef:=by
 obtain⟨vs,rfl,hs,_⟩:=h.vM;have:vs=#[]:=ayR (cJ hs)
 subst this;rfl
end
def VR.undef{gh:Gh}{n:Nat}{w:World} : VR gh n w undef .undef:=.tuple #[] [] rfl (fun j v x h=>by simp at h)
def yJ{gh:Gh}{n:Nat}{w:World}{v:Value}{x:AV}(h:lH v=some x):VR gh n w v x:=by
 unfold lH at h
 split at h<;>first|(injection h with h;subst h)|cases h
 ·exact .plain _ _ (.bool _)
 ·exact .plain _ _ (.int _ _)
 ·exact .plain _ _ (.str _ _ rfl)
 ·exact .full none 0 [] .dr trivial
 ·exact .plain _ _ .kX
 ·exact .plain _ _ .ke
 ·exact .plain _ _ .kC
 ·exact .plain _ _ .cM
def lT{gh:Gh}{n:Nat}{w:World} : ∀ {vs:List Value} {xs:List AV},dX vs=some xs->vs.length=xs.length /\
  ∀ (j:Nat) (v:Value) (x:AV),vs[j]?=some v->xs[j]?=some x->VR gh n w v x/\v.oneCell'=true
 | [],xs,h=>by simp[dX] at h;subst h;exact⟨rfl,fun j v x h=>by simp at h⟩
 | v :: r,xs,h=>by
  simp only[dX,aw1,aw0] at h;obtain⟨x,hx,ys,hy,rfl⟩:=h;obtain⟨h1,h2⟩:=lT (gh:=gh) (n:=n) (w:=w) hy;refine⟨by simp[h1],fun j u y hu hy=>?_⟩
  cases j with
  | zero =>
   simp at hu hy;subst hu hy;refine⟨yJ hx,?_⟩;unfold lH at hx
   split at hx<;>first|rfl|cases hx
  | succ j=>exact h2 j u y (cJ hu) (cJ hy)
theorem MY{gh:Gh}{n:Nat}{w:World}{v:Value}{x:AV}(h:lH v=some x):VR gh n w v (oW x):=by
 have h0:=yJ (gh:=gh) (n:=n) (w:=w) h;unfold lH at h
 split at h<;>first|(injection h with h;subst h)|cases h
 all_goals first|exact h0|exact .plain _ _ .al
theorem wT:∀ {vs:List Value} {xs:List AV},dX vs=some xs->∀ (j:Nat) (v:Value) (x:AV),vs[j]?=some v->xs[j]?=some x->lH v=some x
 | [],_,_,j,v,x,hv,_=>by simp at hv
 | u :: r,xs,h,j,v,x,hv,hx=>by
  simp only[dX,aw1,aw0] at h;obtain⟨y,hy,ys,RZ,rfl⟩:=h;cases j with
  | zero=>simp at hv hx;subst hv hx;exact hy
  | succ j=>exact wT RZ j v x (cJ hv) (cJ hx)
theorem kL{gh:Gh}{n:Nat}{w:World}{v:Value}{x:AV}(h:uP v=some x):VR gh n w v x:=by
 unfold uP at h;split at h
 ·rename_i vs
  simp only[aw0] at h;obtain⟨l,hl,rfl⟩:=h;obtain⟨h1,h2⟩:=lT (gh:=gh) (n:=n) (w:=w) hl;refine .agg vs _ (cJ h1) (fun j v hv=>?_) (fun j v x hv hx=>?_)
  ·have hj:vs.toList[j]?=some v:=cJ hv
   obtain⟨y,hy⟩:∃ y,l[j]?=some y:=by
    have:j<vs.toList.length:=(aw5.1 hj).1
    simp_all
   exact (h2 j v y hj hy).2
  ·grind [MY,wT]
 ·exact yJ h
section
variable {G:Nat->List AV}{base nt:Nat}{L:List Nat}{gh:Gh}{w:World}{a:Act}{s:AS}{x:Operand}{y:aI}
theorem Zu(hW:aY G base s.H gh w)(g:Nat):VR gh s.H.length w (.pointer (some ⟨g,0,none⟩)) (.eptr (G g)):=by
 refine .plain _ _ ?_
 let f:Nat->Value:=fun j=>(w.cell? ⟨g,j,none⟩).getD undef
 refine .eptr g 0 (G g) f ?_ ?_
 ·intro j x h
  obtain⟨v,hv,hp,hs⟩:=hW.aX g j x h;refine⟨cJ hs,by simp[f,hv],?_⟩
  simp only[f,hv,ax0];exact hp.fJ
 ·intro j x h
  obtain⟨v,hv,hp,hs⟩:=hW.aX g j x h
  grind
def arg_val(hW:aY G base s.H gh w)(hF:FR L nt gh w a s)(hc:au nt x=some y) :
  pn gh s.H.length nt w s.T s.gen (gv a) (a.eval x) (y.addr G s.T).drop:=by
 cases x with
 | tmp t =>
  simp only[au] at hc;rcases aye (Nat.blt t nt) with hb|hb<;>rw[hb] at hc<;>simp at hc
  subst hc;have aP:t<nt:=by simpa [axp] using hb
  have h:=hF.slot t aP
  show pn gh s.H.length nt w s.T s.gen (gv a) (gv a t) _
  change SR gh s.H.length nt w s.T s.gen (gv a) t (gv a t) (s.T t) at h
  simp only[aI.addr];generalize hX:s.T t=X at h;cases X
  case lbox g cs =>
   obtain⟨hg,b,hv,_⟩:=h;refine⟨aP,hg,fun _ b' iG=>iG⟩
  case lsl g e=>exact⟨aP,h.1,fun _=>rfl⟩
  case lref=>exact h
  case lsr=>exact h
  case eref=>exact h
  case iter g kz ka va cur todo =>
   obtain⟨_,b,hv,_⟩:=h;rw[hv];exact .dw (.plain _ _ (.any _ rfl))
  all_goals exact .dw (CR.dropped h)
 | const v =>
  simp only[au,aw0] at hc;obtain⟨z,hz,rfl⟩:=hc;exact .dw (VR.dropped (kL hz))
 | global g =>
  simp only[au,aw2] at hc;subst hc;exact .dw (VR.dropped (Zu hW g))
 | func f =>
  simp only[au,aw2] at hc;subst hc;exact .dw (.plain _ _ (.func _))
def QT(h:dY (y.eval G T)=none):y.addr G T=y.eval G T:=by
 cases y with
 | tmp t =>
  simp only[aI.addr,aI.eval] at h ⊢;cases hX:T t<;>rw[hX] at h<;>first|rfl|(simp[dY] at h)
 | yn v=>rfl
 | aX g=>rfl
 | fn f=>rfl
def pn.vr{n:Nat}{v:Value}(h:pn gh n nt w T gen tm v z)(hz:aO z=true):VR gh n w v z:=by
 cases z<;>first|exact h|(simp[aO] at hz)
def kP : aO z.drop=aO z:=by cases z<;>rfl
def cO(hW:aY G base s.H gh w)(hF:FR L nt gh w a s)(hc:au nt x=some y)(hz:y.eval G s.T=z)(hf:aO z=true) :
  VR gh s.H.length w (a.eval x) z.drop:=by
 have hg:dY (y.eval G s.T)=none:=by rw[hz];cases z<;>first|rfl|(simp[aO] at hf)
 have h:=arg_val hW hF hc;rw[QT hg,hz] at h;exact h.vr (by rw[kP];exact hf)
theorem qG(hW:aY G base s.H gh w)(hF:FR L nt gh w a s)(hc:au nt x=some y)(hz:y.addr G s.T=z)(hf:aO z=true) :
  VR gh s.H.length w (a.eval x) z.drop:=by
 have h:=arg_val hW hF hc;rw[hz] at h;exact h.vr (by rw[kP];exact hf)
def Ib(hF:FR L nt gh w a s){t:Nat}(aP:t<nt){e:List (List AV)}(hz:s.T t=.slice e own):CR gh s.H.length w (.sl t) (a.eval (.tmp t)) (.slice e own):=by
 have h:=hF.slot t aP;rw[hz] at h;exact h
end
end
section
section
variable {P:Program}{G:Nat->List AV}{base nt:Nat}{L:List Nat}{gh:Gh}{w:World}{a:Act}{s:AS}
def ay{α:Type}{b:Bool}{x:Option α}{y:α}(h:cond b x none=some y):b=true/\x=some y:=by cases b<;>simp_all
theorem aeK(hW:aY G base s.H gh w)(hF:FR L nt gh w a s){x:Operand}{y:aI}{take obj:Bool}(hc:au nt x=some y)
  (he:rO G s take obj y=some (z,none)):pn gh s.H.length nt w s.T s.gen (gv a) (a.eval x) z:=by
 have h:=arg_val hW hF hc;cases y with
 | tmp t =>
  simp only[rO] at he;simp only[aI.addr] at h;generalize hX:s.T t=X at h he;cases X<;>simp only[aw2,aw6,ax'] at he<;>(try subst he)<;>(try exact h)
  case slice e own =>
   cases take<;>cases own<;>simp at he<;>subst he<;>exact h
  case lsl g e =>
   cases take
   ·simp at he;subst he;exact h
   ·grind
  case iter=>cases he
 | yn v =>
  simp only[rO,aI.eval,aw2,aw6,ax'] at he;subst he;cases x<;>simp only[au,aw0,aw2,reduceCtorEq] at hc
  case tmp t=>exact absurd (ay hc).2 ae
  case const v' =>
   obtain⟨z,hz,hy⟩:=hc;injection hy with hy
   subst hy;exact .dw (kL hz)
 | aX g =>
  simp only[rO,aI.eval,aw2,aw6,ax'] at he;subst he;exact h
 | fn f =>
  simp only[rO,aI.eval,aw2,aw6,ax'] at he;subst he;exact h
theorem mN(hW:aY G base s.H gh w)(hF:FR L nt gh w a s){x:Operand}{y:aI}(hc:au nt x=some y)(h:asNat (y.eval G s.T)=some k) :
  ∃ kd,a.eval x=.int kd (k:Int):=by
 unfold asNat at h;split at h
 ·rename_i kd m hy
  obtain⟨h0,h1⟩:=ay h;have hm:(0:Int)<=m:=cJ h0;have Yc:m.toNat=k:=cJ h1;have hv:=(cO hW hF hc hy rfl).ko
  grind
 ·cases h
theorem pa{t:TypeId}(h:fe P t=some k):∃ i,P.info? t=some i/\i.size=k:=by
 simpa [fe,aw0] using h
def fa{t:TypeId}(h:fe P t=some k)(w:World):(sizeOf t).run P w=.ok k w:=by
 obtain⟨i,hi,hk⟩:=pa h;simp[sizeOf,typeInfo,hi,hk]
def jh{t:TypeId}{g:Bool}(h:og P t=some g)(w:World):(isAgg t).run P w=.ok g w:=by
 unfold og at h;simp only[aw0] at h;obtain⟨d,hd,hg⟩:=h;unfold isAgg;rw[Sem.run_bind,run_underlying hd w];subst hg;cases d<;>rfl
theorem addr_add(b o k:Nat):(⟨b,o,none⟩:Addr).add k=⟨b,o+k,none⟩:=by unfold Addr.add;split<;>simp_all
theorem mF{n:Nat}(hl:ah false agg sz off cs=some z){t:TypeId}(hg:og P t=some agg)(hs:fe P t=some sz)
  {b o:Nat} {f:Nat->Value} (hf:∀ (j:Nat) (x:AV),cs[j]?=some x->w.cell? ⟨b,o+j,none⟩=some (f j)/\(f j).oneCell'=true/\VR gh n w (f j) x.drop) :
  ∃ v,(loadVar t ⟨b,o+off,none⟩).run P w=.ok v w/\VR gh n w v z:=by
 unfold ah at hl;cases agg
 ·simp only[cond_false,aw0] at hl
  obtain⟨x,hx,rfl⟩:=hl;obtain⟨h1,h2,h3⟩:=hf off x hx;refine⟨f off,?_,h3⟩;simp[loadVar,jh hg,h1]
 ·simp only[cond_true] at hl
  obtain⟨h0,h1⟩:=ay hl;have h0' : off+sz<=cs.length:=by simpa [axv] using h0
  injection h1 with h1
  subst h1;have xL:(loadCells ⟨b,o+off,none⟩ sz).run P w=.ok ((List.range sz).map fun j=>f (off+j)).toArray w :=
   run_loadCells w _ sz (fun j=>f (off+j)) fun j hj=>by
    grind [addr_add]
  refine⟨.agg ((List.range sz).map fun j=>f (off+j)).toArray,by simp[loadVar,jh hg,fa hs,xL],?_⟩
  have hlen:(((cs.drop off).take sz).map AV.drop).length=sz:=df;refine .agg _ _ (by simp[];omega) ?_ ?_
  ·grind
  ·grind
def zQ(hF:FR L nt gh w a s)(hb:b<nt)(hT:s.T b=.lbox g cs) :
  ∃ k,gv a b=.pointer (some ⟨k,0,none⟩)/\iL gh s.H.length w k (.bx b) (fun j=>.sc b j) cs:=by
 have h:=hF.slot b hb;rw[hT] at h;exact h.2
theorem qm(hF:FR L nt gh w a s){e:List (List AV)}(hb:b<nt)(hT:s.T b=.lsl g e):uD gh w (.bx b) (gv a b) e:=by
 have h:=hF.slot b hb;rw[hT] at h;exact h.2
def rK{n:Nat}(h:iL gh n w b p q cs) :
  ∃ f:Nat->Value,∀ (j:Nat) (x:AV),cs[j]?=some x->w.cell? ⟨b,0+j,none⟩=some (f j)/\(f j).oneCell'=true/\VR gh n w (f j) x.drop:=by
 obtain⟨_,_,C,ty,hb,hC,iz⟩:=h;refine⟨fun j=>C.getD j undef,fun j x hx=>?_⟩
 have hj:j<cs.length:=(aw5.1 hx).1;have B4:j<C.size:=af;have hv:C[j]?=some C[j]:=axj B4;obtain⟨h1,h2⟩:=iz j _ x hv hx;refine⟨by rw[axC,cell_of_row w b j C ty _ hb];simp[B4],by simpa [B4] using h1,by simpa [B4] using h2.dropped⟩
def Y8(hW:aY G base s.H gh w)(hF:FR L nt gh w a s){t:TypeId}{x:Operand}{y:aI}{take:Bool}(hc:au nt x=some y)(hg:og P t=some agg)(hs:fe P t=some sz)
  (he:cH s take agg sz (y.addr G s.T)=some (z,none)) :
  ∃ v,(Instr.loadAt t (a.eval x)).run P w=.ok v w/\pn gh s.H.length nt w s.T s.gen (gv a) v z:=by
 have hv:=arg_val hW hF hc;have Qc:∀ {n:Nat} {off:Nat} {cs:List AV} {v:AV},ah take agg sz off cs=some v->(take&&!agg)=false->ah false agg sz off cs=some v:=by
  intro n off cs v h1 h2;cases take
  ·exact h1
  ·cases agg
   ·cases h2
   ·exact h1
 generalize hY:y.addr G s.T=Y at hv he;cases Y<;>simp only[cH] at he<;>try (cases he;done)
 case eptr cs =>
  simp only[aw0,aw6,ax'] at he;obtain⟨u,hu,rfl⟩:=he;have hp:=VR.zh (hv:VR gh s.H.length w (a.eval x) (.eptr cs));generalize hA:a.eval x=V at hp;cases hp with
  | eptr b o _ f cZ dh =>
   obtain⟨v,h1,h2⟩:=mF (gh:=gh) (n:=s.H.length) hu hg hs (b:=b) (o:=o) (f:=f)
    (fun j x hx=>⟨(cZ j x hx).2.1,(cZ j x hx).2.2,VR.dropped (.plain _ _ (dh j x hx))⟩)
   refine⟨v,?_,.dw h2⟩
   simpa [Instr.loadAt,Instr.sureAddr] using h1
 case ref loc off =>
  obtain⟨aP,ug⟩:=VR.kq (hv:VR gh s.H.length w (a.eval x) (.ref loc off));split at he
  ·rename_i Ys cs hH
   simp only[aw0,aw6] at he;obtain⟨u,hu,rfl,hn⟩:=he;have hq:(take&&!agg)=false:=by cases h:(take&&!agg)<;>simp_all
   obtain⟨f,hf⟩:=rK (hW.boxes loc _ cs hH);obtain⟨v,h1,h2⟩:=mF (gh:=gh) (n:=s.H.length) (Qc (n:=0) hu hq) hg hs (b:=gh.ρ loc) (o:=0) (f:=f) hf;refine⟨v,?_,.dw h2⟩;rw[ug]
   simpa [Instr.loadAt,Instr.sureAddr] using h1
  ·rename_i cs hH
   simp only[aw0,aw6,ax'] at he;obtain⟨u,hu,rfl⟩:=he;have hp:PR gh.S w (.pointer (some ⟨gh.ρ loc,0,none⟩)) (.eptr cs):=hW.more loc _ hH;generalize hB:gh.ρ loc=b0 at hp ug;cases hp with
   | eptr b o _ f cZ dh =>
    obtain⟨v,h1,h2⟩:=mF (gh:=gh) (n:=s.H.length) hu hg hs (b:=b0) (o:=0) (f:=f)
     (fun j x hx=>⟨(cZ j x hx).2.1,(cZ j x hx).2.2,VR.dropped (.plain _ _ (dh j x hx))⟩)
    refine⟨v,?_,.dw h2⟩;rw[ug]
    simpa [Instr.loadAt,Instr.sureAddr] using h1
  ·rename_i cs hH
   simp only[aw0,aw6,ax'] at he;obtain⟨u,hu,rfl⟩:=he;obtain⟨f,hf⟩:=rK (hW.more loc _ hH:iL gh s.H.length w (gh.ρ loc) (.hb loc) (fun j=>.hs loc j) cs)
   obtain⟨v,h1,h2⟩:=mF (gh:=gh) (n:=s.H.length) hu hg hs (b:=gh.ρ loc) (o:=0) (f:=f) hf;refine⟨v,?_,.dw h2⟩;rw[ug]
   simpa [Instr.loadAt,Instr.sureAddr] using h1
  ·cases he
 case lref b g off =>
  obtain⟨hb,S5,hr⟩:=(hv:_/\_/\_);split at he
  ·rename_i g' cs hT
   obtain⟨h0,iX⟩:=ay he;clear he;have KZ:g=g':=by simpa [im] using h0
   subst KZ
   rename _=some (z,none)=>he
   simp only[aw0,aw6] at he;obtain⟨u,hu,rfl,hn⟩:=he;have hq:(take&&!agg)=false:=by cases h:(take&&!agg)<;>simp_all
   obtain⟨k,hk,RG⟩:=zQ hF hb hT;have ug:=hr (by rw[hT];rfl) k hk
   obtain⟨f,hf⟩:=rK RG;obtain⟨v,h1,h2⟩:=mF (gh:=gh) (n:=s.H.length) (Qc (n:=0) hu hq) hg hs (b:=k) (o:=0) (f:=f) hf;refine⟨v,?_,.dw h2⟩;rw[ug]
   simpa [Instr.loadAt,Instr.sureAddr] using h1
  ·cases he
 case eref b g i zz off =>
  obtain⟨hb,S5,hr⟩:=(hv:_/\_/\_);split at he
  ·rename_i g' e hT
   obtain⟨h0,iX⟩:=ay he;clear he;have KZ:g=g':=by simpa [im] using h0
   subst KZ
   rename _=some (z,none)=>he
   simp only[oX] at he;obtain⟨r,NF,h1,he⟩:=he;have hz:r.length=zz:=by simpa [im] using h1
   simp only[aw0,aw6,ax'] at he;obtain⟨u,hu,rfl⟩:=he;obtain⟨ad,cap,o9,bQ⟩:=qm hF hb hT
   rcases bQ with ⟨rfl,_⟩|⟨k,C,ty,lq,_,rfl,hκ,hS,JL,hC,hl,B9,iz⟩
   ·simp at NF
   ·have ug:=hr (by rw[hT];rfl) k _ _ o9
    have j7:lq=zz:=by rw[<- hz,B9 i r NF]
    subst j7;obtain⟨v,h1,h2⟩:=mF (P:=P) (gh:=gh) (w:=w) (n:=s.H.length) hu hg hs (b:=k) (o:=i*lq) (f:=fun j=>C.getD (i*lq+j) undef) (fun j x hx=>by
     obtain⟨u,JR,ZS⟩:=iz i j r x NF hx;have hj:i*lq+j<C.size:=(axb.1 JR).1;have iX:C.getD (i*lq+j) undef=u:=by
      rw[axj hj] at JR;injection JR with JR
      simp[hj,JR]
     rw[iX,cell_of_row w k _ C ty _ JL,JR];exact⟨rfl,ZS.fJ,VR.dropped (.plain _ _ ZS)⟩)
    refine⟨v,?_,.dw h2⟩;rw[ug]
    simpa [Instr.loadAt,Instr.sureAddr] using h1
  ·cases he
end
end
section
section
variable {P:Program}{G:Nat->List AV}{base nt:Nat}{L:List Nat}{gh:Gh}{w:World}{a:Act}{s:AS}
def DX(hF:FR L nt gh w a s){v:Value}(hv:pn gh s.H.length nt w s.T s.gen (gv a) v z)(hl:cK s z=true) :
  ∃ b o,v=.pointer (some ⟨b,o,none⟩):=by
 cases z<;>simp only[cK,ayg] at hl
 case eptr cs =>
  have hp:=VR.zh (hv:VR gh s.H.length w v (.eptr cs));cases hp;exact⟨_,_,rfl⟩
 case ref loc off=>exact⟨_,_,(VR.kq (hv:VR gh s.H.length w v (.ref loc off))).2⟩
 case lref b g off =>
  obtain⟨hb,hg,hr⟩:=(hv:_/\_/\_);split at hl
  ·rename_i g' cs hT
   have KZ:g=g':=by simpa [im] using hl
   obtain⟨k,hk,_⟩:=zQ hF hb hT;exact⟨_,_,hr (by rw[hT,KZ];rfl) k hk⟩
  ·cases hl
 case eref b g i zz off =>
  obtain⟨hb,hg,hr⟩:=(hv:_/\_/\_);split at hl
  ·rename_i g' e hT
   obtain⟨h1,h2⟩:=by simpa [im,axp] using hl
   obtain⟨ad,cap,o9,bQ⟩:=qm hF hb hT
   rcases bQ with ⟨rfl,_⟩|⟨k,_,_,_,_,rfl,_⟩
   ·simp at h2
   ·exact⟨_,_,hr (by rw[hT,h1];rfl) k _ _ o9⟩
  ·cases hl
def Kz(hW:aY G base s.H gh w)(hF:FR L nt gh w a s){x:Operand}{y:aI}(ho:o.op=.nilCheck x)(hc:au nt x=some y)(hl:cK s (y.addr G s.T)=true) :
  ∃ v,(execOp a.eval o).run P w=.ok (.value v) w/\pn gh s.H.length nt w s.T s.gen (gv a) v (y.addr G s.T):=by
 have hv:=arg_val hW hF hc;have hd:(y.addr G s.T).drop=y.addr G s.T:=by cases hz:y.addr G s.T<;>rw[hz] at hl<;>first|rfl|(simp[cK] at hl)
 rw[hd] at hv;obtain⟨b,of,hp⟩:=DX hF hv hl;refine⟨a.eval x,?_,hv⟩;simp[execOp,ho,hp]
theorem Qd(hF:FR L nt gh w a s){v:Value}{z':AV}(hv:pn gh s.H.length nt w s.T s.gen (gv a) v z)(hl:cK s z=true)(ho:iK off z=some z') :
  ∃ b o,v=.pointer (some ⟨b,o,none⟩)/\pn gh s.H.length nt w s.T s.gen (gv a) (.pointer (some ⟨b,o+off,none⟩)) z':=by
 cases z<;>simp only[iK,aw2,reduceCtorEq] at ho<;>subst ho
 case eptr cs =>
  have hp:=VR.zh (hv:VR gh s.H.length w v (.eptr cs));cases hp with
  | eptr b o _ f cZ dh =>
   refine⟨b,o,rfl,.dw (.plain _ _ (.eptr b (o+off) _ (fun j=>f (off+j)) ?_ ?_))⟩
   ·grind
   ·grind
 case ref loc of =>
  obtain⟨aP,rfl⟩:=VR.kq (hv:VR gh s.H.length w v (.ref loc of));exact⟨_,_,rfl,.dw (.ref loc (of+off) aP)⟩
 case lref b g of =>
  obtain⟨k,o,rfl⟩:=DX hF hv hl;obtain⟨hb,hg,hr⟩:=(hv:_/\_/\_);refine⟨k,o,rfl,hb,hg,fun h1 b' h2=>?_⟩
  grind
 case eref b g i zz of =>
  obtain⟨k,o,rfl⟩:=DX hF hv hl;obtain⟨hb,hg,hr⟩:=(hv:_/\_/\_);refine⟨k,o,rfl,hb,hg,fun h1 b' c1 c2 h2=>?_⟩
  grind
def Hg(hl:cK s z=true):z.drop=z:=by cases z<;>first|rfl|(simp[cK] at hl)
def Ir(hW:aY G base s.H gh w)(hF:FR L nt gh w a s){t:TypeId}{x:Operand}{f:Nat}{y:aI}{fs:Array Go.Field}{q:Go.Field}
  (ho:o.op=.fieldAddr t x f) (hc:au nt x=some y) (hu:P.underlying t=some (.struct fs)) (hq:fs[f]?=some q) (hs:fe P q.type=some sz) (h0:0<sz)
  (hl:cK s (y.addr G s.T)=true) (he:iK q.offset (y.addr G s.T)=some z) :
  ∃ v,(execOp a.eval o).run P w=.ok (.value v) w/\pn gh s.H.length nt w s.T s.gen (gv a) v z:=by
 have hv:=arg_val hW hF hc;rw[Hg hl] at hv;obtain⟨b,of,hp,o9⟩:=Qd hF hv hl he;refine⟨_,?_,o9⟩;have da:¬ sz=0:=by omega
 simp[execOp,ho,hp,Instr.fieldAt,run_underlying hu,hq,Instr.sureAddr,fieldPlace,fa hs,da,addr_add]
def Uv(hW:aY G base s.H gh w)(hF:FR L nt gh w a s){t:TypeId}{x:Operand}{n:Nat}{y:aI}
  (ho:o.op=.indexAddr t x i) (hc:au nt x=some y) (hi:au nt i=some yi) (hu:P.underlying t=some (.array n e)) (hs:fe P e=some sz)
  (hk:asNat (yi.eval G s.T)=some k) (RL:k<n) (hl:cK s (y.addr G s.T)=true) (he:iK (k*sz) (y.addr G s.T)=some z) :
  ∃ v,(execOp a.eval o).run P w=.ok (.value v) w/\pn gh s.H.length nt w s.T s.gen (gv a) v z:=by
 have hv:=arg_val hW hF hc;rw[Hg hl] at hv;obtain⟨b,of,hp,o9⟩:=Qd hF hv hl he;obtain⟨kd,IG⟩:=mN hW hF hi hk;refine⟨_,?_,o9⟩;have h1:k<n:=RL;simp[execOp,ho,hp,IG,Instr.indexAt,asIntOf,run_underlying hu,Instr.sureAddr,fa hs,h1,addr_add]
def Y6(hW:aY G base s.H gh w)(hF:FR L nt gh w a s){t:TypeId}{x:Operand}{y:aI}
  (ho:o.op=.indexAddr t x i) (hc:au nt x=some y) (hi:au nt i=some yi) (hu:P.underlying t=some (.slice e)) (hs:fe P e=some sz)
  (hk:asNat (yi.eval G s.T)=some k) (hy:y.addr G s.T=.slice el own) (hr:el[k]?=some r) (B9:r.length=sz) :
  ∃ v,(execOp a.eval o).run P w=.ok (.value v) w/\pn gh s.H.length nt w s.T s.gen (gv a) v (.eptr r):=by
 have hv:=VR.jx (qG hW hF hc hy rfl);obtain⟨kd,IG⟩:=mN hW hF hi hk;generalize hA:a.eval x=V at hv;cases hv with
 | dr=>simp at hr
 | slice b of n cap lq _ f hn kQ bQ cZ dh =>
  have Gf:k<el.length:=(aw5.1 hr).1;have j7:lq=sz:=by rw[<- B9,bQ k r hr]
  subst j7;refine⟨.pointer (some ⟨b,of+k*lq,none⟩),?_,.dw (.plain _ _ (.eptr b (of+k*lq) r (f k) (fun j x hx=>cZ k j r x hr hx) (fun j x hx=>dh k j r x hr hx)))⟩
  have h1:k<n:=by omega
  simp[execOp,ho,hA,IG,Instr.indexAt,asIntOf,run_underlying hu,fa hs,h1,addr_add]
def Rm(hW:aY G base s.H gh w)(hF:FR L nt gh w a s){t:TypeId}{x:Operand}{l of m zz:Nat}{y:aI}
  (ho:o.op=.indexAddr t x i) (hc:au nt x=some y) (hi:au nt i=some yi) (hu:P.underlying t=some (.slice e)) (hs:fe P e=some sz)
  (hk:asNat (yi.eval G s.T)=some k) (hy:y.addr G s.T=.sref l of m zz) (hkm:k<m) :
  ∃ v,(execOp a.eval o).run P w=.ok (.value v) w/\pn gh s.H.length nt w s.T s.gen (gv a) v (.ref l (of+k*sz)):=by
 obtain⟨aP,cap,_,_,hA⟩:=VR.kS (qG hW hF hc hy rfl);obtain⟨kd,IG⟩:=mN hW hF hi hk;refine⟨.pointer (some ⟨gh.ρ l,of+k*sz,none⟩),?_,.dw (.ref l (of+k*sz) aP)⟩;simp[execOp,ho,hA,IG,Instr.indexAt,asIntOf,run_underlying hu,fa hs,hkm,addr_add]
theorem Uw(hW:aY G base s.H gh w)(hF:FR L nt gh w a s){t:TypeId}{x:Operand}{y:aI}
  (ho:o.op=.indexAddr t x i) (hc:au nt x=some y) (hi:au nt i=some yi) (hu:P.underlying t=some (.slice e)) (hs:fe P e=some sz)
  (hk:asNat (yi.eval G s.T)=some k) (hy:y.addr G s.T=.lsr b g) (hT:s.T b=.lsl g el) (hr:el[k]?=some r) (B9:r.length=sz) :
  ∃ v,(execOp a.eval o).run P w=.ok (.value v) w/\pn gh s.H.length nt w s.T s.gen (gv a) v (.eref b g k sz 0):=by
 have hv:=arg_val hW hF hc;rw[hy] at hv;obtain⟨hb,hg,hrr⟩:=(hv:_/\_/\_);obtain⟨kd,IG⟩:=mN hW hF hi hk;have ug:=hrr (by rw[hT];rfl)
 have Gf:k<el.length:=(aw5.1 hr).1;obtain⟨ad,cap,o9,bQ⟩:=qm hF hb hT
 rcases bQ with ⟨rfl,_⟩|⟨c,C,ty,lq,_,rfl,hκ,hS,JL,hC,hl,hrw,iz⟩
 ·simp at hr
 ·have h1:k<el.length:=Gf
  refine⟨.pointer (some ⟨c,k*sz,none⟩),?_,hb,hg,fun _ b' c1 c2 h2=>?_⟩
  ·simp[execOp,ho,ug,o9,IG,Instr.indexAt,asIntOf,run_underlying hu,fa hs,h1,addr_add]
  ·grind
def Zc(hW:aY G base s.H gh w)(hF:FR L nt gh w a s){c x y:Operand}{ic iy:aI}{t:Bool}
  (ho:o.op=.pick c x y) (hc:au nt c=some ic) (hx:au nt x=some ix) (hy:au nt y=some iy) (ht:ic.eval G s.T=.bool t) :
  ∃ v,(execOp a.eval o).run P w=.ok (.value v) w/\pn gh s.H.length nt w s.T s.gen (gv a) v (cond t (ix.addr G s.T).drop (iy.addr G s.T).drop):=by
 have hb:=(cO hW hF hc ht rfl).lZ;have h1:=arg_val hW hF hx;have h2:=arg_val hW hF hy;cases t
 ·exact⟨_,by simp[execOp,ho,hb,asBool],h2⟩
 ·exact⟨_,by simp[execOp,ho,hb,asBool],h1⟩
def ajN(hW:aY G base s.H gh w)(hF:FR L nt gh w a s){op:UnOp}{t:TypeId}{x:Operand}
  (ho:o.op=.unOp op t x) (hc:au nt x=some ix) (he:yj op (ix.eval G s.T)=some z) :
  ∃ v,(execOp a.eval o).run P w=.ok (.value v) w/\pn gh s.H.length nt w s.T s.gen (gv a) v z:=by
 generalize hz:ix.eval G s.T=X at he;unfold yj at he
 split at he<;>first|(injection he with he;subst he)|cases he
 ·have hv:=(cO hW hF hc hz rfl).ko
  exact⟨_,by simp[execOp,ho,hv,Op.unary,Op.intArith],.dw (.plain _ _ (.int _ _))⟩
 ·have hv:=(cO hW hF hc hz rfl).lZ
  exact⟨_,by simp[execOp,ho,hv,Op.unary],.dw (.plain _ _ (.bool _))⟩
def UA(hW:aY G base s.H gh w)(hF:FR L nt gh w a s){x:Operand}{k k':IntKind}
  (ho:o.op=.convert st dt x) (hc:au nt x=some ix) (hs:P.underlying st=some (.int k')) (hd:P.underlying dt=some (.int k)) (he:j8 (.toInt k) (ix.eval G s.T)=some z) :
  ∃ v,(execOp a.eval o).run P w=.ok (.value v) w/\pn gh s.H.length nt w s.T s.gen (gv a) v z:=by
 generalize hz:ix.eval G s.T=X at he;cases X<;>simp[j8] at he
 subst he;have hv:=(cO hW hF hc hz rfl).ko;exact⟨_,by simp[execOp,ho,hv,convert,run_underlying hs,run_underlying hd,Conv.intToInt],.dw (.plain _ _ (.int _ _))⟩
def Ng(hW:aY G base s.H gh w)(hF:FR L nt gh w a s){x:Operand}
  (ho:o.op=.convert st dt x) (hc:au nt x=some ix) (hs:P.underlying st=some .string) (hd:P.underlying dt=some .string) (he:j8 .Js (ix.eval G s.T)=some z) :
  ∃ v,(execOp a.eval o).run P w=.ok (.value v) w/\pn gh s.H.length nt w s.T s.gen (gv a) v z:=by
 generalize hz:ix.eval G s.T=X at he;cases X<;>simp[j8] at he
 subst he;obtain⟨b,hv,hl⟩:=(cO hW hF hc hz rfl).ku;exact⟨_,by simp[execOp,ho,hv,convert,run_underlying hs,run_underlying hd],.dw (.plain _ _ (.str _ _ hl))⟩
def foldl_push(ns:List Int):∀ s:ByteArray,(ns.foldl (fun r n=>r.push (UInt8.ofNat n.toNat)) s).data.toList=s.data.toList++ns.map fun n=>UInt8.ofNat n.toNat:=by
 induction ns with
 | nil=>intro s;simp
 | cons n ns ih=>intro s;rw[azy,ih];simp[ByteArray.push]
def Bo:∀ {e:List (List AV)} {l:List UInt8},bytesOf e=some l->∃ ns:List Int,e=ns.map (fun n=>[AV.int .u8 n])/\l=ns.map fun n=>UInt8.ofNat n.toNat
 | [],l,h=>by simp[bytesOf] at h;exact⟨[],rfl,by simp[h]⟩
 | r :: e,l,h=>by
  unfold bytesOf at h;split at h
  ·rename_i hh;cases hh
  ·rename_i n r' heq
   injection heq with h1 h2
   subst h1 h2;simp only[aw0] at h;obtain⟨l',Gg,rfl⟩:=h;obtain⟨ns,rfl,rfl⟩:=Bo Gg;exact⟨n :: ns,rfl,rfl⟩
  ·cases h
theorem SK{n0:Nat}{V:Value}{ns:List Int}(hv:PR gh.S w V (.slice (ns.map fun n=>[AV.int .u8 n]) false)) :
  ∃ q:ByteArray,(Conv.bytesToString V).run P w=.ok (.string q) w/\q.data.toList=ns.map (fun n=>UInt8.ofNat n.toNat)/\∃ b c d,V=.slice b c d:=by
 generalize hE:(ns.map fun n=>[AV.int .u8 n])=E at hv
 cases hv with
 | dr =>
  have:ns=[]:=by simpa using hE
  subst this;exact⟨ByteArray.empty,by simp[Conv.bytesToString],rfl,_,_,_,rfl⟩
 | slice b of n cap lq _ f hn kQ bQ cZ dh =>
  subst hE;have hlen:n=ns.length:=by rw[<- hn];simp
  have Ve:(loadCells ⟨b,of,none⟩ n).run P w=.ok (ns.map (Value.int .u8)).toArray w:=by
   have:=run_loadCells_list (P:=P) w ⟨b,of,none⟩ (ns.map (Value.int .u8)) (fun j v hj=>by
    simp only[List.getElem?_map,aw0] at hj;obtain⟨m,hm,rfl⟩:=hj;have hr:(ns.map fun n=>[AV.int .u8 n])[j]?=some [AV.int .u8 m]:=by simp[hm]
    have pH:lq=1:=by rw[<- bQ j _ hr];rfl
    subst pH;obtain⟨_,h1,_⟩:=cZ j 0 _ _ hr rfl;have h2:=dh j 0 _ _ hr rfl;have h3:f j 0=.int .u8 m:=by generalize f j 0=F at h2;cases h2;rfl
    rw[addr_add,<- h3,<- h1];simp)
   grind
  refine⟨_,run_bytesToString w _ n cap ns Ve,?_,_,_,_,rfl⟩;rw[foldl_push];simp[ByteArray.empty,ByteArray.emptyWithCapacity];rfl
def Kw(hW:aY G base s.H gh w)(hF:FR L nt gh w a s){x:Operand}
  (ho:o.op=.convert st dt x) (hc:au nt x=some ix) (hs:P.underlying st=some (.slice e)) (hE:P.underlying e=some (.int .u8)) (hd:P.underlying dt=some .string) (he:j8 .C8 (ix.eval G s.T)=some z) :
  ∃ v,(execOp a.eval o).run P w=.ok (.value v) w/\pn gh s.H.length nt w s.T s.gen (gv a) v z:=by
 generalize hz:ix.eval G s.T=X at he;cases X<;>simp only[j8,reduceCtorEq,aw0] at he
 obtain⟨l,hl,rfl⟩:=he;obtain⟨ns,rfl,rfl⟩:=Bo hl;have hv:=VR.jx (cO hW hF hc hz rfl);obtain⟨q,h1,h2,b,c,d,hV⟩:=SK (P:=P) (n0:=0) hv;refine⟨.string q,?_,.dw (.plain _ _ (.str _ _ h2))⟩;have h3:(convert st dt (a.eval x)).run P w=.ok (.string q) w:=by rw[hV] at h1 ⊢;rw[run_convert_bytes_string w st dt e b c d hs hE hd,h1]
 simp[execOp,ho,h3]
end
end
end Go.Abs
end
