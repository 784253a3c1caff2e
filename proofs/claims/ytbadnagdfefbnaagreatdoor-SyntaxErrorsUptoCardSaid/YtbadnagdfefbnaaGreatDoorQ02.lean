/-
  A part of the proof of SyntaxErrors: AbsRule, AbsEq, AbsOb, AbsRel, AbsFrame, AbsArg, AbsOps1, AbsOps2.
-/
import Derived.IntWalk
import Derived.Laws.AppendOwn
import Derived.Below
import Derived.WalkKit
import Derived.Test.YtbadnagdfefbnaaGreatDoorQ01
set_option linter.unusedSimpArgs false
set_option linter.unusedVariables false
set_option linter.defProp false
noncomputable section
namespace Go.Abs
variable {own:Bool}{e f:List (List AV)}{bytes sz:Nat}{G:Nat->List AV}{o:Option AV}{op:ow}
section
def mE(s:Nat):AV->AV
 | .lbox g _=>.lref s g 0
 | .lsl g _=>.lsr s g
 | .iter ..=>.any
 | v=>v
def afj{G:Nat->List AV}{T:aD}{s:Nat} : aE.addr G T (.tmp s)=mE s (T s):=by
 simp only[aE.addr,mE];split<;>simp_all
section
def PC{b:Bool} : AV.drop (AV.bool b)=(.bool b):=rfl
def SJ{k:IntKind}{n:Int} : AV.drop (AV.int k n)=(.int k n):=rfl
def SL{l:List UInt8} : AV.drop (AV.str l)=(.str l):=rfl
def LV:AV.drop AV.ar=.ar:=rfl
def KA:AV.plain AV.ar=true:=rfl
def Tb:aN AV.ar=true:=rfl
def LW{e:List (List AV)}{own:Bool} : AV.drop (AV.slice e own)=.slice e false:=rfl
def SK{loc off:Nat} : AV.drop (AV.ref loc off)=(.ref loc off):=rfl
def PE{loc off n z:Nat} : AV.drop (AV.sref loc off n z)=(.sref loc off n z):=rfl
def PD{f:Fn}{fs cs:List AV} : AV.drop (AV.func f fs cs)=(.func f fs cs):=rfl
def SI{cs:List AV} : AV.drop (AV.agg cs)=(.agg cs):=rfl
def Hr{b:Bool} : AV.dh (AV.bool b)=(.bool b):=rfl
def Jj{k:IntKind}{n:Int} : AV.dh (AV.int k n)=(.int k n):=rfl
def Jl{l:List UInt8} : AV.dh (AV.str l)=(.str l):=rfl
def zT:AV.dh AV.df=.df:=rfl
def Fk{e:List (List AV)}{own:Bool} : AV.dh (AV.slice e own)=.slice e false:=rfl
def Jk{loc off:Nat} : AV.dh (AV.ref loc off)=(.ref loc off):=rfl
def Hs{f:Fn}{fs cs:List AV} : AV.dh (AV.func f fs cs)=(.func f fs cs):=rfl
def Fj{t:TypeId}{v:AV} : AV.dh (AV.iface t v)=(.iface t v):=rfl
def AN{cs:List AV} : AV.dh (AV.agg cs)=.agg (cs.map AV.drop):=rfl
def XN{b:Bool} : aN (AV.bool b)=true:=rfl
def ac2{k:IntKind}{n:Int} : aN (AV.int k n)=true:=rfl
def ac4{l:List UInt8} : aN (AV.str l)=true:=rfl
def JB:aN AV.df=true:=rfl
def Tc{e:List (List AV)}{own:Bool} : aN (AV.slice e own)=true:=rfl
def ac3{loc off:Nat} : aN (AV.ref loc off)=true:=rfl
def XP{loc off n z:Nat} : aN (AV.sref loc off n z)=true:=rfl
def XO{f:Fn}{fs cs:List AV} : aN (AV.func f fs cs)=true:=rfl
def ac1{cs:List AV} : aN (AV.agg cs)=true:=rfl
def LK{b:Bool} : AV.cells (AV.bool b)=some [(.bool b)]:=rfl
def Pv{k:IntKind}{n:Int} : AV.cells (AV.int k n)=some [(.int k n)]:=rfl
def Px{l:List UInt8} : AV.cells (AV.str l)=some [(.str l)]:=rfl
def Jc{e:List (List AV)}{own:Bool} : AV.cells (AV.slice e own)=some [(.slice e own)]:=rfl
def Pw{loc off:Nat} : AV.cells (AV.ref loc off)=some [(.ref loc off)]:=rfl
def LO{loc off n z:Nat} : AV.cells (AV.sref loc off n z)=some [(.sref loc off n z)]:=rfl
def LN{f:Fn}{fs cs:List AV} : AV.cells (AV.func f fs cs)=some [(.func f fs cs)]:=rfl
def FY{cs:List AV} : AV.cells (AV.agg cs)=some cs:=rfl
def M5{b:Bool} : AV.plain (AV.bool b)=true:=rfl
def QX{k:IntKind}{n:Int} : AV.plain (AV.int k n)=true:=rfl
def QZ{l:List UInt8} : AV.plain (AV.str l)=true:=rfl
def Dw:AV.plain AV.df=true:=rfl
def KB{e:List (List AV)}{own:Bool} : AV.plain (AV.slice e own)=!own:=rfl
def Hn{base:Nat}{b:Bool} : AV.bw base (AV.bool b)=AV.plain (.bool b):=rfl
def Ja{base:Nat}{k:IntKind}{n:Int} : AV.bw base (AV.int k n)=AV.plain (.int k n):=rfl
def Jb{base:Nat}{l:List UInt8} : AV.bw base (AV.str l)=AV.plain (.str l):=rfl
def zQ{base:Nat} : AV.bw base AV.df=AV.plain .df:=rfl
def Fg{base:Nat}{e:List (List AV)}{own:Bool} : AV.bw base (AV.slice e own)=AV.plain (.slice e own):=rfl
def Ie{base:Nat}{b:Bool} : AV.fu base (AV.bool b)=AV.bw base (.bool b):=rfl
def Kx{base:Nat}{k:IntKind}{n:Int} : AV.fu base (AV.int k n)=AV.bw base (.int k n):=rfl
def Ky{base:Nat}{l:List UInt8} : AV.fu base (AV.str l)=AV.bw base (.str l):=rfl
def An{base:Nat} : AV.fu base AV.df=AV.bw base .df:=rfl
def FH{base:Nat}{e:List (List AV)}{own:Bool} : AV.fu base (AV.slice e own)=AV.bw base (.slice e own):=rfl
def Kw{base:Nat}{cs:List AV} : AV.fu base (AV.agg cs)=cs.all (AV.bw base):=rfl
def Kd{base:Nat}{b:Bool} : AV.leaves base (AV.bool b)=AV.fu base (.bool b):=rfl
def MC{base:Nat}{k:IntKind}{n:Int} : AV.leaves base (AV.int k n)=AV.fu base (.int k n):=rfl
def MD{base:Nat}{l:List UInt8} : AV.leaves base (AV.str l)=AV.fu base (.str l):=rfl
def H5{base:Nat}{e:List (List AV)}{own:Bool} : AV.leaves base (AV.slice e own)=true:=rfl
def MB{base:Nat}{cs:List AV} : AV.leaves base (AV.agg cs)=AV.fu base (.agg cs):=rfl
def H6{base:Nat}{vs:List AV} : AV.leaves base (AV.tuple vs)=vs.all (AV.fu base):=rfl
def Lp{s:Nat}{b:Bool} : mE s (AV.bool b)=(.bool b):=rfl
def Pf{s:Nat}{k:IntKind}{n:Int} : mE s (AV.int k n)=(.int k n):=rfl
def Pj{s:Nat}{l:List UInt8} : mE s (AV.str l)=(.str l):=rfl
def I2{s:Nat}{e:List (List AV)}{own:Bool} : mE s (AV.slice e own)=(.slice e own):=rfl
def Lr{s:Nat}{cs:List AV} : mE s (AV.eptr cs)=(.eptr cs):=rfl
def Ph{s:Nat}{loc off:Nat} : mE s (AV.ref loc off)=(.ref loc off):=rfl
def Lx{s:Nat}{loc off n z:Nat} : mE s (AV.sref loc off n z)=(.sref loc off n z):=rfl
def Lw{s:Nat}{loc:Nat} : mE s (AV.mref loc)=(.mref loc):=rfl
def Lu{s:Nat}{g:Nat}{cs:List AV} : mE s (AV.lbox g cs)=.lref s g 0:=rfl
def Lv{s:Nat}{r g off:Nat} : mE s (AV.lref r g off)=(.lref r g off):=rfl
def Pg{s:Nat}{r g:Nat} : mE s (AV.lsr r g)=(.lsr r g):=rfl
def Ls{s:Nat}{r g i z off:Nat} : mE s (AV.eref r g i z off)=(.eref r g i z off):=rfl
def Lt{s:Nat}{f:Fn}{fs cs:List AV} : mE s (AV.func f fs cs)=(.func f fs cs):=rfl
def Pe{s:Nat}{cs:List AV} : mE s (AV.agg cs)=(.agg cs):=rfl
def I3{s:Nat}{vs:List AV} : mE s (AV.tuple vs)=(.tuple vs):=rfl
end
def jK(A:AP)(o:Option AV)(t:Nat)(os:List aV)(T:aD)(H:ae)(lo gen:Nat)(K:AS->Prop):Prop :=
 cd o fun z=>WO A os ⟨T.put t z,H,lo,gen⟩ K
def oD(A:AP)(take obj:Bool)(i:Nat)(v:AV)(t:Nat)(os:List aV)(T:aD)(H:ae)(lo gen:Nat)(K:AS->Prop):Prop :=
 cd (match v with
  | .lbox g _=>some (AV.lref i g 0,(⟨T,H,lo,gen⟩:AS))
  | .lsl g e=>cond take (cond obj (some (.lsl gen e,⟨T.put i .any,H,lo,gen+1⟩)) (cond (ng e) (some (.slice e true,⟨T.put i (.slice e false),H,lo,gen⟩)) none)) (some (.lsr i g,⟨T,H,lo,gen⟩))
  | .slice e own=>cond (take&&own) (some (.slice e true,⟨T.put i (.slice e false),H,lo,gen⟩)) (some (.slice e false,⟨T,H,lo,gen⟩))
  | .iter ..=>none
  | v=>some (v,⟨T,H,lo,gen⟩)) fun r=>WO A os (r.2.cx t r.1) K
def oA(A:AP)(v:AV)(w:Bool)(t:Nat)(op:ow)(os:List aV)(T:aD)(H:ae)(lo gen:Nat)(K:AS->Prop):Prop :=
 cd (match v with|.bool b=>some (b==w)|.tuple []=>some false|_=>none) fun b =>
  (b=true->WO A (⟨some t,none,op⟩ :: os) ⟨T,H,lo,gen⟩ K)/\(b=false->WO A os ⟨T.put t .undef,H,lo,gen⟩ K)
def yd(A:AP)(r:Option (AV × Option fP))(t:Nat)(os:List aV)(T:aD)(H:ae)(lo gen:Nat)(K:AS->Prop):Prop :=
 cd (r.bind fun r=>match r.2 with
  | none=>some (r.1,(⟨T,H,lo,gen⟩:AS))
  | some c=>some (r.1,AS.iK ⟨T,H,lo,gen⟩ c)) fun r=>WO A os (r.2.cx t r.1) K
def da(G:Nat->List AV)(T:aD):List aE->List AV
 | []=>[]
 | a :: r=>(a.addr G T).dh :: da G T r
def cj(G:Nat->List AV)(T:aD):List aE->Bool
 | []=>true
 | a :: r=>aN (a.addr G T)&&cj G T r
def x8{T:aD} : ∀ l:List aE,l.map (fun a=>(a.addr G T).dh)=da G T l
 | []=>rfl
 | a :: r=>by simp[da,x8 r]
def vm{T:aD} : ∀ l:List aE,(l.map fun a=>a.addr G T).all aN=cj G T l
 | []=>rfl
 | a :: r=>by simp only[avm,List.all_cons,cj,vm r]
def cE(G:Nat->List AV)(T:aD):List (Nat × Nat × aE)->List (Nat × Nat × AV)
 | []=>[]
 | (o,z,a) :: r=>(o,z,(a.eval G T).drop) :: cE G T r
def GM{T:aD} : ∀ l:List (Nat × Nat × aE),l.map (fun p=>(p.1,p.2.1,(p.2.2.eval G T).drop))=cE G T l
 | []=>rfl
 | a :: r=>by simp[cE,GM r]
def cr(G:Nat->List AV)(T:aD):List (Nat × aE)->List (Nat × AV)
 | []=>[]
 | (i,a) :: r=>(i,(a.eval G T).drop) :: cr G T r
def zU{T:aD} : ∀ l:List (Nat × aE),l.map (fun p=>(p.1,(p.2.eval G T).drop))=cr G T l
 | []=>rfl
 | a :: r=>by simp[cr,zU r]
def gK(G:Nat->List AV)(T:aD):Option aE->Option AV
 | none=>none
 | some a=>some (a.eval G T)
def OR(c a b:AV):Option AV:=match c with
 | .bool t=>some (cond t a.drop b.drop)
 | _=>none
def U9(b:Bool)(o:Option (List (List AV))):Option AV:=o.bind fun E=>cond (nP b E) (some (.slice E true)) none
def bU(o:Option bS)(agg:Bool)(sz off:Nat):Option AV:=match o with
 | some (.box _ cs)=>ab false agg sz off cs
 | some (.Ta cs)=>ab false agg sz off cs
 | some (.bZ cs)=>ab false agg sz off cs
 | _=>none
def pj(v:AV)(g:Nat)(agg:Bool)(sz off:Nat):Option AV:=match v with
 | .lbox g' cs=>cond (Nat.beq g g') (ab false agg sz off cs) none
 | _=>none
def DC(o:Option (List AV))(z:Nat)(agg:Bool)(sz off:Nat):Option AV:=o.bind fun r=>cond (Nat.beq r.length z) (ab false agg sz off r) none
def y7(v:AV)(g i z:Nat)(agg:Bool)(sz off:Nat):Option AV:=match v with
 | .lsl g' e=>cond (Nat.beq g g') (DC (e[i]?) z agg sz off) none
 | _=>none
def y3(T:aD)(H:ae)(agg:Bool)(sz:Nat)(x:AV):Option AV:=match x with
 | .eptr cs=>ab false agg sz 0 cs
 | .ref loc off=>bU H[loc]? agg sz off
 | .lref b g off=>pj (T b) g agg sz off
 | .eref b g i z off=>y7 (T b) g i z agg sz off
 | _=>none
def pV(v:AV)(g:Nat)(r:AV):Option AV:=match v with
 | .lbox g' _=>cond (Nat.beq g g') (some r) none
 | _=>none
def y8(v:AV)(g i:Nat)(r:AV):Option AV:=match v with
 | .lsl g' e=>cond (Nat.beq g g'&&Nat.blt i e.length) (some r) none
 | _=>none
def faV(T:aD)(off:Nat)(x:AV):Option AV:=match x with
 | .ref l o=>some (.ref l (o+off))
 | .eptr cs=>some (.eptr (cs.drop off))
 | .lref b g o=>pV (T b) g (.lref b g (o+off))
 | .eref b g i z o=>y8 (T b) g i (.eref b g i z (o+off))
 | _=>none
def Nj(sz:Nat)(r:Option (List AV))(f:List AV->AV):Option AV:=r.bind fun r=>cond (Nat.beq r.length sz) (some (f r)) none
def ixV(T:aD)(sz:Nat)(x:AV)(n:Option Nat):Option AV:=match x with
 | .slice e _=>n.bind fun n=>Nj sz (e[n]?) .eptr
 | .sref l o m _=>n.bind fun n=>cond (Nat.blt n m) (some (.ref l (o+n*sz))) none
 | .lsr t g=>match T t with
  | .lsl g' e=>cond (Nat.beq g g') (n.bind fun n=>Nj sz (e[n]?) fun _=>.eref t g n sz 0) none
  | _=>none
 | _=>none
def Mt(agg:Bool)(n sz:Nat)(x:AV)(i:Option Nat):Option AV:=match x with
 | .agg cs=>i.bind fun k=>cond (Nat.blt k n) (ab false agg sz (k*sz) cs) none
 | _=>none
def LJ(o:Option UInt8):Option AV:=o.map fun (b:UInt8)=>AV.int .u8 b.toNat
def Sr(x:AV)(i:Option Nat):Option AV:=match x with
 | .str l=>i.bind fun n=>LJ (l[n]?)
 | _=>none
def S7(x:AV)(i:Nat):Option AV:=match x with
 | .tuple vs=>(vs[i]?).map AV.dh
 | _=>none
def MF(T:aD)(k:sD)(x:AV):Option AV:=match x with
 | .lsr t g=>match T t with
  | .lsl g' e=>cond (Nat.beq g g') (de k (.slice e false)) none
  | _=>none
 | v=>de k v
def St(A:AP)(f:AV)(vs:List AV)(t:Nat)(os:List aV)(T:aD)(H:ae)(lo gen:Nat)(K:AS->Prop):Prop:=match f with
 | .func (.func n) fs cs=>yd A (aj A n (fs++vs++cs) H) t os T H lo gen K
 | _=>False
def Xi(A:AP)(b:Bool)(sz bytes i:Nat)(x y:AV)(t:Nat)(os:List aV)(T:aD)(H:ae)(lo gen:Nat)(K:AS->Prop):Prop:=match x with
 | .slice e own=>cd (aG b sz bytes (.slice e own) y) fun z=>WO A os ⟨(T.put i (.slice e false)).put t z,H,lo,gen⟩ K
 | .ar=>cd (aG b sz bytes (.slice [] true) y) fun z=>WO A os ⟨T.put t z,H,lo,gen⟩ K
 | _=>False
section
variable {A:AP}{T:aD}{H:ae}{lo gen:Nat}{K:AS->Prop}{os:List aV}{t:Nat}
def xK{z:AV} : jK A (some z) t os T H lo gen K=WO A os ⟨T.put t z,H,lo,gen⟩ K:=aW
def ab9(z:AV)(h:o=some z)(hK:WO A os ⟨T.put t z,H,lo,gen⟩ K):jK A o t os T H lo gen K:=by
 rw[h,xK];exact hK
def ik(h:aR A.aY (aj A) ⟨T,H,lo,gen⟩ op=o.map (·,none)):WO A (⟨some t,none,op⟩ :: os) ⟨T,H,lo,gen⟩ K=jK A o t os T H lo gen K:=by
 rw[fZ];cases o with
 | none=>simp[jK,aS,h,cd]
 | some z =>
  simp only[jK,aS,h,ave,au9];simp only[aW];rfl
section
variable {take obj:Bool}{i:Nat}
def YT{b:Bool} : oD A take obj i (AV.bool b) t os T H lo gen K=WO A os ⟨T.put t (AV.bool b),H,lo,gen⟩ K:=aW
def aeO{k:IntKind}{n:Int} : oD A take obj i (AV.int k n) t os T H lo gen K=WO A os ⟨T.put t (AV.int k n),H,lo,gen⟩ K:=aW
def aeT{l:List UInt8} : oD A take obj i (AV.str l) t os T H lo gen K=WO A os ⟨T.put t (AV.str l),H,lo,gen⟩ K:=aW
def Km:oD A take obj i AV.df t os T H lo gen K=WO A os ⟨T.put t AV.df,H,lo,gen⟩ K:=aW
def aeP{loc off:Nat} : oD A take obj i (AV.ref loc off) t os T H lo gen K=WO A os ⟨T.put t (AV.ref loc off),H,lo,gen⟩ K:=aW
def YY{loc off n z:Nat} : oD A take obj i (AV.sref loc off n z) t os T H lo gen K=WO A os ⟨T.put t (AV.sref loc off n z),H,lo,gen⟩ K:=aW
def YX{loc:Nat} : oD A take obj i (AV.mref loc) t os T H lo gen K=WO A os ⟨T.put t (AV.mref loc),H,lo,gen⟩ K:=aW
def YU{fn:Fn}{fs cs:List AV} : oD A take obj i (AV.func fn fs cs) t os T H lo gen K=WO A os ⟨T.put t (AV.func fn fs cs),H,lo,gen⟩ K:=aW
def U5{u:TypeId}{v:AV} : oD A take obj i (AV.iface u v) t os T H lo gen K=WO A os ⟨T.put t (AV.iface u v),H,lo,gen⟩ K:=aW
def U7{vs:List AV} : oD A take obj i (AV.tuple vs) t os T H lo gen K=WO A os ⟨T.put t (AV.tuple vs),H,lo,gen⟩ K:=aW
def aeR{e:List (List AV)} : oD A take obj i (.slice e false) t os T H lo gen K=WO A os ⟨T.put t (.slice e false),H,lo,gen⟩ K:=by
 simp[oD,aW,AS.cx]
def aeS{e:List (List AV)} : oD A true obj i (.slice e true) t os T H lo gen K=WO A os ⟨(T.put i (.slice e false)).put t (.slice e true),H,lo,gen⟩ K:=by
 simp[oD,aW,AS.cx]
def aeQ{e:List (List AV)}{own:Bool} : oD A false obj i (.slice e own) t os T H lo gen K=WO A os ⟨T.put t (.slice e false),H,lo,gen⟩ K:=by
 simp[oD,aW,AS.cx]
def YV{g:Nat}{e:List (List AV)} : oD A false obj i (.lsl g e) t os T H lo gen K=WO A os ⟨T.put t (.lsr i g),H,lo,gen⟩ K:=by
 simp[oD,aW,AS.cx]
def vE{g:Nat}(hn:ng e=true):oD A true false i (.lsl g e) t os T H lo gen K=WO A os ⟨(T.put i (.slice e false)).put t (.slice e true),H,lo,gen⟩ K:=by
 simp[oD,aW,AS.cx,hn]
def YW{g:Nat}{e:List (List AV)} : oD A true true i (.lsl g e) t os T H lo gen K=WO A os ⟨(T.put i .any).put t (.lsl gen e),H,lo,gen+1⟩ K:=by
 simp[oD,aW,AS.cx]
end
def aj'{take obj:Bool}{i:Nat} : WO A (⟨some t,none,.mov take obj (.tmp i)⟩ :: os) ⟨T,H,lo,gen⟩ K=oD A take obj i (T i) t os T H lo gen K:=by
 rw[fZ];simp only[oD,aS,aR,rN];cases hT:T i with
 | slice e own=>cases take<;>cases own<;>simp[cd,AS.ca,AS.cx,fz]
 | lbox g cs=>simp[cd,AS.ca,AS.cx,fz]
 | lsl g e=>cases take<;>cases obj<;>cases hn:ng e<;>simp[cd,AS.ca,AS.cx,fz,hn]
 | _=>simp[cd,AS.ca,AS.cx,fz]
def VK{take obj:Bool}{v:AV} : WO A (⟨some t,none,.mov take obj (.xQ v)⟩ :: os) ⟨T,H,lo,gen⟩ K=jK A (some v) t os T H lo gen K:=ik rfl
def afC{take obj:Bool}{f:FuncId} : WO A (⟨some t,none,.mov take obj (.fn f)⟩ :: os) ⟨T,H,lo,gen⟩ K=jK A (some (.func (.func f) [] [])) t os T H lo gen K:=ik rfl
def Zq{g:Nat}{w:Bool}{op:ow} : WO A (⟨some t,some (g,w),op⟩ :: os) ⟨T,H,lo,gen⟩ K=oA A (T g) w t op os T H lo gen K:=by
 rw[fZ];simp only[oA,fZ];unfold aS;simp only;cases hT:T g with
 | bool b =>
  cases hb:(b==w) with
  | true=>simp only[hb,aW,cond_true,forall_const,Bool.true_eq_false,false_implies,av',eq_self]
  | false=>simp only[hb,aW,cond_false,forall_const,awj,false_implies,awX,eq_self,AS.ca,AS.cx]
 | tuple l =>
  cases l with
  | nil=>simp only[aW,forall_const,awj,false_implies,awX,eq_self,AS.ca,AS.cx]
  | cons a l=>simp[cd]
 | _=>simp[cd]
def aj4{op:ow} : oA A (.bool true) true t op os T H lo gen K=WO A (⟨some t,none,op⟩ :: os) ⟨T,H,lo,gen⟩ K:=by simp[oA,aW]
def aj1{op:ow} : oA A (.bool false) false t op os T H lo gen K=WO A (⟨some t,none,op⟩ :: os) ⟨T,H,lo,gen⟩ K:=by simp[oA,aW]
def aj3{op:ow} : oA A (.bool true) false t op os T H lo gen K=WO A os ⟨T.put t .undef,H,lo,gen⟩ K:=by simp[oA,aW]
def aj2{op:ow} : oA A (.bool false) true t op os T H lo gen K=WO A os ⟨T.put t .undef,H,lo,gen⟩ K:=by simp[oA,aW]
def aj5{op:ow}{w:Bool} : oA A (.tuple []) w t op os T H lo gen K=WO A os ⟨T.put t .undef,H,lo,gen⟩ K:=by simp[oA,aW]
def afE{c a b:aE} : WO A (⟨some t,none,.pick c a b⟩ :: os) ⟨T,H,lo,gen⟩ K=jK A (OR (c.eval A.aY T) (a.addr A.aY T) (b.addr A.aY T)) t os T H lo gen K:=by
 refine ik ?_;simp only[aR,OR];cases c.eval A.aY T<;>rfl
def ZE{x y:AV} : OR (.bool true) x y=some x.drop:=rfl
def ZD{x y:AV} : OR (.bool false) x y=some y.drop:=rfl
def VD{z:List AV} : WO A (⟨some t,none,.allocL z⟩ :: os) ⟨T,H,lo,gen⟩ K=WO A os ⟨T.put t (.lbox gen z),H,lo,gen+1⟩ K:=by
 rw[fZ];simp only[aS,aR,au9,cond_false,aW];rfl
def VC{ty:TypeId}{z:List AV} : WO A (⟨some t,none,.Hg ty z⟩ :: os) ⟨T,H,lo,gen⟩ K=WO A os ⟨T.put t (.ref H.length 0),H++[.box ty z],cond (Nat.blt H.length lo) H.length lo,gen⟩ K:=by
 rw[fZ];simp only[aS,aR,au9,cond_false,aW];rfl
def Zg{z:List AV}{ps:List (Nat × Nat × aE)} : WO A (⟨some t,none,.build z ps⟩ :: os) ⟨T,H,lo,gen⟩ K=jK A ((fw z (cE A.aY T ps)).map .agg) t os T H lo gen K:=by
 refine ik ?_;simp only[aR,GM,aw0];rfl
def GQ{b:Bool}{sz:Nat}{z:List (List AV)}{ps:List (Nat × aE)} : WO A (⟨some t,none,.mkslice b sz z ps⟩ :: os) ⟨T,H,lo,gen⟩ K=jK A (U9 b (cN sz z (cr A.aY T ps))) t os T H lo gen K:=by
 refine ik ?_;simp only[aR,zU,U9];cases cN sz z (cr A.aY T ps) with
 | none=>rfl
 | some E=>simp only[au9];cases nP b E<;>rfl
def aop{b:Bool}{E:List (List AV)} : U9 b (some E)=cond (nP b E) (some (.slice E true)) none:=rfl
def Zu{agg:Bool}{sz:Nat}{x:aE} : WO A (⟨some t,none,.load false agg sz x⟩ :: os) ⟨T,H,lo,gen⟩ K=jK A (y3 T H agg sz (x.addr A.aY T)) t os T H lo gen K:=by
 refine ik ?_;simp only[aR,cS,y3,avt,cond_false];cases x.addr A.aY T with
 | ref loc off=>cases hl:H[loc]? with
  | none=>simp only[hl,bU];rfl
  | some o=>cases o<;>simp only[hl,bU]<;>rfl
 | lref b g off =>
  cases hb:T b with
  | lbox g' cs=>simp only[hb,pj];cases Nat.beq g g'<;>rfl
  | _=>simp only[hb,pj];rfl
 | eref b g i z off =>
  cases hb:T b with
  | lsl g' e =>
   simp only[hb,y7,DC];cases Nat.beq g g' with
   | false=>rfl
   | true =>
    simp only[cond_true];cases e[i]? with
    | none=>rfl
    | some r=>simp only[au9];cases Nat.beq r.length z<;>rfl
  | _=>simp only[hb,y7];rfl
 | _=>rfl
def Zv{agg:Bool}{sz:Nat}{cs:List AV} : y3 T H agg sz (.eptr cs)=ab false agg sz 0 cs:=rfl
def Zx{agg:Bool}{sz loc off:Nat} : y3 T H agg sz (.ref loc off)=bU H[loc]? agg sz off:=rfl
def afo{ty:TypeId}{cs:List AV}{agg:Bool}{sz off:Nat} : bU (some (.box ty cs)) agg sz off=ab false agg sz off cs:=rfl
def Zw{agg:Bool}{sz b g off:Nat} : y3 T H agg sz (.lref b g off)=pj (T b) g agg sz off:=rfl
def Zt{g g' : Nat}{cs:List AV}{agg:Bool}{sz off:Nat} : pj (.lbox g cs) g' agg sz off=cond (Nat.beq g' g) (ab false agg sz off cs) none:=rfl
def VH{sz off:Nat}{cs:List AV} : ab false true sz off cs=cond (Nat.ble (off+sz) cs.length) (some (.agg (((cs.drop off).take sz).map AV.drop))) none:=rfl
def VG{sz off:Nat}{cs:List AV} : ab false false sz off cs=(cs[off]?).map AV.drop:=by
 simp only[ab,cond_false]
def ajP{op:BinOp}{q:zG}{x y:aE} : WO A (⟨some t,none,.bin op q x y⟩ :: os) ⟨T,H,lo,gen⟩ K=jK A (AG op q (dj x || dj y) (x.eval A.aY T) (y.eval A.aY T)) t os T H lo gen K:=ik rfl
def aor{op:UnOp}{x:aE} : WO A (⟨some t,none,.un op x⟩ :: os) ⟨T,H,lo,gen⟩ K=jK A (gF op (x.eval A.aY T)) t os T H lo gen K:=ik rfl
def afu{c:B9}{x:aE} : WO A (⟨some t,none,.conv c x⟩ :: os) ⟨T,H,lo,gen⟩ K=jK A (cn c (x.eval A.aY T)) t os T H lo gen K:=ik rfl
def ZH{k:zM}{x:aE}{l h m:Option aE} : WO A (⟨some t,none,.slice k x l h m⟩ :: os) ⟨T,H,lo,gen⟩ K=jK A (bL k (x.eval A.aY T) (gK A.aY T l) (gK A.aY T h) (gK A.aY T m)) t os T H lo gen K:=by
 refine ik ?_;cases l<;>cases h<;>cases m<;>rfl
def ajO{op:BinOp}{q:zG}{c:Bool}{j k:IntKind}{a b:Int} : AG op q c (.int j a) (.int k b)=cond (decide (j=k)) (aa op j a b) none:=rfl
def ajT{op:BinOp}{q:zG}{c:Bool}{a b:List UInt8} : AG op q c (.str a) (.str b)=cz op a b:=rfl
def KJ{off:Nat}{x:aE} : WO A (⟨some t,none,.fieldAddr off x⟩ :: os) ⟨T,H,lo,gen⟩ K=jK A (faV T off (x.addr A.aY T)) t os T H lo gen K:=by
 refine ik ?_;simp only[aR,faV];cases x.addr A.aY T with
 | lref b g o =>
  cases hb:T b with
  | lbox g' cs=>simp only[hb,aP,bN,pV];cases Nat.beq g g'<;>rfl
  | _=>simp only[hb,aP,pV];rfl
 | eref b g i z o =>
  cases hb:T b with
  | lsl g' e=>simp only[hb,aP,bN,y8];cases (Nat.beq g g'&&Nat.blt i e.length)<;>rfl
  | _=>simp only[hb,aP,y8];rfl
 | _=>rfl
def ajX{off:Nat}{cs:List AV} : faV T off (.eptr cs)=some (.eptr (cs.drop off)):=rfl
def ajZ{off l o:Nat} : faV T off (.ref l o)=some (.ref l (o+off)):=rfl
def ajY{off b g o:Nat} : faV T off (.lref b g o)=pV (T b) g (.lref b g (o+off)):=rfl
def Nd{g g' : Nat}{cs:List AV}{r:AV} : pV (.lbox g cs) g' r=cond (Nat.beq g' g) (some r) none:=rfl
def Zs{n sz:Nat}{x i:aE} : WO A (⟨some t,none,.ixArr n sz x i⟩ :: os) ⟨T,H,lo,gen⟩ K=jK A ((asNat (i.eval A.aY T)).bind fun k=>cond (Nat.blt k n) (faV T (k*sz) (x.addr A.aY T)) none) t os T H lo gen K:=by
 refine ik ?_;simp only[aR];cases asNat (i.eval A.aY T) with
 | none=>rfl
 | some k =>
  simp only[au9];cases Nat.blt k n with
  | false=>rfl
  | true =>
   simp only[avE,cond_true,faV];cases x.addr A.aY T with
   | lref b g o =>
    cases hb:T b with
    | lbox g' cs=>simp only[hb,aP,bN,pV];cases Nat.beq g g'<;>rfl
    | _=>simp only[hb,aP,pV];rfl
   | eref b g i z o =>
    cases hb:T b with
    | lsl g' e=>simp only[hb,aP,bN,y8];cases (Nat.beq g g'&&Nat.blt i e.length)<;>rfl
    | _=>simp only[hb,aP,y8];rfl
   | _=>rfl
def afx{sz:Nat}{x i:aE} : WO A (⟨some t,none,.ixSl sz x i⟩ :: os) ⟨T,H,lo,gen⟩ K=jK A (ixV T sz (x.addr A.aY T) (asNat (i.eval A.aY T))) t os T H lo gen K:=by
 refine ik ?_;simp only[aR,ixV];cases x.addr A.aY T with
 | slice e own =>
  cases asNat (i.eval A.aY T) with
  | none=>rfl
  | some n =>
   simp only[au9,Nj];cases e[n]? with
   | none=>rfl
   | some r=>simp only[au9];cases Nat.beq r.length sz<;>rfl
 | sref l o m z =>
  cases asNat (i.eval A.aY T) with
  | none=>rfl
  | some n=>simp only[au9];cases Nat.blt n m<;>rfl
 | lsr s g =>
  cases hs:T s with
  | lsl g' e =>
   simp only[hs];cases Nat.beq g g' with
   | false=>rfl
   | true =>
    simp only[cond_true];cases asNat (i.eval A.aY T) with
    | none=>rfl
    | some n =>
     simp only[au9,Nj];cases e[n]? with
     | none=>rfl
     | some r=>simp only[au9];cases Nat.beq r.length sz<;>rfl
  | _=>simp[hs]
 | _=>rfl
def aj8{sz n:Nat}{e:List (List AV)}{own:Bool} : ixV T sz (.slice e own) (some n)=Nj sz (e[n]?) .eptr:=rfl
def aj7{sz n l o m z:Nat} : ixV T sz (.sref l o m z) (some n)=cond (Nat.blt n m) (some (.ref l (o+n*sz))) none:=rfl
def aj6{sz n s g:Nat} : ixV T sz (.lsr s g) (some n)=(match T s with|.lsl g' e=>cond (Nat.beq g g') (Nj sz (e[n]?) fun _=>.eref s g n sz 0) none|_=>none):=rfl
def afO{sz:Nat}{r:List AV}{f:List AV->AV} : Nj sz (some r) f=cond (Nat.beq r.length sz) (some (f r)) none:=rfl
def Zr{agg:Bool}{n sz:Nat}{x i:aE} : WO A (⟨some t,none,.index agg n sz x i⟩ :: os) ⟨T,H,lo,gen⟩ K=jK A (Mt agg n sz (x.eval A.aY T) (asNat (i.eval A.aY T))) t os T H lo gen K:=by
 refine ik ?_;simp only[aR,Mt];cases asNat (i.eval A.aY T) with
 | none=>cases x.eval A.aY T<;>rfl
 | some k =>
  simp only[au9];cases Nat.blt k n with
  | false=>cases x.eval A.aY T<;>rfl
  | true=>cases x.eval A.aY T<;>rfl
def VI{agg:Bool}{n sz k:Nat}{cs:List AV} : Mt agg n sz (.agg cs) (some k)=cond (Nat.blt k n) (ab false agg sz (k*sz) cs) none:=rfl
def Nc{x i:aE} : WO A (⟨some t,none,.rR x i⟩ :: os) ⟨T,H,lo,gen⟩ K=jK A (Sr (x.eval A.aY T) (asNat (i.eval A.aY T))) t os T H lo gen K:=by
 refine ik ?_;simp only[aR,Sr];cases x.eval A.aY T with
 | str l =>
  cases asNat (i.eval A.aY T) with
  | none=>rfl
  | some n=>simp only[au9];cases l[n]?<;>rfl
 | _=>rfl
def Zh{l:List UInt8}{n:Nat} : Sr (.str l) (some n)=LJ (l[n]?):=rfl
def VF{b:UInt8} : LJ (some b)=some (.int .u8 b.toNat):=rfl
def Q2{x:aE}{i:Nat} : WO A (⟨some t,none,.extract x i⟩ :: os) ⟨T,H,lo,gen⟩ K=jK A (S7 (x.eval A.aY T) i) t os T H lo gen K:=by
 refine ik ?_;simp only[aR,S7];cases x.eval A.aY T with
 | tuple vs=>simp only;cases vs[i]?<;>rfl
 | _=>rfl
def Zp{vs:List AV}{i:Nat} : S7 (.tuple vs) i=(vs[i]?).map AV.dh:=rfl
def aj9{k:sD}{x:aE} : WO A (⟨some t,none,.len k x⟩ :: os) ⟨T,H,lo,gen⟩ K=jK A (MF T k (x.addr A.aY T)) t os T H lo gen K:=by
 refine ik ?_;simp only[aR,MF];cases x.addr A.aY T with
 | lsr s g =>
  cases hs:T s with
  | lsl g' e=>simp only[hs];cases Nat.beq g g'<;>rfl
  | _=>simp[hs]
 | _=>rfl
def afA{l:List UInt8} : MF T .str (.str l)=some (.int .i64 l.length):=rfl
def afy{e:List (List AV)}{own:Bool} : MF T .sl (.slice e own)=some (.int .i64 e.length):=rfl
def afz{l o m z:Nat} : MF T .sl (.sref l o m z)=some (.int .i64 m):=rfl
def afr{f:FuncId}{args:List aE} : WO A (⟨some t,none,.call (.fn f) args⟩ :: os) ⟨T,H,lo,gen⟩ K=(cj A.aY T args=true/\yd A (aj A f (da A.aY T args) H) t os T H lo gen K):=by
 rw[fZ];simp only[aS,aR,aE.eval,vm,x8,yd,avO,List.append_nil];refine propext ?_;cases cj A.aY T args with
 | false=>simp[cd]
 | true =>
  simp only[cond_true,awX];cases aj A f (da A.aY T args) H with
  | none=>simp[cd]
  | some r =>
   obtain⟨v,c⟩:=r;cases c with
   | none=>simp only[ave,awf,au9];simp[cd,AS.ca]
   | some c=>simp only[ave,au9];simp[cd,AS.ca]
def Zk{i:Nat}{args:List aE} : WO A (⟨some t,none,.call (.tmp i) args⟩ :: os) ⟨T,H,lo,gen⟩ K=(cj A.aY T args=true/\St A (T i) (da A.aY T args) t os T H lo gen K):=by
 rw[fZ];simp only[aS,aR,aE.eval,vm,x8,St,yd];refine propext ?_;cases hT:T i with
 | func fn fs cs =>
  cases fn with
  | func n =>
   cases cj A.aY T args with
   | false=>simp[cd]
   | true =>
    simp only[cond_true,awX];cases aj A n (fs++da A.aY T args++cs) H with
    | none=>simp[cd]
    | some r =>
     obtain⟨v,c⟩:=r;cases c with
     | none=>simp only[ave,awf,au9];simp[cd,AS.ca]
     | some c=>simp only[ave,au9];simp[cd,AS.ca]
  | _=>simp[cd]
 | _=>simp[cd]
def Zi{n:FuncId}{fs vs cs:List AV} : St A (.func (.func n) fs cs) vs t os T H lo gen K=yd A (aj A n (fs++vs++cs) H) t os T H lo gen K:=rfl
def akc{v:AV} : yd A (some (v,none)) t os T H lo gen K=WO A os ⟨T.put t v,H,lo,gen⟩ K:=by
 simp[yd,aW,AS.cx]
def afN{v:AV}{h:ae}{l:Nat} : yd A (some (v,some ⟨h,l⟩)) t os T H lo gen K=WO A os ⟨T.put t v,h,cond (Nat.blt l lo) l lo,gen⟩ K:=by
 simp[yd,aW,AS.cx,AS.iK]
def VE{b:Bool}{sz bytes i:Nat}{y:aE} : WO A (⟨some t,none,.append b false sz bytes (.tmp i) y⟩ :: os) ⟨T,H,lo,gen⟩ K=Xi A b sz bytes i (T i) (y.eval A.aY T) t os T H lo gen K:=by
 rw[fZ];simp only[aS,aR,bt,Xi];cases hT:T i with
 | slice e own =>
  simp only[cond_false];cases aG b sz bytes (.slice e own) (y.eval A.aY T) with
  | none=>simp[cd]
  | some z=>simp[cd,AS.ca,AS.cx]
 | lsl g e =>
  simp only[avt,cond_false];cases bz sz (y.eval A.aY T)<;>simp[cd]
 | ar =>
  simp only[cond_false];cases aG b sz bytes (.slice [] true) (y.eval A.aY T) with
  | none=>simp[cd]
  | some z=>simp[cd,AS.ca,AS.cx]
 | _=>simp[cd]
def afm{b:Bool}{sz bytes i:Nat}{y:AV} : Xi A b sz bytes i .ar y t os T H lo gen K=cd (aG b sz bytes (.slice [] true) y) fun z=>WO A os ⟨T.put t z,H,lo,gen⟩ K:=rfl
def afk{b:Bool}{sz bytes i:Nat}{e:List (List AV)}{own:Bool}{y:AV} : Xi A b sz bytes i (.slice e own) y t os T H lo gen K=cd (aG b sz bytes (.slice e own) y) fun z=>WO A os ⟨(T.put i (.slice e false)).put t z,H,lo,gen⟩ K:=rfl
def ZI{dst:Option Nat}{sz:Nat}{a v:aE} : WO A (⟨dst,none,.store sz a v⟩ :: os) ⟨T,H,lo,gen⟩ K=cd (aS A.aY (aj A) ⟨T,H,lo,gen⟩ ⟨dst,none,.store sz a v⟩) fun s'=>WO A os s' K:=fZ
def Zy{dst:Option Nat}{agg:Bool}{sz:Nat}{x:aE} : WO A (⟨dst,none,.load true agg sz x⟩ :: os) ⟨T,H,lo,gen⟩ K=cd (aS A.aY (aj A) ⟨T,H,lo,gen⟩ ⟨dst,none,.load true agg sz x⟩) fun s'=>WO A os s' K:=fZ
def Nf{dst:Option Nat}{x:aE} : WO A (⟨dst,none,.nilCheck x⟩ :: os) ⟨T,H,lo,gen⟩ K=cd (aS A.aY (aj A) ⟨T,H,lo,gen⟩ ⟨dst,none,.nilCheck x⟩) fun s'=>WO A os s' K:=fZ
def VJ{dst:Option Nat}{f:Fn}{a b:List aE} : WO A (⟨dst,none,.mkfunc f a b⟩ :: os) ⟨T,H,lo,gen⟩ K=cd (aS A.aY (aj A) ⟨T,H,lo,gen⟩ ⟨dst,none,.mkfunc f a b⟩) fun s'=>WO A os s' K:=fZ
end
def Ze{G:Nat->List AV}{T:aD}{v:AV} : aE.addr G T (.xQ v)=v:=rfl
def Zf{G:Nat->List AV}{T:aD}{g:Nat} : aE.addr G T (.aY g)=.eptr (G g):=rfl
def spK(sz:Nat)(es:List (List AV))(i:Nat)(o:Option (List AV))(r:List (Nat × AV)):Option (List (List AV)):=match o with
 | none=>none
 | some cs=>cond (Nat.blt i es.length) (cN sz (es.set i cs) r) none
def akf{sz:Nat}{es:List (List AV)} : cN sz es []=some es:=rfl
def akd{sz i:Nat}{es:List (List AV)}{v:AV}{r:List (Nat × AV)} : cN sz es ((i,v) :: r)=spK sz es i (v.elem sz) r:=by
 simp only[cN,spK];cases v.elem sz<;>rfl
def ake{sz i:Nat}{es:List (List AV)}{cs:List AV}{r:List (Nat × AV)} : spK sz es i (some cs) r=cond (Nat.blt i es.length) (cN sz (es.set i cs) r) none:=rfl
def Zm{sz:Nat}{cs:List AV} : AV.elem sz (.agg cs)=cond (Nat.beq (cs.map AV.drop).length sz&&(cs.map AV.drop).all AV.plain) (some (cs.map AV.drop)) none:=rfl
def Zn{k:IntKind}{n:Int} : AV.elem 1 (.int k n)=some [.int k n]:=rfl
def Zo{l:List UInt8} : AV.elem 1 (.str l)=some [.str l]:=rfl
def bpK(cells:List AV)(off sz:Nat)(o:Option (List AV))(r:List (Nat × Nat × AV)):Option (List AV):=match o with
 | none=>none
 | some cs=>cond (Nat.beq cs.length sz&&Nat.ble (off+cs.length) cells.length) (fw (putAt cells off (cs.map AV.drop)) r) none
def ajS{cells:List AV} : fw cells []=some cells:=rfl
def ajQ{cells:List AV}{off sz:Nat}{v:AV}{r:List (Nat × Nat × AV)} : fw cells ((off,sz,v) :: r)=bpK cells off sz v.cells r:=by
 simp only[fw,bpK];cases v.cells<;>rfl
def ajR{cells cs:List AV}{off sz:Nat}{r:List (Nat × Nat × AV)} : bpK cells off sz (some cs) r=cond (Nat.beq cs.length sz&&Nat.ble (off+cs.length) cells.length) (fw (putAt cells off (cs.map AV.drop)) r) none:=rfl
def nbA:AV->Bool
 | .int .u8 _=>false
 | .any=>false
 | _=>true
def RH:List AV->Bool
 | []=>true
 | x :: r=>nbA x&&RH r
def nb:List (List AV)->Bool
 | []=>true
 | r :: e=>RH r&&nb e
def Vd:∀ r:List AV,(r.all fun|.int .u8 _=>false|.any=>false|_=>true)=RH r
 | []=>rfl
 | x :: r=>by
  rw[List.all_cons,RH,<- Vd r]
  congr 1
def Dj:∀ e:List (List AV),ng e=nb e
 | []=>rfl
 | r :: e=>by
  have:=Dj e
  simp only[ng] at this;simp only[ng,List.all_cons,nb,this];rw[<- Vd];rfl
def VN{E:List (List AV)} : nP false E=nb E:=by simp only[nP,cond_false,Dj]
def aoq{E:List (List AV)} : ng E=nb E:=Dj E
def aka:nb []=true:=rfl
def akb{r:List AV}{e:List (List AV)} : nb (r :: e)=(RH r&&nb e):=rfl
theorem VL:RH []=true:=rfl
theorem VM{x:AV}{r:List AV} : RH (x :: r)=(nbA x&&RH r):=rfl
theorem ab1{n:Int} : nbA (.int .i64 n)=true:=rfl
theorem ab3{l:List UInt8} : nbA (.str l)=true:=rfl
theorem ab2{e:List (List AV)}{o:Bool} : nbA (.slice e o)=true:=rfl
def Al{E:List (List AV)}(h:∀ r∈E,RH r=true):nb E=true:=by
 induction E with
 | nil=>rfl
 | cons r E ih=>rw[nb,h r (List.mem_cons_self ..),ih fun r hr=>h r (awc _ hr)];rfl
def GB:∀ {e f:List (List AV)},nb (e++f)=(nb e&&nb f)
 | [],f=>by simp[nb]
 | r :: e,f=>by simp only[avK,nb,GB,Bool.and_assoc]
def wm(sz:Nat)(e:List (List AV)):Prop:=(∀ r∈e,r.length=sz)/\nb e=true
def Ge(h:∀ r∈e,r.length=sz):gC sz e=true:=by
 cases e with
 | nil=>rfl
 | cons r e=>simp[gC,h r (List.mem_cons_self ..)]
theorem wV{o:Bool}(h1:wm sz e)(h2:wm sz f)(hb:(e.length+f.length)*bytes<=70368744177664)(hl:e.length+f.length<=70368744177664) :
  aG false sz bytes (.slice e true) (.slice f o)=some (.slice (e++f) true):=by
 simp only[aG,bz,au9];cases f with
 | nil=>simp
 | cons r f =>
  have hr:nP false (e++r :: f)=true:=by rw[VN,GB,h1.2,h2.2];rfl
  have hf:cK sz bytes e (r :: f)=true:=by
   simp only[cK,Ge h1.1,Ge h2.1,avT hb,avT hl,Bool.and_self]
  simp only[hr,hf,Bool.and_self,cond_true]
def NI{b:Bool}{o o':Bool} : aG b sz bytes (.slice e o) (.slice [] o')=some (.slice e o):=rfl
def MK(v:AV)(g:Nat):Option AV:=match v with
 | .lsl g' e=>cond (Nat.beq g g') (cond (ng e) (some (.slice e true)) none) none
 | _=>none
def Rc(T:aD)(t:Nat)(v:AV):Option AV:=match v with
 | .lsl _ e=>cond (ng e) (some (.slice e true)) none
 | .lsr b g=>MK (T b) g
 | .lbox ..|.lref ..|.eref ..|.iter ..=>none
 | v=>some v
def ahw(base lo:Nat)(H:ae)(o:Option AV):Option (AV × Option fP):=o.bind fun r=>cond (r.leaves base) (some (r,cond (Nat.beq lo base) none (some ⟨H.take base,lo⟩))) none
def Ng(o:Option bS)(agg:Bool)(sz:Nat):Option AV:=match o with
 | some (.box _ cs)=>ab false agg sz 0 cs
 | _=>none
def VS(v:AV)(H:ae)(agg:Bool)(sz:Nat):Option AV:=match v with
 | .lbox _ cs=>ab false agg sz 0 cs
 | .ref loc 0=>Ng H[loc]? agg sz
 | _=>none
def aaR(o:Option AV)(l:Option (List AV)):Option (List AV):=o.bind fun v=>l.map (v.dh :: ·)
section
variable {T:aD}{H:ae}{lo gen base t:Nat}{rs:List iu}
def ni(base lo:Nat)(H:ae):Bool:=cond (Nat.beq lo base) true (((H.take base).drop lo).all fun o=>match o with|.bZ cs=>cs.all (AV.bw base)|_=>true)
def ZC{n:Nat}{H:ae} : ni n n H=true:=by simp[ni]
def aj0:fin base rs ⟨T,H,lo,gen⟩=cond (ni base lo H) (ahw base lo H (mC ⟨T,H,lo,gen⟩ rs)) none:=rfl
def afw{v:AV} : ahw base lo H (some v)=cond (v.leaves base) (some (v,cond (Nat.beq lo base) none (some ⟨H.take base,lo⟩))) none:=rfl
def afG:mC ⟨T,H,lo,gen⟩ [.tmp t]=Rc T t (T t):=by
 simp only[mC,oG,Rc];cases hT:T t with
 | lsl g e=>simp only[hT]
 | lsr b g =>
  cases hb:T b with
  | lsl g' e =>
   simp only[hb,MK];cases Nat.beq g g' with
   | false=>simp only[cond_false,iW,hT];rfl
   | true=>simp only[cond_true,hb]
  | _=>simp only[hb,MK,iW,hT];rfl
 | _=>simp only[iW,hT];rfl
def ZF{a sz:Nat}{agg:Bool} : mC ⟨T,H,lo,gen⟩ [.cell a agg sz]=iW ⟨T,H,lo,gen⟩ (.cell a agg sz):=rfl
def afF:mC ⟨T,H,lo,gen⟩ []=some (.tuple []):=rfl
def afH{r1 r2:iu}{rs:List iu} : mC ⟨T,H,lo,gen⟩ (r1 :: r2 :: rs)=(lY ⟨T,H,lo,gen⟩ (r1 :: r2 :: rs)).map .tuple:=rfl
def afJ:lY ⟨T,H,lo,gen⟩ []=some []:=rfl
def afK{r:iu}{rs:List iu} : lY ⟨T,H,lo,gen⟩ (r :: rs)=aaR (iW ⟨T,H,lo,gen⟩ r) (lY ⟨T,H,lo,gen⟩ rs):=rfl
def Zl{v:AV}{l:List AV} : aaR (some v) (some l)=some (v.dh :: l):=rfl
def afL:iW ⟨T,H,lo,gen⟩ (.tmp t)=cond (aN (T t)) (some (T t)) none:=rfl
def afI{a sz:Nat}{agg:Bool} : iW ⟨T,H,lo,gen⟩ (.cell a agg sz)=VS (T a) H agg sz:=by
 simp only[iW,VS];cases T a with
 | ref loc off =>
  cases off with
  | zero=>cases hl:H[loc]? with
   | none=>simp only[hl,Ng]
   | some o=>cases o<;>simp only[hl,Ng]
  | succ n=>rfl
 | _=>rfl
def ZG{g sz:Nat}{cs:List AV}{agg:Bool} : VS (.lbox g cs) H agg sz=ab false agg sz 0 cs:=rfl
def ZP{b:Bool} : Rc T t (AV.bool b)=some (AV.bool b):=rfl
def afS{k:IntKind}{n:Int} : Rc T t (AV.int k n)=some (AV.int k n):=rfl
def afT{l:List UInt8} : Rc T t (AV.str l)=some (AV.str l):=rfl
def V3{e:List (List AV)}{own:Bool} : Rc T t (AV.slice e own)=some (AV.slice e own):=rfl
end
def WT(A:AP)(sz bytes:Nat)(x y:AV)(t:Nat)(os:List aV)(T:aD)(H:ae)(lo gen:Nat)(K:AS->Prop):Prop :=
 cd (jE ⟨T,H,lo,gen⟩ sz bytes x y) fun r=>match r.2 with
  | some s'=>WO A os (s'.cx t r.1) K
  | none=>WO A os ⟨T.put t r.1,H,lo,gen⟩ K
def UN(k:AV)(kz:Nat)(ka:Bool):Option (List AV):=k.drop.cells.bind fun kc=>cond (Nat.beq kc.length kz&&ka==k.drop.isAgg) (some kc) none
def y4(H:ae)(ok:Bool)(kz:Nat)(ka va:Bool)(ks:List CK)(zero:List AV)(m k:AV):Option AV :=
 (UN k kz ka).bind fun kc=>match m with
  | .kA=>some (A6 ok va zero false)
  | .mz qo qm qp es=>cond (Nat.beq kz qo&&ka==qm&&va==qp&&ux es&&UK ks kc) ((dK ks kc es).map (pW ok va zero kz es)) none
  | .je qo qm qp es=>cond (Nat.beq kz qo&&ka==qm&&va==qp) ((dK ks kc es).map (pW ok va zero kz es)) none
  | .mref l=>match H[l]? with
   | some (.map qo qm qp es)=>cond (Nat.beq kz qo&&ka==qm&&va==qp) ((dK ks kc es).map (pW ok va zero kz es)) none
   | some (.je qo qm qp es)=>cond (Nat.beq kz qo&&ka==qm&&va==qp) ((dK ks kc es).map (pW ok va zero kz es)) none
   | _=>none
  | _=>none
section
variable {A:AP}{T:aD}{H:ae}{lo gen:Nat}{K:AS->Prop}{os:List aV}{t:Nat}
def vi{x:Option (AV × Option AS)}(h:aR A.aY (aj A) ⟨T,H,lo,gen⟩ op=x):WO A (⟨some t,none,op⟩ :: os) ⟨T,H,lo,gen⟩ K=cd x fun r=>match r.2 with
  | some s'=>WO A os (s'.cx t r.1) K
  | none=>WO A os ⟨T.put t r.1,H,lo,gen⟩ K:=by
 rw[fZ];simp only[aS,h];cases x with
 | none=>simp[cd]
 | some r =>
  obtain⟨z,s'⟩:=r;cases s' with
  | none=>simp only[au9,avt,cond_false,aW];rfl
  | some s'=>simp only[au9,cond_false,aW];rfl
def afn{sz bytes:Nat}{x y:aE} : WO A (⟨some t,none,.appendO sz bytes x y⟩ :: os) ⟨T,H,lo,gen⟩ K=WT A sz bytes (x.addr A.aY T) (y.eval A.aY T) t os T H lo gen K:=vi rfl
def acu{r:List AV}(h1:cK sz bytes [] (r :: f)=true)(h2:dM (r :: f)=true) :
  WT A sz bytes .ar (.slice (r :: f) own) t os T H lo gen K=WO A os ⟨T.put t (.sref H.length 0 (f.length+1) sz),H++[.box bD (r :: f).flatten],cond (Nat.blt H.length lo) H.length lo,gen⟩ K:=by
 simp only[WT,jE,GD,jU,bz,au9,axu,awd,avE,h1,h2,cond_true,aW,List.length_cons];rfl
def NG{n l:Nat}{ty:TypeId}{cs:List AV}(hl:H[l]?=some (.box ty cs))(hc:cs.length=n*sz)(h1:(n+f.length)*bytes<=70368744177664)(h2:n+f.length<=70368744177664)
  (h3:gC sz f=true) (h4:dM f=true) :
  WT A sz bytes (.sref l 0 n sz) (.slice f own) t os T H lo gen K=WO A os ⟨T.put t (.sref H.length 0 (n+f.length) sz),H.set l .dead++[.box bD (cs++f.flatten)],cond (Nat.blt l lo) l lo,gen⟩ K:=by
 have e1:Nat.beq cs.length (n*sz)=true:=by rw[hc];exact awZ _
 simp only[WT,jE,GD,jU,bz,au9,hl,e1,h3,h4,awZ,awb,avT h1,avT h2,cond_true,aW];rfl
def Zz{kz:Nat}{ka va:Bool} : WO A (⟨some t,none,.Kn kz ka va⟩ :: os) ⟨T,H,lo,gen⟩ K=WO A os ⟨T.put t (.mref H.length),H++[.map kz ka va []],cond (Nat.blt H.length lo) H.length lo,gen⟩ K:=by
 rw[vi rfl];simp only[aR,aW];rfl
def afB{ok:Bool}{kz:Nat}{ka va:Bool}{ks:List CK}{zero:List AV}{m k:aE} : WO A (⟨some t,none,.look ok kz ka va ks zero m k⟩ :: os) ⟨T,H,lo,gen⟩ K=jK A (y4 H ok kz ka va ks zero (m.addr A.aY T) (k.eval A.aY T)) t os T H lo gen K:=by
 refine ik ?_;simp only[aR,w7,y4,UN];cases (k.eval A.aY T).drop.cells with
 | none=>rfl
 | some kc =>
  simp only[au9];cases (Nat.beq kc.length kz&&ka==(k.eval A.aY T).drop.isAgg) with
  | false=>rfl
  | true =>
   simp only[cond_true,au9];cases m.addr A.aY T with
   | kA=>rfl
   | mz qo qm qp es =>
    simp only[];cases (Nat.beq kz qo&&ka==qm&&va==qp&&ux es&&UK ks kc) with
    | false=>rfl
    | true=>simp only[cond_true,aw0];rfl
   | je qo qm qp es =>
    simp only[za];cases (Nat.beq kz qo&&ka==qm&&va==qp) with
    | false=>rfl
    | true=>simp only[cond_true,au9,aw0];rfl
   | mref l =>
    simp only[za];cases hl:H[l]? with
    | none=>rfl
    | some o =>
     cases o with
     | map qo qm qp es =>
      simp only[];cases (Nat.beq kz qo&&ka==qm&&va==qp) with
      | false=>rfl
      | true=>simp only[cond_true,au9,aw0];rfl
     | je qo qm qp es =>
      simp only[];cases (Nat.beq kz qo&&ka==qm&&va==qp) with
      | false=>rfl
      | true=>simp only[cond_true,au9,aw0];rfl
     | _=>simp only[];rfl
   | _=>rfl
def afD{kz vz:Nat}{ka va:Bool}{ks:List CK}{m k v:aE} : WO A (⟨none,none,.MN kz ka va vz ks m k v⟩ :: os) ⟨T,H,lo,gen⟩ K =
  cd (tf ⟨T,H,lo,gen⟩ kz ka va vz ks (m.addr A.aY T) (k.eval A.aY T) (v.eval A.aY T)) fun s'=>WO A os (s'.bG v) K:=by
 rw[fZ];simp only[aS,aR];cases tf ⟨T,H,lo,gen⟩ kz ka va vz ks (m.addr A.aY T) (k.eval A.aY T) (v.eval A.aY T) with
 | none=>simp[cd]
 | some s'=>simp only[ave,au9,cond_false,aW];rfl
end
end
end Go.Abs
namespace Go.Abs
open Go
variable {m:List (List UInt8)}{i:Nat}
section
abbrev BD(n:Int):Prop:=-9223372036854775808<=n/\n<=9223372036854775807
def wrap64{n:Int}(h:-9223372036854775808<=n/\n<=9223372036854775807):IntKind.i64.wrap n=n:=by
 exact IntWalk.i64_in _ h
def WG{n:Int}(h:0<=n/\n<=255):IntKind.u8.wrap n=n:=IntWalk.u8_in _ h
def zO{k:IntKind}{n:Nat} : asNat (.int k n)=some n:=by simp[asNat]
def Pn{k:IntKind}{n:Nat} : asNat (.int k (no_index (@OfNat.ofNat Int n instOfNat)))=some n:=by
 show asNat (.int k ((n:Nat):Int))=some n
 exact zO
def Pm{k:IntKind}{a n:Nat} : asNat (.int k ((a:Int)+no_index (@OfNat.ofNat Int n instOfNat)))=some (a+n):=by
 show asNat (.int k ((a:Int)+((n:Nat):Int)))=some (a+n)
 rw[<- Int.natCast_add];exact zO
def bA{k:IntKind}{n:Int}(h:0<=n):asNat (.int k n)=some n.toNat:=by simp[asNat,h]
def NR{a b:Nat} : Nat.ble a b=decide (a<=b):=by
 cases h:Nat.ble a b with
 | true=>simp[av6 h]
 | false=>simp[show ¬ a<=b from fun e=>by rw[avT e] at h;cases h]
def Xr{a b:Nat} : Nat.blt a b=decide (a<b):=by
 show Nat.ble (a+1) b=_
 rw[NR];rfl
def dle{a b:Nat}(h:a<=b):decide (a<=b)=true:=by simp[h]
def dlt{a b:Nat}(h:a<b):decide (a<b)=true:=by simp[h]
def dX{a b:Int}(h:a<b):decide (a<b)=true:=by simp[h]
def dW{a b:Int}(h:b<=a):decide (a<b)=false:=dq
def dV{a b:Int}(h:a<=b):decide (a<=b)=true:=by simp[h]
def dU{a b:Int}(h:b<a):decide (a<=b)=false:=dq
def dS{a b:Int}(h:a=b):(a==b)=true:=by simp[h]
def dR{a b:Int}(h:a≠b):(a==b)=false:=by simp[h]
def dZ{a b:Int}(h:a≠b):(a != b)=true:=by simp[h]
def dY{a b:Int}(h:a=b):(a != b)=false:=by simp[h]
def ae0{a b:Nat}(h:a≠b):Nat.beq a b=false:=by
 cases hb:Nat.beq a b with
 | false=>rfl
 | true=>exact absurd (av5 hb) h
def ints(l:List Int):List (List AV):=l.map fun n=>[.int .i64 n]
def strs(l:List (List UInt8)):List (List AV):=l.map fun n=>[.str n]
def ma{l:List Int} : (ints l).length=l.length:=by simp[ints]
def bV{l:List (List UInt8)} : (strs l).length=l.length:=by simp[strs]
def ints_at{l:List Int}{n:Int}(h:l[i]?=some n):(ints l)[i]?=some [.int .i64 n]:=by simp[ints,h]
def iD{l:List (List UInt8)}{n:List UInt8}(h:l[i]?=some n):(strs l)[i]?=some [.str n]:=by simp[strs,h]
def Ue{l:List Int} : (ints l)[i]?=l[i]?.map fun n=>[.int .i64 n]:=by simp[ints]
def qC:∀ {l:List (List UInt8)} {n:Nat},n=l.length->chunks 1 n (l.map .str)=strs l
 | [],0,_=>rfl
 | a :: l,n+1,h=>by
  simp only[avm,chunks,strs,avR,avY,awK,List.drop_zero];rw[qC (cY h)];rfl
def Rm{l:List (List UInt8)}{n:Nat}(h:l.length<=n):(strs l).take n=strs l:=List.take_of_length_le (by rw[bV];exact h)
def Gt{l:List Int} : wm 1 (ints l):=⟨fun r hr=>by simp only[ints,List.mem_map] at hr;obtain⟨n,_,rfl⟩:=hr;rfl,Al fun r hr=>by simp only[ints,List.mem_map] at hr;obtain⟨n,_,rfl⟩:=hr;rfl⟩
def Av{l:List (List UInt8)} : wm 1 (strs l):=⟨fun r hr=>by simp only[strs,List.mem_map] at hr;obtain⟨n,_,rfl⟩:=hr;rfl,Al fun r hr=>by simp only[strs,List.mem_map] at hr;obtain⟨n,_,rfl⟩:=hr;rfl⟩
def mj:strs []=[]:=rfl
def Z8{l:List (List UInt8)} : nb (strs l)=true:=Av.2
def J5{l m:List Int} : ints l++ints m=ints (l++m):=by simp[ints]
def K5{l:List (List UInt8)} : strs l++strs m=strs (l++m):=by simp[strs]
def I5{l m:List Int}{o:Bool}(h:l.length+m.length<=1099511627776):aG false 1 8 (.slice (ints l) true) (.slice (ints m) o)=some (.slice (ints (l++m)) true):=by
 rw[wV Gt Gt (by rw[ma,ma];omega) (by rw[ma,ma];omega),J5]
def R6{n:Int}{o:Bool} : aG false 1 8 (.slice [] true) (.slice [[.int .i64 n]] o)=some (.slice (ints [n]) true):=I5 (l:=[]) (m:=[n]) ag
def cw{l:List (List UInt8)}{o:Bool}(h:l.length+m.length<=1099511627776):aG false 1 16 (.slice (strs l) true) (.slice (strs m) o)=some (.slice (strs (l++m)) true):=by
 rw[wV Av Av (by rw[bV,bV];omega) (by rw[bV,bV];omega),K5]
theorem ga{l:List (List UInt8)}{n:List UInt8}{o:Bool}(h:l.length<=1099511627775):aG false 1 16 (.slice (strs l) true) (.slice [[.str n]] o)=some (.slice (strs (l++[n])) true):=cw (m:=[n]) dq
def R8{n:List UInt8}{o:Bool} : aG false 1 16 (.slice [] true) (.slice [[.str n]] o)=some (.slice (strs [n]) true):=cw (l:=[]) (m:=[n]) ag
def adW{H l m:ae} : H++l++m=H++(l++m):=avj ..
def adX{H l:ae} : List.length (H++l)=H.length+l.length:=List.length_append
def TX{H l:ae}{k:Nat} : (H++l)[H.length+k]?=l[k]?:=by rw[List.getElem?_append_right ah];simp
def Ye{H l:ae} : (H++l)[H.length]?=l[0]?:=TX (k:=0)
def TY{H l:ae}{k:Nat}{x:bS} : (H++l).set (H.length+k) x=H++l.set k x:=by rw[List.set_append_right _ _ ah];simp
def Yf{H l:ae}{x:bS} : (H++l).set H.length x=H++l.set 0 x:=TY (k:=0)
def Yg{H l:ae} : (H++l).take H.length=H:=ag
def aix{n k:Nat} : decide (n+k<n)=false:=ag
def adY{n:Nat} : decide (n<n)=false:=ag
def Sp(A:AP)(ty:TypeId)(v:AV)(t:Nat)(os:List aV)(T:aD)(H:ae)(lo gen:Nat)(K:AS->Prop):Prop :=
 cd (v.drop.cells.bind fun cs=>cond (cs.all (bf H.length)) (some (cs.map AV.drop)) none) fun cs=>WO A os ⟨T.put t (.ref H.length 0),H++[.box ty cs],cond (Nat.blt H.length lo) H.length lo,gen⟩ K
section
variable {A:AP}{T:aD}{H:ae}{lo gen:Nat}{K:AS->Prop}{os:List aV}{t:Nat}
def afp{ty:TypeId}{x:aE} : WO A (⟨some t,none,.box ty x⟩ :: os) ⟨T,H,lo,gen⟩ K=Sp A ty (x.eval A.aY T) t os T H lo gen K:=by
 rw[vi rfl];simp only[aR,Sp];cases (x.eval A.aY T).drop.cells with
 | none=>simp[cd]
 | some cs =>
  simp only[au9];cases cs.all (bf H.length) with
  | false=>simp[cd]
  | true=>simp only[cond_true,aW];rfl
def acH{ty:TypeId}{cs:List AV} : Sp A ty (.agg cs) t os T H lo gen K=cd (cond (cs.all (bf H.length)) (some (cs.map AV.drop)) none) fun cs=>WO A os ⟨T.put t (.ref H.length 0),H++[.box ty cs],cond (Nat.blt H.length lo) H.length lo,gen⟩ K:=rfl
end
def adp{n:Nat}{k:IntKind}{m:Int} : bf n (.int k m)=true:=rfl
def X0{n:Nat}{b:Bool} : bf n (.bool b)=true:=rfl
def adq{n:Nat}{s:List UInt8} : bf n (.str s)=true:=rfl
def TA{n:Nat}{e:List (List AV)}{o:Bool} : bf n (.slice e o)=true:=rfl
def zr{a b:Int}(h:0<=a):a.tdiv b=a / b:=aw7 h
def j6{a b:Int}(h:0<=a):a.tmod b=a % b:=avW h
def Jd(A:AP)(v:AV)(w:Bool)(p:Bool)(os:List aV)(T:aD)(H:ae)(lo gen:Nat)(K:AS->Prop):Prop :=
 cd (match v with|.bool b=>some (b==w)|.tuple []=>some false|_=>none) fun b=>(b=true->p=true)/\WO A os ⟨T,H,lo,gen⟩ K
def NT(A:AP)(v:AV)(t:Nat)(os:List aV)(T:aD)(H:ae)(lo gen:Nat)(K:AS->Prop):Prop :=
 cd v.drop.cells fun cs=>WO A os ⟨T.put t (.lbox gen (cs.map AV.drop)),H,lo,gen+1⟩ K
def Hm(A:AP)(r:Option (AV × Option fP))(t:Nat)(os:List aV)(T:aD)(H:ae)(lo gen:Nat)(K:AS->Prop):Prop :=
 cd (r.bind fun r=>match r.2 with
  | none=>some r.1
  | some _=>none) fun v=>WO A os ⟨T.put t v,H,lo,gen⟩ K
section
variable {A:AP}{T:aD}{H:ae}{lo gen:Nat}{K:AS->Prop}{os:List aV}{t:Nat}
def ajV{c:Rw}{x:aE} : WO A (⟨none,none,.chk c x⟩ :: os) ⟨T,H,lo,gen⟩ K=(gr c (x.addr A.aY T)=true/\WO A os ⟨T,H,lo,gen⟩ K):=by
 rw[fZ];simp only[aS,aR];refine propext ?_;cases gr c (x.addr A.aY T) with
 | false=>simp[cd]
 | true=>simp[cd,fz,AS.ca]
def aft{g:Nat}{w:Bool}{c:Rw}{x:aE} : WO A (⟨none,some (g,w),.chk c x⟩ :: os) ⟨T,H,lo,gen⟩ K=Jd A (T g) w (gr c (x.addr A.aY T)) os T H lo gen K:=by
 rw[fZ];simp only[Jd];unfold aS;simp only[aR];cases hT:T g with
 | bool b =>
  cases hb:(b==w) with
  | true =>
   refine propext ?_;cases gr c (x.addr A.aY T) with
   | false=>simp[hb,cd]
   | true=>simp[hb,cd,fz,AS.ca]
  | false=>simp[hb,cd,AS.ca]
 | tuple l =>
  cases l with
  | nil=>simp[cd,AS.ca]
  | cons a l=>simp[cd]
 | _=>simp[cd]
def ajW{p:Bool} : Jd A (.bool true) false p os T H lo gen K=WO A os ⟨T,H,lo,gen⟩ K:=by simp[Jd,aW]
def ajU{p:Bool} : Jd A (.bool false) true p os T H lo gen K=WO A os ⟨T,H,lo,gen⟩ K:=by simp[Jd,aW]
def afs{b w:Bool} : Jd A (.bool b) w true os T H lo gen K=WO A os ⟨T,H,lo,gen⟩ K:=by simp[Jd,aW]
def afq{x:aE} : WO A (⟨some t,none,.boxL x⟩ :: os) ⟨T,H,lo,gen⟩ K=NT A (x.eval A.aY T) t os T H lo gen K:=by
 rw[vi rfl];simp only[aR,NT];cases (x.eval A.aY T).drop.cells with
 | none=>simp[cd]
 | some cs=>simp only[ave,aW];rfl
def acG{cs:List AV} : NT A (.agg cs) t os T H lo gen K=WO A os ⟨T.put t (.lbox gen (cs.map AV.drop)),H,lo,gen+1⟩ K:=by
 simp only[NT,AV.drop,AV.cells];exact aW
def Zj{f:FuncId}{args:List aE} : WO A (⟨some t,none,.Cs (.fn f) args⟩ :: os) ⟨T,H,lo,gen⟩ K=(cj A.aY T args=true/\Hm A (aj A f (da A.aY T args) H) t os T H lo gen K):=by
 rw[fZ];simp only[aS,aR,aE.eval,vm,x8,Hm,avO,List.append_nil];refine propext ?_;cases cj A.aY T args with
 | false=>simp[cd]
 | true =>
  simp only[cond_true,awX];cases aj A f (da A.aY T args) H with
  | none=>simp[cd]
  | some r =>
   obtain⟨v,c⟩:=r;cases c with
   | none=>simp only[au9];simp[cd,AS.ca,AS.cx]
   | some c=>simp[cd]
def afM{v:AV} : Hm A (some (v,none)) t os T H lo gen K=WO A os ⟨T.put t v,H,lo,gen⟩ K:=by
 simp[Hm,aW]
def ZA{sz:Nat}{z:List (List AV)}{ps:List (Nat × aE)} : WO A (⟨some t,none,.zb sz z ps⟩ :: os) ⟨T,H,lo,gen⟩ K =
  cd ((cN sz z (cr A.aY T ps)).bind fun E=>cond (dM E) (some E) none) fun E=>WO A os ⟨T.put t (.sref H.length 0 E.length sz),H++[.box bD E.flatten],cond (Nat.blt H.length lo) H.length lo,gen⟩ K:=by
 rw[vi rfl];simp only[aR,zU];cases cN sz z (cr A.aY T ps) with
 | none=>simp[cd]
 | some E =>
  simp only[au9];cases dM E with
  | false=>simp[cd]
  | true=>simp only[cond_true,aW];rfl
end
section
variable {b g o l n z:Nat}{e:List (List AV)}{own:Bool}{cs:List AV}{s:List UInt8}
def ahi{b' : Nat} : gr (.frame b) (.lref b' g o)=Nat.beq b b':=rfl
def ahl:gr .heap (.ref l o)=true:=rfl
def ahk:gr .heap (.eptr cs)=true:=rfl
def ahm:gr .heap (.slice e own)=true:=rfl
def ahj:gr .heap (.sref l o n z)=true:=rfl
def ahn:gr .heap (.str s)=true:=rfl
end
section
variable {A:AP}{T:aD}{H:ae}{lo gen:Nat}{K:AS->Prop}{os:List aV}{t:Nat}
end
def NH(A:AP)(sz bytes i:Nat)(v y:AV)(t:Nat)(os:List aV)(T:aD)(H:ae)(lo gen:Nat)(K:AS->Prop):Prop:=match v with
 | .ar=>cd ((bz sz y).bind fun f=>cond (cK sz bytes [] f) (some f) none) fun f=>WO A os ⟨(T.put i .any).put t (.lsl gen f),H,lo,gen+1⟩ K
 | .slice e own=>cd ((bz sz y).bind fun f=>cond (e.isEmpty&&own&&cK sz bytes [] f) (some f) none) fun f=>WO A os ⟨(T.put i .any).put t (.lsl gen f),H,lo,gen+1⟩ K
 | .lsl _ e=>cd ((bz sz y).bind fun f=>cond (cK sz bytes e f) (some (e++f)) none) fun f=>WO A os ⟨(T.put i .any).put t (.lsl gen f),H,lo,gen+1⟩ K
 | _=>False
section
variable {A:AP}{T:aD}{H:ae}{lo gen:Nat}{K:AS->Prop}{os:List aV}{t:Nat}
def afl{b:Bool}{sz bytes i:Nat}{y:aE} : WO A (⟨some t,none,.append b true sz bytes (.tmp i) y⟩ :: os) ⟨T,H,lo,gen⟩ K=NH A sz bytes i (T i) (y.eval A.aY T) t os T H lo gen K:=by
 rw[fZ];simp only[aS,aR,bt,NH];cases hT:T i with
 | ar =>
  simp only[cond_true];cases bz sz (y.eval A.aY T) with
  | none=>simp[cd]
  | some f=>simp only[au9];cases cK sz bytes [] f<;>simp[cd,AS.ca,AS.cx]
 | lsl g e =>
  simp only[avE];cases bz sz (y.eval A.aY T) with
  | none=>simp[cd]
  | some f=>simp only[au9];cases cK sz bytes e f<;>simp[cd,AS.ca,AS.cx]
 | slice e own =>
  simp only[cond_true];cases bz sz (y.eval A.aY T) with
  | none=>simp[cd]
  | some f=>simp only[au9];cases (e.isEmpty&&own&&cK sz bytes [] f)<;>simp[cd,AS.ca,AS.cx]
 | _=>simp[cd]
def acw{sz bytes i:Nat}{e:List (List AV)}{own:Bool} : NH A sz bytes i .ar (.slice e own) t os T H lo gen K=cd (cond (cK sz bytes [] e) (some e) none) fun f=>WO A os ⟨(T.put i .any).put t (.lsl gen f),H,lo,gen+1⟩ K:=rfl
def acv{sz bytes i g:Nat}{e f:List (List AV)}{own:Bool} : NH A sz bytes i (.lsl g e) (.slice f own) t os T H lo gen K=cd (cond (cK sz bytes e f) (some (e++f)) none) fun f=>WO A os ⟨(T.put i .any).put t (.lsl gen f),H,lo,gen+1⟩ K:=rfl
end
section
variable {A:AP}{T:aD}{H:ae}{lo gen:Nat}{K:AS->Prop}{os:List aV}{t:Nat}
def U6{take obj:Bool}{i:Nat} : oD A take obj i AV.ar t os T H lo gen K=WO A os ⟨T.put t AV.ar,H,lo,gen⟩ K:=aW
def I1{s:Nat} : mE s AV.ar=.ar:=rfl
def MG{T:aD} : MF T .sl .ar=some (.int .i64 0):=rfl
def Ff{base:Nat} : AV.bw base .ar=AV.plain .ar:=rfl
end
def aK.pre:Nat->aK->aK
 | 0,.seq a _=>a
 | n+1,.seq a b=>.seq a (aK.pre n b)
 | _,c=>c
def aK.post:Nat->aK->aK
 | 0,.seq _ b=>b
 | n+1,.seq _ b=>aK.post n b
 | _,_=>.skip
def iX{A:AP}(n:Nat){c:aK}{s:AS}{Q:bH->AS->Prop}(R:AS->Prop)(h1:W A (c.pre n) s (andThen R Q))(h2:∀ s',R s'->W A (c.post n) s' Q):W A c s Q:=by
 induction n generalizing c s with
 | zero =>
  cases c with
  | seq a b=>exact xY R h1 h2
  | _ =>
   refine uu h1 (fun e s' h=>?_)
   cases e with
   | normal =>
    have:=h2 s' h
    obtain⟨n,e,s'',h3,h4⟩:=this;simp only[aK.post,kN,au4,au8] at h3;obtain⟨rfl,rfl⟩:=h3;exact h4
   | _=>exact h
 | succ n ih =>
  cases c with
  | seq a b =>
   simp only[aK.pre,FJ] at h1 ⊢;refine uu h1 (fun e s' h=>?_)
   cases e with
   | normal=>exact ih h h2
   | _=>exact h
  | _ =>
   refine uu h1 (fun e s' h=>?_)
   cases e with
   | normal =>
    have:=h2 s' h
    obtain⟨n,e,s'',h3,h4⟩:=this;simp only[aK.post,kN,au4,au8] at h3;obtain⟨rfl,rfl⟩:=h3;exact h4
   | _=>exact h
section
variable {o:Option (List (List AV))}{base:Nat}{A:AP}{T:aD}{H:ae}{lo gen:Nat}{K:AS->Prop}{os:List aV}{t:Nat}
def Tz:bf base AV.ar=true:=rfl
end
end
end Go.Abs
namespace Go.Abs
variable {z:AV}{agg own:Bool}{el:List (List AV)}{cs xs:List AV}{b g gen k loc n' off sz:Nat}{S:Nat->Nat->Prop}{tm:Nat->Value}{o:Oper}{i:Operand}{dt e st:TypeId}{w':World}{T:aD}{ix yi:aE}{H:ae}
def Sx{α:Type}{b:Bool}{x:Option α}{r:α} : (cond b x none=some r)=(b=true/\x=some r):=by cases b<;>simp
def MX:=And.intro (@Option.bind_eq_some_iff.{0,0}) (And.intro (@Option.map_eq_some_iff.{0,0}) (And.intro (@Sx) (And.intro (@Option.some.injEq.{0}) (@Prod.mk.injEq.{0,0}))))
inductive bM where
 | none|outer|ret
 | hb (loc:Nat)
 | hs (loc j:Nat)
 | bx (i:Nat)
 | sl (i:Nat)
 | sc (i j:Nat)
 | par (j:Nat)
 deriving DecidableEq,Inhabited
variable {q:Nat->bM}{p:bM}{touch:bM->Prop}
structure Gh where
 S:Nat->Nat->Prop
 κ:Nat->bM
 ρ:Nat->Nat
variable {br:Gh}
def uf(agg:Bool)(n:Nat)(f:Nat->Value):Value:=cond agg (.agg ((List.range n).map f).toArray) (f 0)
structure IZ (E:Array MapEntry) (ck kz:Nat) (ka va:Bool) (es:List (List AV)) (f:Nat->Nat->Value):Prop where
 size:E.size=es.length
 clk:ck=E.size
 at' : ∀ (i:Nat) (e:MapEntry),E[i]?=some e->e.born=i
 born:∀ (i:Nat) (e:MapEntry),E[i]?=some e->e.born<ck
 apart:∀ (i j:Nat) (e e' : MapEntry),E[i]?=some e->E[j]?=some e'->e.born=e'.born->i=j
 row:∀ (i:Nat) (e:MapEntry) (r:List AV),E[i]?=some e->es[i]?=some r->kz<=r.length/\(ka=false->kz=1)/\(va=false->r.length=kz+1)/\e.key=uf ka kz (f i)/\e.val=uf va (r.length-kz) (fun j=>f i (kz+j))
structure zI (E:Array MapEntry) (ck kz:Nat) (ka va:Bool) (es:List (List AV)) (f:Nat->Nat->Value):Prop where
 size:E.size=es.length
 born:∀ (i:Nat) (e:MapEntry),E[i]?=some e->e.born<ck
 apart:∀ (i j:Nat) (e e' : MapEntry),E[i]?=some e->E[j]?=some e'->e.born=e'.born->i=j
 row:∀ (i:Nat) (e:MapEntry) (r:List AV),E[i]?=some e->es[i]?=some r->kz<=r.length/\(ka=false->kz=1)/\(va=false->r.length=kz+1)/\e.key=uf ka kz (f i)/\e.val=uf va (r.length-kz) (fun j=>f i (kz+j))
def IZ.iter{E:Array MapEntry}{ck kz:Nat}{ka va:Bool}{es:List (List AV)}{f:Nat->Nat->Value}(h:IZ E ck kz ka va es f):zI E ck kz ka va es f:=⟨h.size,h.born,h.apart,h.row⟩
inductive PR (S:Nat->Nat->Prop) (w:World):Value->AV->Prop where
 | bool (b:Bool):PR S w (.bool b) (.bool b)
 | int (k:IntKind) (n:Int):PR S w (.int k n) (.int k n)
 | str (s:ByteArray) (l:List UInt8) (h:s.data.toList=l):PR S w (.string s) (.str l)
 | any (v:Value) (h:v.oneCell'=true):PR S w v .any
 | nf:PR S w (.pointer none) .nf
 | kA:PR S w (.map none) .kA
 | kJ:PR S w .nilFunc .kJ
 | df:PR S w .nilIface .df
 | func (f:Fn):PR S w (.func f #[] #[]) (.func f [] [])
 | iface (t:TypeId) (v:Value) (x:AV) (h:PR S w v x):PR S w (.iface t v) (.iface t x)
 | dF:PR S w (.slice none 0 0) (.slice [] false)
 | ar:PR S w (.slice none 0 0) .ar
 | slice (b o n cap sz:Nat) (e:List (List AV)) (f:Nat->Nat->Value) (hn:e.length=n) (kY:n<=cap)
   (bX:∀ (i:Nat) (r:List AV),e[i]?=some r->r.length=sz)
   (di:∀ (i j:Nat) (r:List AV) (x:AV),e[i]?=some r->r[j]?=some x->S b (o+i*sz+j)/\w.cell? ⟨b,o+i*sz+j,none⟩=some (f i j)/\(f i j).oneCell'=true)
   (dr:∀ (i j:Nat) (r:List AV) (x:AV),e[i]?=some r->r[j]?=some x->PR S w (f i j) x) :
   PR S w (.slice (some ⟨b,o,none⟩) n cap) (.slice e false)
 | eptr (b o:Nat) (cs:List AV) (f:Nat->Value)
   (di:∀ (j:Nat) (x:AV),cs[j]?=some x->S b (o+j)/\w.cell? ⟨b,o+j,none⟩=some (f j)/\(f j).oneCell'=true)
   (dr:∀ (j:Nat) (x:AV),cs[j]?=some x->PR S w (f j) x) :
   PR S w (.pointer (some ⟨b,o,none⟩)) (.eptr cs)
 | je (b kz:Nat) (ka va:Bool) (es:List (List AV)) (E:Array MapEntry) (ck:Nat) (f:Nat->Nat->Value) (hS:S b 0) (hb:w.heap[b]?=some (.map E ck)) (hE:IZ E ck kz ka va es f)
   (dr:∀ (i j:Nat) (r:List AV) (x:AV),es[i]?=some r->r[j]?=some x->PR S w (f i j) x):PR S w (.map (some b)) (.je kz ka va es)
 | mz (b kz:Nat) (ka va:Bool) (es uI:List (List AV)) (E:Array MapEntry) (ck:Nat) (f:Nat->Nat->Value) (hS:S b 0) (hb:w.heap[b]?=some (.map E ck)) (hE:zI E ck kz ka va uI f) (hp:uI.Perm es)
   (dr:∀ (i j:Nat) (r:List AV) (x:AV),uI[i]?=some r->r[j]?=some x->PR S w (f i j) x):PR S w (.map (some b)) (.mz kz ka va es)
def PR.gb{w:World}{v:Value}{x:AV}(h:PR S w v x):v.oneCell'=true:=by
 cases h<;>first|rfl|assumption
def PR.mono{S':Nat->Nat->Prop}{w:World}(hS:∀ b o,S b o->S' b o)(hc:∀ b o,S b o->w'.cell? ⟨b,o,none⟩=w.cell? ⟨b,o,none⟩)
  (hm:∀ b E ck,S b 0->w.heap[b]?=some (.map E ck)->w'.heap[b]?=some (.map E ck))
  {v:Value} {x:AV} (h:PR S w v x):PR S' w' v x:=by
 induction h with
 | bool b=>exact .bool b
 | int k n=>exact .int k n
 | str s l h=>exact .str s l h
 | any v h=>exact .any v h
 | nf=>exact .nf
 | kA=>exact .kA
 | kJ=>exact .kJ
 | df=>exact .df
 | func f=>exact .func f
 | iface t v x _ ih=>exact .iface t v x ih
 | dF=>exact .dF
 | ar=>exact .ar
 | slice b o n cap sz e f hn kY bX di _ ih =>
  exact .slice b o n cap sz e f hn kY bX (fun i j r x h1 h2=>by
   obtain⟨a,c,d⟩:=di i j r x h1 h2;exact⟨hS _ _ a,(hc _ _ a).trans c,d⟩) ih
 | eptr b o cs f di _ ih =>
  exact .eptr b o cs f (fun j x h=>by
   obtain⟨a,c,d⟩:=di j x h;exact⟨hS _ _ a,(hc _ _ a).trans c,d⟩) ih
 | je b kz ka va es E ck f h1 h2 h3 _ ih=>exact .je b kz ka va es E ck f (hS _ _ h1) (hm _ _ _ h1 h2) h3 ih
 | mz b kz ka va es uI E ck f h1 h2 h3 h4 _ ih=>exact .mz b kz ka va es uI E ck f (hS _ _ h1) (hm _ _ _ h1 h2) h3 h4 ih
def sy(w:World)(b:Nat)(ty:TypeId)(n:Nat):Prop:=∃ C fr,w.heap[b]?=some (.cells C ty fr)/\C.size=n
inductive VR (gh:Gh) (n:Nat) (w:World):Value->AV->Prop where
 | plain (v:Value) (x:AV) (h:PR gh.S w v x):VR gh n w v x
 | full (a:Option Addr) (k:Nat) (e:List (List AV)) (h:PR gh.S w (.slice a k k) (.slice e false)) (hz:True):VR gh n w (.slice a k k) (.slice e true)
 | ref (loc off:Nat) (h:loc<n):VR gh n w (.pointer (some ⟨gh.ρ loc,off,none⟩)) (.ref loc off)
 | sref (loc off k cap z:Nat) (h:loc<n) (hk:k<=cap) (hz:z≠0->∃ ty,sy w (gh.ρ loc) ty (off+cap*z)):VR gh n w (.slice (some ⟨gh.ρ loc,off,none⟩) k cap) (.sref loc off k z)
 | mref (loc:Nat) (h:loc<n):VR gh n w (.map (some (gh.ρ loc))) (.mref loc)
 | func (f:Fn) (fs cs:Array Value) (xs ys:List AV) (hf:fs.size=xs.length) (hc:cs.size=ys.length)
   (h1:∀ (j:Nat) (v:Value) (x:AV),fs[j]?=some v->xs[j]?=some x->VR gh n w v x)
   (h2:∀ (j:Nat) (v:Value) (x:AV),cs[j]?=some v->ys[j]?=some x->VR gh n w v x):VR gh n w (.func f fs cs) (.func f xs ys)
 | iface (t:TypeId) (v:Value) (x:AV) (h:VR gh n w v x):VR gh n w (.iface t v) (.iface t x)
 | agg (cs:Array Value) (xs:List AV) (hs:cs.size=xs.length)
   (iC:∀ (j:Nat) (v:Value),cs[j]?=some v->v.oneCell'=true)
   (h:∀ (j:Nat) (v:Value) (x:AV),cs[j]?=some v->xs[j]?=some x->VR gh n w v x):VR gh n w (.agg cs) (.agg xs)
 | tuple (vs:Array Value) (xs:List AV) (hs:vs.size=xs.length)
   (h:∀ (j:Nat) (v:Value) (x:AV),vs[j]?=some v->xs[j]?=some x->VR gh n w v x):VR gh n w (.tuple vs) (.tuple xs)
def Kept(S:Nat->Prop)(x y:Option Obj):Prop :=
 y=x\/∃ C ty lo hi lo' kP,x=some (.cells C ty (lo,hi))/\y=some (.cells C ty (lo',kP))/\(∃ o n,S o/\C[o]?=some (Value.int .u8 n))/\∀ m,hi<=m->(∀ o,m<=o->¬ S o)->kP<=m
def Kept.none{S:Nat->Prop}{x y:Option Obj}(h:Kept S x y)(hS:∀ o,¬ S o):y=x:=by
 rcases h with h|⟨_,_,_,_,_,_,_,_,⟨o,_,ho,_⟩,_⟩
 ·exact h
 ·exact absurd ho (hS o)
def Kept.trans{S T:Nat->Prop}{x y z:Option Obj}(h:Kept S x y)(h' : Kept T y z)(hT:∀ o,T o->S o):Kept S x z:=by
 rcases h with rfl|⟨C,ty,lo,hi,lo',kP,h1,h2,h3,h4⟩
 ·rcases h' with rfl|⟨C,ty,lo,hi,lo',kP,h1,h2,⟨o,n,ho,hn⟩,h4⟩
  ·exact .inl rfl
  ·exact .inr ⟨C,ty,lo,hi,lo',kP,h1,h2,⟨o,n,hT o ho,hn⟩,fun m hm hS=>h4 m hm (fun o ho ht=>hS o ho (hT o ht))⟩
 ·rcases h' with rfl|⟨C2,ty2,lo2,Bp,lo3,hi3,k1,k2,_,k4⟩
  ·exact .inr ⟨C,ty,lo,hi,lo',kP,h1,h2,h3,h4⟩
  ·rw[h2] at k1
   injection k1 with k1
   injection k1 with e1 e2 e3
   injection e3 with e3 e4
   subst e1 e2 e3 e4;exact .inr ⟨C,ty,lo,hi,lo3,hi3,h1,k2,h3,fun m hm hS=>k4 m (h4 m hm hS) (fun o ho ht=>hS o ho (hT o ht))⟩
structure Step (touch:bM->Prop) (n:Nat) (gh:Gh) (w:World) (br:Gh) (w' : World):Prop where
 S:∀ b o,gh.S b o->br.S b o
 cell:∀ b o,gh.S b o->w'.cell? ⟨b,o,none⟩=w.cell? ⟨b,o,none⟩
 size:w.heap.size<=w'.heap.size
 os:w'.os=w.os
 tape:w'.tape=w.tape
 output:w'.output=w.output
 oH:∀ b,b<w.heap.size->¬ touch (gh.κ b)->Kept (gh.S b) (w.heap[b]?) (w'.heap[b]?)/\br.κ b=gh.κ b/\∀ o,br.S b o->gh.S b o
 fresh:∀ b,w.heap.size<=b->br.κ b≠.outer
 ρ:∀ loc,loc<n->br.ρ loc=gh.ρ loc
 len:∀ b ty m,sy w b ty m->sy w' b ty m
 mp:∀ b E ck,gh.S b 0->w.heap[b]?=some (.map E ck)->w'.heap[b]?=some (.map E ck)
def Step.refl(touch:bM->Prop)(n:Nat)(gh:Gh)(w:World)(hf:∀ b,w.heap.size<=b->gh.κ b≠.outer):Step touch n gh w gh w :=
 ⟨fun _ _ h=>h,fun _ _ _=>rfl,Nat.le_refl _,rfl,rfl,rfl,fun _ _ _=>⟨.inl rfl,rfl,fun _ h=>h⟩,hf,fun _ _=>rfl,fun _ _ _ h=>h,fun _ _ _ _ h=>h⟩
def Step.mono{Wu:bM->Prop}{n:Nat}{gh:Gh}{w:World}(h:Step touch n gh w br w')(ht:∀ p,touch p->Wu p):Step Wu n gh w br w' :=
 { h with oH:=fun b hb hn=>h.oH b hb (fun x=>hn (ht _ x)) }
def VR.mono{n:Nat}{gh:Gh}{w:World}(st:Step touch n gh w br w')(hn:n<=n')
  {v:Value} {x:AV} (h:VR gh n w v x):VR br n' w' v x:=by
 induction h with
 | plain v x h=>exact .plain v x (h.mono st.S st.cell st.mp)
 | full a k e h hz=>exact .full a k e (h.mono st.S st.cell st.mp) trivial
 | ref loc off h=>rw[<- st.ρ loc h];exact .ref loc off (awk h hn)
 | sref loc off k cap z h hk hz=>rw[<- st.ρ loc h];exact .sref loc off k cap z (awk h hn) hk (fun h0=>(hz h0).imp fun ty hb=>by rw[st.ρ loc h];exact st.len _ _ _ hb)
 | mref loc h=>rw[<- st.ρ loc h];exact .mref loc (awk h hn)
 | func f fs cs xs ys hf hc _ _ ih1 ih2=>exact .func f fs cs xs ys hf hc ih1 ih2
 | iface t v x _ ih=>exact .iface t v x ih
 | agg cs xs hs iC _ ih=>exact .agg cs xs hs iC ih
 | tuple vs xs hs _ ih=>exact .tuple vs xs hs ih
def NB(gh:Gh)(w:World)(p:bM)(v:Value)(e:List (List AV)):Prop :=
 ∃ b cap C ty lo hi sz,v=.slice (some ⟨b,0,none⟩) e.length cap/\gh.κ b=p/\e≠[]/\w.heap[b]?=some (.cells C ty (lo,hi))/\C.size=cap*sz /\
  (∀ (i:Nat) (r:List AV),e[i]?=some r->r.length=sz)/\e.length<=cap/\hi<=e.length*sz/\(∀ o,e.length*sz<=o->¬ gh.S b o)
def NB.mono{n:Nat}{gh:Gh}{w:World}(st:Step touch n gh w br w')(hp:¬ touch p)
  {v:Value} {e:List (List AV)} (h:NB gh w p v e):NB br w' p v e:=by
 obtain⟨b,cap,C,ty,lo,hi,sz,hv,hk,he,hb,hC,hr,hl,hh,hS⟩:=h;have aZ:b<w.heap.size:=(avc.1 hb).1;obtain⟨h1,h2,h3⟩:=st.oH b aZ (by rw[hk];exact hp)
 rcases h1 with h1|⟨C',ox,lo1,RC,lo',kP,k1,k2,_,k4⟩
 ·exact⟨b,cap,C,ty,lo,hi,sz,hv,by rw[h2,hk],he,by rw[h1,hb],hC,hr,hl,hh,fun o ho hs=>hS o ho (h3 o hs)⟩
 ·rw[hb] at k1
  injection k1 with k1
  injection k1 with e1 e2 e3
  injection e3 with e3 e4
  subst e1 e2 e3 e4;exact⟨b,cap,C,ty,lo',kP,sz,hv,by rw[h2,hk],he,k2,hC,hr,hl,k4 _ hh hS,fun o ho hs=>hS o ho (h3 o hs)⟩
def CR(gh:Gh)(n:Nat)(w:World)(p:bM)(v:Value)(x:AV):Prop :=
 VR gh n w v x\/∃ e,x=.slice e true/\PR gh.S w v (.slice e false)/\NB gh w p v e
def CR.mono{n:Nat}{gh:Gh}{w:World}(st:Step touch n gh w br w')(hn:n<=n')(hp:¬ touch p)
  {v:Value} {x:AV} (h:CR gh n w p v x):CR br n' w' p v x:=by
 rcases h with h|⟨e,rfl,h1,h2⟩
 ·exact .inl (h.mono st hn)
 ·exact .inr ⟨e,rfl,h1.mono st.S st.cell st.mp,h2.mono st hp⟩
theorem CR.dropped{gh:Gh}{n:Nat}{w:World}{v:Value}{x:AV}(h:CR gh n w p v x):VR gh n w v x.drop:=by
 rcases h with h|⟨e,rfl,h1,_⟩
 ·cases h with
  | plain v x h =>
   cases x<;>try exact .plain _ _ h
   cases h<;>first|exact .plain _ _ .dF|exact .plain _ _ (.slice _ _ _ _ _ _ _ ‹_› ‹_› ‹_› ‹_› ‹_›)
  | full a k e h=>exact .plain _ _ h
  | ref loc off h=>exact .ref loc off h
  | sref loc off k cap z h hk hz=>exact .sref loc off k cap z h hk hz
  | mref loc h=>exact .mref loc h
  | func f fs cs xs ys hf hc h1 h2=>exact .func f fs cs xs ys hf hc h1 h2
  | iface t v x h=>exact .iface t v x h
  | agg cs xs hs iC h=>exact .agg cs xs hs iC h
  | tuple vs xs hs h=>exact .tuple vs xs hs h
 ·exact .plain _ _ h1
theorem VR.dropped{gh:Gh}{n:Nat}{w:World}{v:Value}{x:AV}(h:VR gh n w v x):VR gh n w v x.drop:=CR.dropped (p:=.none) (.inl h)
def iT(gh:Gh)(n:Nat)(w:World)(b:Nat)(p:bM)(q:Nat->bM)(cs:List AV):Prop :=
 gh.κ b=p/\(∀ o,¬ gh.S b o)/\∃ C ty,w.heap[b]?=some (.cells C ty (0,0))/\cs.length<=C.size /\
  ∀ (j:Nat) (v:Value) (x:AV),C[j]?=some v->cs[j]?=some x->v.oneCell'=true/\CR gh n w (q j) v x
def iT.mono{n:Nat}{gh:Gh}{w:World}(st:Step touch n gh w br w')(hn:n<=n')
  (hp:¬ touch p) (hq:∀ j,¬ touch (q j)) {cs:List AV} (h:iT gh n w b p q cs):iT br n' w' b p q cs:=by
 obtain⟨hk,hS,C,ty,hb,hC,iL⟩:=h;have aZ:b<w.heap.size:=(avc.1 hb).1;obtain⟨h1,h2,h3⟩:=st.oH b aZ (by rw[hk];exact hp)
 have h1:=h1.none hS;exact⟨by rw[h2,hk],fun o ho=>hS o (h3 o ho),C,ty,by rw[h1,hb],hC,fun j v x hv hx=>⟨(iL j v x hv hx).1,(iL j v x hv hx).2.mono st hn (hq j)⟩⟩
def uk(gh:Gh)(w:World)(p:bM)(v:Value)(e:List (List AV)):Prop :=
 ∃ a cap,v=.slice a e.length cap/\((e=[]/\cap=0/\∀ ad,a=some ad->ad.spot=none/\True)\/∃ b C ty sz,e≠[]/\a=some ⟨b,0,none⟩/\gh.κ b=p/\(∀ o,¬ gh.S b o)/\w.heap[b]?=some (.cells C ty (0,0))/\C.size=cap*sz /\
  e.length<=cap/\(∀ (i:Nat) (r:List AV),e[i]?=some r->r.length=sz) /\
  ∀ (i j:Nat) (r:List AV) (x:AV),e[i]?=some r->r[j]?=some x->∃ u,C[i*sz+j]?=some u/\PR gh.S w u x)
theorem uk.mono{n:Nat}{gh:Gh}{w:World}(st:Step touch n gh w br w')(hp:¬ touch p)
  {v:Value} {e:List (List AV)} (h:uk gh w p v e):uk br w' p v e:=by
 obtain⟨a,cap,hv,h⟩:=h;refine⟨a,cap,hv,?_⟩
 rcases h with h|⟨b,C,ty,sz,dk,ha,hk,hS,hb,hC,hl,hr,iL⟩
 ·grind
 ·have aZ:b<w.heap.size:=(avc.1 hb).1
  obtain⟨h1,h2,h3⟩:=st.oH b aZ (by rw[hk];exact hp)
  have h1:=h1.none hS;exact .inr ⟨b,C,ty,sz,dk,ha,by rw[h2,hk],fun o ho=>hS o (h3 o ho),by rw[h1,hb],hC,hl,hr,fun i j r x hi hj=>by
   obtain⟨u,hu,hp⟩:=iL i j r x hi hj;exact⟨u,hu,hp.mono st.S st.cell st.mp⟩⟩
def FI(gh:Gh)(n:Nat)(w:World)(b:Nat)(p:bM)(q:Nat->bM)(kz:Nat)(ka va:Bool)(es:List (List AV)):Prop :=
 gh.κ b=p/\(∀ o,¬ gh.S b o)/\∃ E ck f,w.heap[b]?=some (.map E ck)/\IZ E ck kz ka va es f /\
  (∀ (i j:Nat) (r:List AV) (x:AV),es[i]?=some r->r[j]?=some x->j<kz->PR gh.S w (f i j) x) /\
  ∀ (i j:Nat) (r:List AV) (x:AV),es[i]?=some r->r[j]?=some x->kz<=j->(f i j).oneCell'=true/\(va=true->VR gh n w (f i j) x)/\CR gh n w (q i) (f i j) x
def FI.mono{n:Nat}{gh:Gh}{w:World}(st:Step touch n gh w br w')(hn:n<=n')(hp:¬ touch p)(hq:∀ i,¬ touch (q i))
  {kz:Nat} {ka va:Bool} {es:List (List AV)} (h:FI gh n w b p q kz ka va es):FI br n' w' b p q kz ka va es:=by
 obtain⟨hk,hS,E,ck,f,hb,hE,h1,h2⟩:=h;have aZ:b<w.heap.size:=(avc.1 hb).1;obtain⟨k1,k2,k3⟩:=st.oH b aZ (by rw[hk];exact hp)
 have k1:=k1.none hS;exact⟨by rw[k2,hk],fun o ho=>hS o (k3 o ho),E,ck,f,by rw[k1,hb],hE,fun i j r x hi hj hl=>(h1 i j r x hi hj hl).mono st.S st.cell st.mp,
  fun i j r x hi hj hl=>⟨(h2 i j r x hi hj hl).1,fun hv=>((h2 i j r x hi hj hl).2.1 hv).mono st hn,(h2 i j r x hi hj hl).2.2.mono st hn (hq i)⟩⟩
def wR(gh:Gh)(n:Nat)(w:World)(b loc:Nat):bS->Prop
 | .map kz ka va es=>FI gh n w b (.hb loc) (fun i=>.hs loc i) kz ka va es/\(es.all fun r=>r.all (bf loc))=true
 | .je kz ka va es=>PR gh.S w (.map (some b)) (.je kz ka va es)
 | .Ta cs=>PR gh.S w (.pointer (some ⟨b,0,none⟩)) (.eptr cs)
 | .bZ cs=>iT gh n w b (.hb loc) (fun j=>.hs loc j) cs
 | _=>True
def wR.mono{n:Nat}{gh:Gh}{w:World}(st:Step touch n gh w br w')(hn:n<=n')(hp:¬ touch (.hb loc))(hq:∀ i,¬ touch (.hs loc i))
  {o:bS} (h:wR gh n w b loc o):wR br n' w' b loc o:=by
 cases o with
 | map kz ka va es=>exact⟨h.1.mono st hn hp hq,h.2⟩
 | je kz ka va es=>exact PR.mono st.S st.cell st.mp h
 | Ta cs=>exact PR.mono st.S st.cell st.mp h
 | bZ cs=>exact iT.mono st hn hp hq h
 | _=>trivial
def zH(gh:Gh)(w:World)(b:Nat)(p:bM)(kz:Nat)(ka va:Bool)(cur:List AV)(todo:List (List AV)):Prop :=
 gh.κ b=p/\(∀ o,¬ gh.S b o)/\∃ (m:Option Nat) (since:Nat) (seen:Array Nat) (last:Nat),w.heap[b]?=some (.mapIter m since seen last) /\
  ((m=none/\todo=[]/\seen=#[]/\cur=[])\/∃ m0 E es ck f,m=some m0/\gh.S m0 0/\w.heap[m0]?=some (.map E ck)/\zI E ck kz ka va es f/\since=ck/\last=ck /\
   (∀ (i j:Nat) (r:List AV) (x:AV),es[i]?=some r->r[j]?=some x->PR gh.S w (f i j) x) /\
   ((seen.back?=none/\cur=[])\/∃ (s i:Nat) (e:MapEntry),seen.back?=some s/\E[i]?=some e/\e.born=s/\es[i]?=some cur) /\
   todo.Perm (((E.toList.zip es).filter fun p=>!seen.contains p.1.born).map (·.2)))
def zH.mono{n:Nat}{gh:Gh}{w:World}(st:Step touch n gh w br w')(hp:¬ touch p)
  {kz:Nat} {ka va:Bool} {cur:List AV} {todo:List (List AV)} (h:zH gh w b p kz ka va cur todo):zH br w' b p kz ka va cur todo:=by
 obtain⟨hk,hS,m,since,seen,last,hb,h⟩:=h;have aZ:b<w.heap.size:=(avc.1 hb).1;obtain⟨k1,k2,k3⟩:=st.oH b aZ (by rw[hk];exact hp)
 have k1:=k1.none hS;refine⟨by rw[k2,hk],fun o ho=>hS o (k3 o ho),m,since,seen,last,by rw[k1,hb],?_⟩
 rcases h with h|⟨m0,E,es,ck,f,h1,h2,h3,h4,h5,h6,h7,h8,h9⟩
 ·exact .inl h
 ·exact .inr ⟨m0,E,es,ck,f,h1,st.S _ _ h2,st.mp _ _ _ h2 h3,h4,h5,h6,fun i j r x hi hj=>(h7 i j r x hi hj).mono st.S st.cell st.mp,h8,h9⟩
def SR(gh:Gh)(n nt:Nat)(w:World)(T:aD)(gen:Nat)(tm:Nat->Value)(i:Nat)(v:Value)(x:AV):Prop :=
 match x with
 | .lbox g cs=>g<gen/\∃ b,v=.pointer (some ⟨b,0,none⟩)/\iT gh n w b (.bx i) (fun j=>.sc i j) cs
 | .lsl g e=>g<gen/\uk gh w (.bx i) v e
 | .lref s g off=>s<nt/\g<gen/\(fz (T s)=some g->∀ b,tm s=.pointer (some ⟨b,0,none⟩)->v=.pointer (some ⟨b,off,none⟩))
 | .lsr s g=>s<nt/\g<gen/\(fz (T s)=some g->v=tm s)
 | .eref s g r z off=>s<nt/\g<gen/\(fz (T s)=some g->∀ b k cap,tm s=.slice (some ⟨b,0,none⟩) k cap->v=.pointer (some ⟨b,r*z+off,none⟩))
 | .iter g kz ka va cur todo=>g<gen/\∃ b,v=.pointer (some ⟨b,0,none⟩)/\zH gh w b (.bx i) kz ka va cur todo
 | x=>CR gh n w (.sl i) v x
structure a8 (G:Nat->List AV) (base:Nat) (H:ae) (gh:Gh) (w:World):Prop where
 size:base<=w.heap.size
 qa:∀ b o,gh.S b o->b<w.heap.size
 ry:∀ b,gh.κ b≠.none->base<=b/\b<w.heap.size
 aY:∀ (g j:Nat) (x:AV),(G g)[j]?=some x->∃ v,w.cell? ⟨g,j,none⟩=some v/\PR gh.S w v x/\gh.S g j
 boxes:∀ (loc:Nat) (ty:TypeId) (cs:List AV),H[loc]?=some (bS.box ty cs)->iT gh H.length w (gh.ρ loc) (.hb loc) (fun j=>.hs loc j) cs
 refs:∀ (loc:Nat) (ty:TypeId) (cs:List AV),H[loc]?=some (bS.box ty cs)->cs.all (bf loc)=true
 BA:∀ g,G g≠[]->∃ ty,sy w g ty (G g).length
 bytes:∀ b o n,gh.S b o->w.cell? ⟨b,o,none⟩=some (.int .u8 n)->∃ C fr,w.heap[b]?=some (.cells C jo fr)
 more:∀ (loc:Nat) (o:bS),H[loc]?=some o->wR gh H.length w (gh.ρ loc) loc o
 types:∀ (loc:Nat) (ty:TypeId) (cs:List AV),H[loc]?=some (bS.box ty cs)->ty≠bD->sy w (gh.ρ loc) ty cs.length
structure alM (nt:Nat) (gh:Gh) (w:World) (a:Act) (s:AS):Prop where
 defers:a.defers=[]
 size:a.tmps.size=nt
 slot:∀ i,i<nt->SR gh s.H.length nt w s.T s.gen (fun k=>a.tmps.getD k undef) i (a.tmps.getD i undef) (s.T i)
def a8.mw{G:Nat->List AV}{base:Nat}{gh:Gh}{w:World}{n:Nat}(h:a8 G base H gh w)(st:Step touch n gh w br w')
  (kZ:∀ b o m,br.S b o->gh.S b o\/(w'.cell? ⟨b,o,none⟩=some (.int .u8 m)->∃ C fr,w'.heap[b]?=some (.cells C jo fr))) :
  ∀ b o m,br.S b o->w'.cell? ⟨b,o,none⟩=some (.int .u8 m)->∃ C fr,w'.heap[b]?=some (.cells C jo fr):=by
 intro b o m hs hc
 rcases kZ b o m hs with ho|hn
 ·obtain⟨C,fr,h1⟩:=h.bytes b o m ho (by rw[<- st.cell b o ho];exact hc)
  obtain⟨C',fr',h2,_⟩:=st.len b jo C.size ⟨C,fr,h1,rfl⟩;exact⟨C',fr',h2⟩
 ·exact hn hc
def a8.fresh{G:Nat->List AV}{base:Nat}{gh:Gh}{w:World}(h:a8 G base H gh w)(b:Nat)(hb:w.heap.size<=b):gh.κ b=.none:=by
 by_cases hk:gh.κ b=.none
 ·exact hk
 ·have:=(h.ry b hk).2;omega
theorem SR.mono{n nt:Nat}{gh:Gh}{w:World}(st:Step touch n gh w br w')(hn:n<=n'){T':aD}{gen':Nat}(hg:gen<=gen')
  {tm tm' : Nat->Value} {i:Nat} (h1:¬ touch (.bx i)) (h2:¬ touch (.sl i)) (h3:∀ j,¬ touch (.sc i j))
  (hT:∀ s,s<nt->(fz (T' s)=fz (T s)/\tm' s=tm s)\/fz (T' s)=none\/∃ g,gen<=g/\fz (T' s)=some g)
  {v:Value} {x:AV} (h:SR gh n nt w T gen tm i v x):SR br n' nt w' T' gen' tm' i v x:=by
 have key:∀ s g,s<nt->g<gen->fz (T' s)=some g->fz (T s)=some g/\tm' s=tm s:=by
  grind
 cases x
 case lbox g cs =>
  obtain⟨RB,b,hv,hb⟩:=h;exact⟨by omega,b,hv,hb.mono st hn h1 h3⟩
 case lsl g e=>exact⟨by have:=h.1;omega,h.2.mono st h1⟩
 case iter g kz ka va cur todo =>
  obtain⟨RB,b,hv,hb⟩:=h;exact⟨by omega,b,hv,hb.mono st h1⟩
 case lref s g off =>
  obtain⟨hs,RB,hr⟩:=h;refine⟨hs,by omega,fun J0 b hb=>?_⟩
  grind
 case lsr s g =>
  obtain⟨hs,RB,hr⟩:=h;refine⟨hs,by omega,fun J0=>?_⟩
  grind
 case eref s g r z off =>
  obtain⟨hs,RB,hr⟩:=h;refine⟨hs,by omega,fun J0 b k cap hb=>?_⟩
  grind
 all_goals exact CR.mono st hn h2 h
def sw(p:bM):Prop:=p≠.none/\p≠.outer
structure Ext (n:Nat) (gh:Gh) (w:World) (br:Gh) (w' : World):Prop where
 step:Step sw n gh w br w'
 out:∀ b,br.κ b=.outer->gh.κ b=.outer
def Ext.refl(n:Nat)(gh:Gh)(w:World)(hf:∀ b,w.heap.size<=b->gh.κ b≠.outer):Ext n gh w gh w:=⟨Step.refl _ n gh w hf,fun _ h=>h⟩
def Ext.trans{n:Nat}{g1 g2 g3:Gh}{w1 w2 w3:World}(h:Ext n g1 w1 g2 w2)(h' : Ext n' g2 w2 g3 w3)(hn:n<=n'):Ext n g1 w1 g3 w3:=by
 refine⟨⟨fun b o hs=>h'.step.S b o (h.step.S b o hs),fun b o hs=>(h'.step.cell b o (h.step.S b o hs)).trans (h.step.cell b o hs),avz h.step.size h'.step.size,
  h'.step.os.trans h.step.os,h'.step.tape.trans h.step.tape,h'.step.output.trans h.step.output,?_,?_,fun loc hl=>(h'.step.ρ loc (awk hl hn)).trans (h.step.ρ loc hl),fun b ty m hb=>h'.step.len b ty m (h.step.len b ty m hb),fun b E ck hs hb=>h'.step.mp b E ck (h.step.S b 0 hs) (h.step.mp b E ck hs hb)⟩,fun b hb=>h.out b (h'.out b hb)⟩
 ·intro b hb hnt
  obtain⟨a1,a2,a3⟩:=h.step.oH b hb hnt;obtain⟨c1,c2,c3⟩:=h'.step.oH b (awk hb h.step.size) (by rw[a2];exact hnt)
  exact⟨a1.trans c1 a3,c2.trans a2,fun o ho=>a3 o (c3 o ho)⟩
 ·intro b hb ho
  have:=h'.out b ho
  by_cases kO:w2.heap.size<=b
  ·exact h'.step.fresh b kO ho
  ·exact h.step.fresh b hb this
structure FR (L:List Nat) (nt:Nat) (gh:Gh) (w:World) (a:Act) (s:AS):Prop extends alM nt gh w a s where
 obj:∀ i,(fz (s.T i)).isSome=true->i∈L
def gP(a:Act)(k:Nat):Value:=a.tmps.getD k undef
theorem qV(a:Act)(d:Nat)(v:Value)(k:Nat)(hd:d<a.tmps.size):gP (a.put (some d) v) k=if k=d then v else gP a k:=by
 unfold gP Act.put
 by_cases h:k=d
 ·subst h;simp[hd]
 ·simp[h,axm (awr h)]
theorem iI(a b:Nat):Nat.beq a b=decide (a=b):=by
 by_cases h:a=b
 ·subst h;simp
 ·have h1:Nat.beq a b≠true:=fun h'=>h (av5 h')
  grind
theorem lr(T:aD)(d:Nat)(v:AV)(k:Nat):T.put d v k=if k=d then v else T k:=by
 unfold aD.put
 simp_all
theorem FR.update{L:List Nat}{nt:Nat}{gh:Gh}{w:World}{a a':Act}{s s':AS}(h:FR L nt gh w a s)
  (st:Step touch s.H.length gh w br w') (TE:a'.defers=[]) (kj:a'.tmps.size=nt) (hn:s.H.length<=s'.H.length) (hg:s.gen<=s'.gen)
  (D:Nat->Prop)
  (J1:∀ i,¬ D i->s'.T i=s.T i/\(i<nt->gP a' i=gP a i/\¬ touch (.bx i)/\¬ touch (.sl i)/\∀ j,¬ touch (.sc i j)))
  (amJ:∀ i,D i->(i<nt/\fz (s'.T i)=fz (s.T i)/\gP a' i=gP a i)\/fz (s'.T i)=none\/(i∈L/\∃ g,s.gen<=g/\fz (s'.T i)=some g))
  (kZ:∀ i,D i->i<nt->SR br s'.H.length nt w' s'.T s'.gen (gP a') i (gP a' i) (s'.T i)):FR L nt br w' a' s':=by
 have hT:∀ i,i<nt->(fz (s'.T i)=fz (s.T i)/\gP a' i=gP a i)\/fz (s'.T i)=none\/∃ g,s.gen<=g/\fz (s'.T i)=some g:=by
  intro i hi
  by_cases hD:D i
  ·grind
  ·grind
 refine⟨⟨TE,kj,fun i hi=>?_⟩,fun i hi=>?_⟩
 ·by_cases hD:D i
  ·exact kZ i hD hi
  ·obtain⟨k1,k2⟩:=J1 i hD
   obtain⟨k3,t1,t2,t3⟩:=k2 hi
   show SR br s'.H.length nt w' s'.T s'.gen (gP a') i (gP a' i) (s'.T i)
   rw[k1,k3];exact SR.mono st hn hg t1 t2 t3 hT (h.slot i hi)
 ·by_cases hD:D i
  ·rcases amJ i hD with ⟨_,h',_⟩|h'|⟨h',_⟩
   ·exact h.obj i (by rw[<- h'];exact hi)
   ·rw[h'] at hi;cases hi
   ·exact h'
  ·rw[(J1 i hD).1] at hi
   exact h.obj i hi
def oZ(gh:Gh)(n nt:Nat)(w:World)(T:aD)(gen:Nat)(tm:Nat->Value)(v:Value)(x:AV):Prop :=
 match x with
 | .lbox ..|.lsl ..|.iter ..=>False
 | .lref s g off=>s<nt/\g<gen/\(fz (T s)=some g->∀ b,tm s=.pointer (some ⟨b,0,none⟩)->v=.pointer (some ⟨b,off,none⟩))
 | .lsr s g=>s<nt/\g<gen/\(fz (T s)=some g->v=tm s)
 | .eref s g r z off=>s<nt/\g<gen/\(fz (T s)=some g->∀ b k cap,tm s=.slice (some ⟨b,0,none⟩) k cap->v=.pointer (some ⟨b,r*z+off,none⟩))
 | x=>VR gh n w v x
def oZ.fz{gh:Gh}{n nt:Nat}{w:World}{v:Value}{x:AV}(h:oZ gh n nt w T gen tm v x):fz x=none:=by
 cases x<;>first|rfl|exact h.elim
def oZ.sr{gh:Gh}{n nt:Nat}{w:World}{v:Value}{x:AV}(h:oZ gh n nt w T gen tm v x)(i:Nat):SR gh n nt w T gen tm i v x:=by
 cases x<;>first|exact h.elim|exact h|exact .inl h
def oZ.dG{gh:Gh}{n nt:Nat}{w:World}{v:Value}{x:AV}(h:VR gh n w v x):oZ gh n nt w T gen tm v x:=by
 cases h with
 | plain v x h=>have h0:=h;cases h<;>exact .plain _ _ h0
 | full a k e h hz=>exact .full a k e h hz
 | ref loc off h=>exact .ref loc off h
 | sref loc off k cap z h hk hz=>exact .sref loc off k cap z h hk hz
 | mref loc h=>exact .mref loc h
 | func f fs cs xs ys hf hc h1 h2=>exact .func f fs cs xs ys hf hc h1 h2
 | iface t v x h=>exact .iface t v x h
 | agg cs xs hs iC h=>exact .agg cs xs hs iC h
 | tuple vs xs hs h=>exact .tuple vs xs hs h
def nr(s:AS)(d:Option Nat)(x:AV):(s.ca d x).H=s.H/\(s.ca d x).gen=s.gen/\(s.ca d x).lo=s.lo:=by cases d<;>exact⟨rfl,rfl,rfl⟩
def KE(a:Act)(d:Option Nat)(v:Value):(a.put d v).tmps.size=a.tmps.size:=by cases d<;>simp[Act.put]
def Bc(a:Act)(d:Option Nat)(v:Value):(a.put d v).defers=a.defers:=by cases d<;>rfl
theorem FR.put{L:List Nat}{nt:Nat}{gh:Gh}{w:World}{a:Act}{s:AS}{H':ae}{lo':Nat}(h:FR L nt gh w a s)(st:Step touch s.H.length gh w br w')
  (ht:∀ i,¬ touch (.bx i)/\¬ touch (.sl i)/\∀ j,¬ touch (.sc i j)) (hH:s.H.length<=H'.length)
  (d:Option Nat) (hd:∀ k,d=some k->k<nt) {v:Value} {x:AV} (hv:oZ br H'.length nt w' s.T s.gen (gP a) v x) :
  FR L nt br w' (a.put d v) (({ s with H:=H',lo:=lo' } : AS).ca d x):=by
 cases d with
 | none =>
  exact h.update st h.defers h.size hH (Nat.le_refl _) (fun _=>False) (fun i _=>⟨rfl,fun _=>⟨rfl,ht i⟩⟩) (fun _ h=>h.elim) (fun _ h=>h.elim)
 | some d =>
  have aZ:=hd d rfl;have kj:d<a.tmps.size:=by rw[h.size];exact aZ
  refine h.update (s':=({ s with H:=H',lo:=lo' } : AS).ca (some d) x) st ((Bc a (some d) v).trans h.defers) ((KE a (some d) v).trans h.size) hH (Nat.le_refl _) (fun i=>i=d) ?_ ?_ ?_
  ·intro i hi
   refine⟨by simp[AS.ca,AS.cx,lr,hi],fun _=>⟨by rw[qV a d v i kj,if_neg hi],ht i⟩⟩
  ·rintro i rfl
   exact .inr (.inl (by simp[AS.ca,AS.cx,lr];exact hv.fz))
  ·rintro i rfl hi
   simp only[AS.ca,AS.cx,lr,awT];rw[qV a i v i kj,if_pos rfl];refine SR.mono (touch:=fun _=>False) (n:=H'.length) (gh:=br) (w:=w') (Step.refl _ _ _ _ (fun b hb=>st.fresh b (avz st.size hb))) (Nat.le_refl _) (Nat.le_refl _) id id (fun _=>id) ?_ (hv.sr i)
   intro k hk
   by_cases hki:k=i
   ·subst hki;exact .inr (.inl (by simp[aD.put];exact hv.fz))
   ·grind [lr,qV]
section
section
variable {gh:Gh}{n:Nat}{w:World}{v:Value}
def VR.mb{b:Bool}(h:VR gh n w v (.bool b)):v=.bool b:=by cases h with|plain _ _ h=>cases h;rfl
def VR.kE{k:IntKind}{m:Int}(h:VR gh n w v (.int k m)):v=.int k m:=by cases h with|plain _ _ h=>cases h;rfl
def VR.kG{l:List UInt8}(h:VR gh n w v (.str l)):∃ s:ByteArray,v=.string s/\s.data.toList=l:=by cases h with|plain _ _ h=>cases h;exact⟨_,rfl,‹_›⟩
def VR.yS(h:VR gh n w v .df):v=.nilIface:=by cases h with|plain _ _ h=>cases h;rfl
def VR.A4(h:VR gh n w v .kJ):v=.nilFunc:=by cases h with|plain _ _ h=>cases h;rfl
def VR.QC{t:TypeId}{x:AV}(h:VR gh n w v (.iface t x)):∃ u,v=.iface t u:=by
 cases h with
 | plain _ _ h=>cases h;exact⟨_,rfl⟩
 | iface _ _ _ _=>exact⟨_,rfl⟩
def VR.mK(h:VR gh n w v .ar):v=.slice none 0 0:=by cases h with|plain _ _ h=>cases h;rfl
def VR.jF{e:List (List AV)}(h:VR gh n w v (.slice e false)):PR gh.S w v (.slice e false):=by cases h with|plain _ _ h=>exact h
def VR.yR(h:VR gh n w v (.eptr cs)):PR gh.S w v (.eptr cs):=by cases h with|plain _ _ h=>exact h
def VR.kF(h:VR gh n w v (.ref loc off)):loc<n/\v=.pointer (some ⟨gh.ρ loc,off,none⟩):=by
 cases h with
 | plain _ _ h=>cases h
 | ref _ _ h=>exact⟨h,rfl⟩
def VR.k9{z:Nat}(h:VR gh n w v (.sref loc off k z)):loc<n/\∃ cap,k<=cap/\(z≠0->∃ ty,sy w (gh.ρ loc) ty (off+cap*z))/\v=.slice (some ⟨gh.ρ loc,off,none⟩) k cap:=by
 cases h with
 | plain _ _ h=>cases h
 | sref _ _ _ cap _ h hk hz=>exact⟨h,cap,hk,hz,rfl⟩
def VR.pQ(h:VR gh n w v (.mref loc)):loc<n/\v=.map (some (gh.ρ loc)):=by
 cases h with
 | plain _ _ h=>cases h
 | mref _ h=>exact⟨h,rfl⟩
def VR.uR{f:Fn}{ys:List AV}(h:VR gh n w v (.func f xs ys)):∃ fs cs,v=.func f fs cs/\fs.size=xs.length/\cs.size=ys.length /\
  (∀ (j:Nat) (v:Value) (x:AV),fs[j]?=some v->xs[j]?=some x->VR gh n w v x)/\(∀ (j:Nat) (v:Value) (x:AV),cs[j]?=some v->ys[j]?=some x->VR gh n w v x):=by
 cases h with
 | plain _ _ h=>cases h;exact⟨#[],#[],rfl,rfl,rfl,fun j v x h=>by simp at h,fun j v x h=>by simp at h⟩
 | func _ fs cs _ _ hf hc h1 h2=>exact⟨fs,cs,rfl,hf,hc,h1,h2⟩
def VR.mq(h:VR gh n w v (.agg xs)):∃ cs:Array Value,v=.agg cs/\cs.size=xs.length/\(∀ (j:Nat) (v:Value),cs[j]?=some v->v.oneCell'=true) /\
  (∀ (j:Nat) (v:Value) (x:AV),cs[j]?=some v->xs[j]?=some x->VR gh n w v x):=by
 cases h with
 | plain _ _ h=>cases h
 | agg cs _ hs iC h=>exact⟨cs,rfl,hs,iC,h⟩
def VR.vx(h:VR gh n w v (.tuple xs)):∃ vs:Array Value,v=.tuple vs/\vs.size=xs.length /\
  (∀ (j:Nat) (v:Value) (x:AV),vs[j]?=some v->xs[j]?=some x->VR gh n w v x):=by
 cases h with
 | plain _ _ h=>cases h
 | tuple vs _ hs h=>exact⟨vs,rfl,hs,h⟩
def VR.QD(h:VR gh n w v .undef):v=undef:=by
 obtain⟨vs,rfl,hs,_⟩:=h.vx;have:vs=#[]:=awU (cY hs)
 subst this;rfl
end
def VR.undef{gh:Gh}{n:Nat}{w:World} : VR gh n w undef .undef:=.tuple #[] [] rfl (fun j v x h=>by simp at h)
def yo{gh:Gh}{n:Nat}{w:World}{v:Value}{x:AV}(h:lO v=some x):VR gh n w v x:=by
 unfold lO at h
 split at h<;>first|(injection h with h;subst h)|cases h
 ·exact .plain _ _ (.bool _)
 ·exact .plain _ _ (.int _ _)
 ·exact .plain _ _ (.str _ _ rfl)
 ·exact .full none 0 [] .dF trivial
 ·exact .plain _ _ .nf
 ·exact .plain _ _ .kA
 ·exact .plain _ _ .kJ
 ·exact .plain _ _ .df
def l7{gh:Gh}{n:Nat}{w:World} : ∀ {vs:List Value} {xs:List AV},fy vs=some xs->vs.length=xs.length /\
  ∀ (j:Nat) (v:Value) (x:AV),vs[j]?=some v->xs[j]?=some x->VR gh n w v x/\v.oneCell'=true
 | [],xs,h=>by simp[fy] at h;subst h;exact⟨rfl,fun j v x h=>by simp at h⟩
 | v :: r,xs,h=>by
  simp only[fy,au3,au2] at h;obtain⟨x,hx,ys,hy,rfl⟩:=h;obtain⟨h1,h2⟩:=l7 (gh:=gh) (n:=n) (w:=w) hy;refine⟨by simp[h1],fun j u y hu hy=>?_⟩
  cases j with
  | zero =>
   simp at hu hy;subst hu hy;refine⟨yo hx,?_⟩;unfold lO at hx
   split at hx<;>first|rfl|cases hx
  | succ j=>exact h2 j u y (cY hu) (cY hy)
theorem LQ{gh:Gh}{n:Nat}{w:World}{v:Value}{x:AV}(h:lO v=some x):VR gh n w v (oM x):=by
 have h0:=yo (gh:=gh) (n:=n) (w:=w) h;unfold lO at h
 split at h<;>first|(injection h with h;subst h)|cases h
 all_goals first|exact h0|exact .plain _ _ .ar
theorem wv:∀ {vs:List Value} {xs:List AV},fy vs=some xs->∀ (j:Nat) (v:Value) (x:AV),vs[j]?=some v->xs[j]?=some x->lO v=some x
 | [],_,_,j,v,x,hv,_=>by simp at hv
 | u :: r,xs,h,j,v,x,hv,hx=>by
  simp only[fy,au3,au2] at h;obtain⟨y,hy,ys,Qw,rfl⟩:=h;cases j with
  | zero=>simp at hv hx;subst hv hx;exact hy
  | succ j=>exact wv Qw j v x (cY hv) (cY hx)
theorem kU{gh:Gh}{n:Nat}{w:World}{v:Value}{x:AV}(h:uF v=some x):VR gh n w v x:=by
 unfold uF at h;split at h
 ·rename_i vs
  simp only[au2] at h;obtain⟨l,hl,rfl⟩:=h;obtain⟨h1,h2⟩:=l7 (gh:=gh) (n:=n) (w:=w) hl;refine .agg vs _ (cY h1) (fun j v hv=>?_) (fun j v x hv hx=>?_)
  ·have hj:vs.toList[j]?=some v:=cY hv
   obtain⟨y,hy⟩:∃ y,l[j]?=some y:=by
    have:j<vs.toList.length:=(au7.1 hj).1
    simp_all
   exact (h2 j v y hj hy).2
  ·grind [LQ,wv]
 ·exact yo h
section
variable {G:Nat->List AV}{base nt:Nat}{L:List Nat}{gh:Gh}{w:World}{a:Act}{s:AS}{x:Operand}{y:aE}
theorem XY(hW:a8 G base s.H gh w)(g:Nat):VR gh s.H.length w (.pointer (some ⟨g,0,none⟩)) (.eptr (G g)):=by
 refine .plain _ _ ?_
 let f:Nat->Value:=fun j=>(w.cell? ⟨g,j,none⟩).getD undef
 refine .eptr g 0 (G g) f ?_ ?_
 ·intro j x h
  obtain⟨v,hv,hp,hs⟩:=hW.aY g j x h;refine⟨cY hs,by simp[f,hv],?_⟩
  simp only[f,hv,av0];exact hp.gb
 ·intro j x h
  obtain⟨v,hv,hp,hs⟩:=hW.aY g j x h
  grind
def arg_val(hW:a8 G base s.H gh w)(hF:FR L nt gh w a s)(hc:av nt x=some y) :
  oZ gh s.H.length nt w s.T s.gen (gP a) (a.eval x) (y.addr G s.T).drop:=by
 cases x with
 | tmp t =>
  simp only[av] at hc;rcases awg (Nat.blt t nt) with hb|hb<;>rw[hb] at hc<;>simp at hc
  subst hc;have aZ:t<nt:=by simpa [avn] using hb
  have h:=hF.slot t aZ
  show oZ gh s.H.length nt w s.T s.gen (gP a) (gP a t) _
  change SR gh s.H.length nt w s.T s.gen (gP a) t (gP a t) (s.T t) at h
  simp only[aE.addr];generalize hX:s.T t=X at h;cases X
  case lbox g cs =>
   obtain⟨hg,b,hv,_⟩:=h;refine⟨aZ,hg,fun _ b' iR=>iR⟩
  case lsl g e=>exact⟨aZ,h.1,fun _=>rfl⟩
  case lref=>exact h
  case lsr=>exact h
  case eref=>exact h
  case iter g kz ka va cur todo =>
   obtain⟨_,b,hv,_⟩:=h;rw[hv];exact .dG (.plain _ _ (.any _ rfl))
  all_goals exact .dG (CR.dropped h)
 | const v =>
  simp only[av,au2] at hc;obtain⟨z,hz,rfl⟩:=hc;exact .dG (VR.dropped (kU hz))
 | global g =>
  simp only[av,au4] at hc;subst hc;exact .dG (VR.dropped (XY hW g))
 | func f =>
  simp only[av,au4] at hc;subst hc;exact .dG (.plain _ _ (.func _))
def Pk(h:fz (y.eval G T)=none):y.addr G T=y.eval G T:=by
 cases y with
 | tmp t =>
  simp only[aE.addr,aE.eval] at h ⊢;cases hX:T t<;>rw[hX] at h<;>first|rfl|(simp[fz] at h)
 | xQ v=>rfl
 | aY g=>rfl
 | fn f=>rfl
def oZ.vr{n:Nat}{v:Value}(h:oZ gh n nt w T gen tm v z)(hz:aN z=true):VR gh n w v z:=by
 cases z<;>first|exact h|(simp[aN] at hz)
def kX : aN z.drop=aN z:=by cases z<;>rfl
def cU(hW:a8 G base s.H gh w)(hF:FR L nt gh w a s)(hc:av nt x=some y)(hz:y.eval G s.T=z)(hf:aN z=true) :
  VR gh s.H.length w (a.eval x) z.drop:=by
 have hg:fz (y.eval G s.T)=none:=by rw[hz];cases z<;>first|rfl|(simp[aN] at hf)
 have h:=arg_val hW hF hc;rw[Pk hg,hz] at h;exact h.vr (by rw[kX];exact hf)
theorem qB(hW:a8 G base s.H gh w)(hF:FR L nt gh w a s)(hc:av nt x=some y)(hz:y.addr G s.T=z)(hf:aN z=true) :
  VR gh s.H.length w (a.eval x) z.drop:=by
 have h:=arg_val hW hF hc;rw[hz] at h;exact h.vr (by rw[kX];exact hf)
def Hj(hF:FR L nt gh w a s){t:Nat}(aZ:t<nt){e:List (List AV)}(hz:s.T t=.slice e own):CR gh s.H.length w (.sl t) (a.eval (.tmp t)) (.slice e own):=by
 have h:=hF.slot t aZ;rw[hz] at h;exact h
end
end
section
section
variable {P:Program}{G:Nat->List AV}{base nt:Nat}{L:List Nat}{gh:Gh}{w:World}{a:Act}{s:AS}
def al{α:Type}{b:Bool}{x:Option α}{y:α}(h:cond b x none=some y):b=true/\x=some y:=by cases b<;>simp_all
theorem acX(hW:a8 G base s.H gh w)(hF:FR L nt gh w a s){x:Operand}{y:aE}{take obj:Bool}(hc:av nt x=some y)
  (he:rN G s take obj y=some (z,none)):oZ gh s.H.length nt w s.T s.gen (gP a) (a.eval x) z:=by
 have h:=arg_val hW hF hc;cases y with
 | tmp t =>
  simp only[rN] at he;simp only[aE.addr] at h;generalize hX:s.T t=X at h he;cases X<;>simp only[au4,au8,av'] at he<;>(try subst he)<;>(try exact h)
  case slice e own =>
   cases take<;>cases own<;>simp at he<;>subst he<;>exact h
  case lsl g e =>
   cases take
   ·simp at he;subst he;exact h
   ·grind
  case iter=>cases he
 | xQ v =>
  simp only[rN,aE.eval,au4,au8,av'] at he;subst he;cases x<;>simp only[av,au2,au4,reduceCtorEq] at hc
  case tmp t=>exact absurd (al hc).2 ag
  case const v' =>
   obtain⟨z,hz,hy⟩:=hc;injection hy with hy
   subst hy;exact .dG (kU hz)
 | aY g =>
  simp only[rN,aE.eval,au4,au8,av'] at he;subst he;exact h
 | fn f =>
  simp only[rN,aE.eval,au4,au8,av'] at he;subst he;exact h
theorem mF(hW:a8 G base s.H gh w)(hF:FR L nt gh w a s){x:Operand}{y:aE}(hc:av nt x=some y)(h:asNat (y.eval G s.T)=some k) :
  ∃ kd,a.eval x=.int kd (k:Int):=by
 unfold asNat at h;split at h
 ·rename_i kd m hy
  obtain⟨h0,h1⟩:=al h;have hm:(0:Int)<=m:=cY h0;have WV:m.toNat=k:=cY h1;have hv:=(cU hW hF hc hy rfl).kE
  grind
 ·cases h
theorem oU{t:TypeId}(h:fC P t=some k):∃ i,P.info? t=some i/\i.size=k:=by
 simpa [fC,au2] using h
def fB{t:TypeId}(h:fC P t=some k)(w:World):(sizeOf t).run P w=.ok k w:=by
 obtain⟨i,hi,hk⟩:=oU h;simp[sizeOf,typeInfo,hi,hk]
def ju{t:TypeId}{g:Bool}(h:n7 P t=some g)(w:World):(isAgg t).run P w=.ok g w:=by
 unfold n7 at h;simp only[au2] at h;obtain⟨d,hd,hg⟩:=h;unfold isAgg;rw[Sem.run_bind,run_underlying hd w];subst hg;cases d<;>rfl
theorem addr_add(b o k:Nat):(⟨b,o,none⟩:Addr).add k=⟨b,o+k,none⟩:=by unfold Addr.add;split<;>simp_all
theorem mB{n:Nat}(hl:ab false agg sz off cs=some z){t:TypeId}(hg:n7 P t=some agg)(hs:fC P t=some sz)
  {b o:Nat} {f:Nat->Value} (hf:∀ (j:Nat) (x:AV),cs[j]?=some x->w.cell? ⟨b,o+j,none⟩=some (f j)/\(f j).oneCell'=true/\VR gh n w (f j) x.drop) :
  ∃ v,(loadVar t ⟨b,o+off,none⟩).run P w=.ok v w/\VR gh n w v z:=by
 unfold ab at hl;cases agg
 ·simp only[cond_false,au2] at hl
  obtain⟨x,hx,rfl⟩:=hl;obtain⟨h1,h2,h3⟩:=hf off x hx;refine⟨f off,?_,h3⟩;simp[loadVar,ju hg,h1]
 ·simp only[cond_true] at hl
  obtain⟨h0,h1⟩:=al hl;have h0' : off+sz<=cs.length:=by simpa [avv] using h0
  injection h1 with h1
  subst h1;have xi:(loadCells ⟨b,o+off,none⟩ sz).run P w=.ok ((List.range sz).map fun j=>f (off+j)).toArray w :=
   run_loadCells w _ sz (fun j=>f (off+j)) fun j hj=>by
    grind [addr_add]
  refine⟨.agg ((List.range sz).map fun j=>f (off+j)).toArray,by simp[loadVar,ju hg,fB hs,xi],?_⟩
  have hlen:(((cs.drop off).take sz).map AV.drop).length=sz:=dq;refine .agg _ _ (by simp[];omega) ?_ ?_
  ·grind
  ·grind
def zp(hF:FR L nt gh w a s)(hb:b<nt)(hT:s.T b=.lbox g cs) :
  ∃ k,gP a b=.pointer (some ⟨k,0,none⟩)/\iT gh s.H.length w k (.bx b) (fun j=>.sc b j) cs:=by
 have h:=hF.slot b hb;rw[hT] at h;exact h.2
theorem qe(hF:FR L nt gh w a s){e:List (List AV)}(hb:b<nt)(hT:s.T b=.lsl g e):uk gh w (.bx b) (gP a b) e:=by
 have h:=hF.slot b hb;rw[hT] at h;exact h.2
def rJ{n:Nat}(h:iT gh n w b p q cs) :
  ∃ f:Nat->Value,∀ (j:Nat) (x:AV),cs[j]?=some x->w.cell? ⟨b,0+j,none⟩=some (f j)/\(f j).oneCell'=true/\VR gh n w (f j) x.drop:=by
 obtain⟨_,_,C,ty,hb,hC,iL⟩:=h;refine⟨fun j=>C.getD j undef,fun j x hx=>?_⟩
 have hj:j<cs.length:=(au7.1 hx).1;have Bq:j<C.size:=ah;have hv:C[j]?=some C[j]:=avh Bq;obtain⟨h1,h2⟩:=iL j _ x hv hx;refine⟨by rw[avA,cell_of_row w b j C ty _ hb];simp[Bq],by simpa [Bq] using h1,by simpa [Bq] using h2.dropped⟩
def XG(hW:a8 G base s.H gh w)(hF:FR L nt gh w a s){t:TypeId}{x:Operand}{y:aE}{take:Bool}(hc:av nt x=some y)(hg:n7 P t=some agg)(hs:fC P t=some sz)
  (he:cS s take agg sz (y.addr G s.T)=some (z,none)) :
  ∃ v,(Instr.loadAt t (a.eval x)).run P w=.ok v w/\oZ gh s.H.length nt w s.T s.gen (gP a) v z:=by
 have hv:=arg_val hW hF hc;have OK:∀ {n:Nat} {off:Nat} {cs:List AV} {v:AV},ab take agg sz off cs=some v->(take&&!agg)=false->ab false agg sz off cs=some v:=by
  intro n off cs v h1 h2;cases take
  ·exact h1
  ·cases agg
   ·cases h2
   ·exact h1
 generalize hY:y.addr G s.T=Y at hv he;cases Y<;>simp only[cS] at he<;>try (cases he;done)
 case eptr cs =>
  simp only[au2,au8,av'] at he;obtain⟨u,hu,rfl⟩:=he;have hp:=VR.yR (hv:VR gh s.H.length w (a.eval x) (.eptr cs));generalize hA:a.eval x=V at hp;cases hp with
  | eptr b o _ f di dr =>
   obtain⟨v,h1,h2⟩:=mB (gh:=gh) (n:=s.H.length) hu hg hs (b:=b) (o:=o) (f:=f)
    (fun j x hx=>⟨(di j x hx).2.1,(di j x hx).2.2,VR.dropped (.plain _ _ (dr j x hx))⟩)
   refine⟨v,?_,.dG h2⟩
   simpa [Instr.loadAt,Instr.sureAddr] using h1
 case ref loc off =>
  obtain⟨aZ,tU⟩:=VR.kF (hv:VR gh s.H.length w (a.eval x) (.ref loc off));split at he
  ·rename_i W9 cs hH
   simp only[au2,au8] at he;obtain⟨u,hu,rfl,hn⟩:=he;have hq:(take&&!agg)=false:=by cases h:(take&&!agg)<;>simp_all
   obtain⟨f,hf⟩:=rJ (hW.boxes loc _ cs hH);obtain⟨v,h1,h2⟩:=mB (gh:=gh) (n:=s.H.length) (OK (n:=0) hu hq) hg hs (b:=gh.ρ loc) (o:=0) (f:=f) hf;refine⟨v,?_,.dG h2⟩;rw[tU]
   simpa [Instr.loadAt,Instr.sureAddr] using h1
  ·rename_i cs hH
   simp only[au2,au8,av'] at he;obtain⟨u,hu,rfl⟩:=he;have hp:PR gh.S w (.pointer (some ⟨gh.ρ loc,0,none⟩)) (.eptr cs):=hW.more loc _ hH;generalize hB:gh.ρ loc=b0 at hp tU;cases hp with
   | eptr b o _ f di dr =>
    obtain⟨v,h1,h2⟩:=mB (gh:=gh) (n:=s.H.length) hu hg hs (b:=b0) (o:=0) (f:=f)
     (fun j x hx=>⟨(di j x hx).2.1,(di j x hx).2.2,VR.dropped (.plain _ _ (dr j x hx))⟩)
    refine⟨v,?_,.dG h2⟩;rw[tU]
    simpa [Instr.loadAt,Instr.sureAddr] using h1
  ·rename_i cs hH
   simp only[au2,au8,av'] at he;obtain⟨u,hu,rfl⟩:=he;obtain⟨f,hf⟩:=rJ (hW.more loc _ hH:iT gh s.H.length w (gh.ρ loc) (.hb loc) (fun j=>.hs loc j) cs)
   obtain⟨v,h1,h2⟩:=mB (gh:=gh) (n:=s.H.length) hu hg hs (b:=gh.ρ loc) (o:=0) (f:=f) hf;refine⟨v,?_,.dG h2⟩;rw[tU]
   simpa [Instr.loadAt,Instr.sureAddr] using h1
  ·cases he
 case lref b g off =>
  obtain⟨hb,RB,hr⟩:=(hv:_/\_/\_);split at he
  ·rename_i g' cs hT
   obtain⟨h0,iZ⟩:=al he;clear he;have JZ:g=g':=by simpa [iI] using h0
   subst JZ
   rename _=some (z,none)=>he
   simp only[au2,au8] at he;obtain⟨u,hu,rfl,hn⟩:=he;have hq:(take&&!agg)=false:=by cases h:(take&&!agg)<;>simp_all
   obtain⟨k,hk,Qh⟩:=zp hF hb hT;have tU:=hr (by rw[hT];rfl) k hk
   obtain⟨f,hf⟩:=rJ Qh;obtain⟨v,h1,h2⟩:=mB (gh:=gh) (n:=s.H.length) (OK (n:=0) hu hq) hg hs (b:=k) (o:=0) (f:=f) hf;refine⟨v,?_,.dG h2⟩;rw[tU]
   simpa [Instr.loadAt,Instr.sureAddr] using h1
  ·cases he
 case eref b g i zz off =>
  obtain⟨hb,RB,hr⟩:=(hv:_/\_/\_);split at he
  ·rename_i g' e hT
   obtain⟨h0,iZ⟩:=al he;clear he;have JZ:g=g':=by simpa [iI] using h0
   subst JZ
   rename _=some (z,none)=>he
   simp only[au3] at he;obtain⟨r,Oo,he⟩:=he;obtain⟨h1,he⟩:=al he;have hz:r.length=zz:=by simpa [iI] using h1
   simp only[au2,au8,av'] at he;obtain⟨u,hu,rfl⟩:=he;obtain⟨ad,cap,oT,bX⟩:=qe hF hb hT
   rcases bX with ⟨rfl,_⟩|⟨k,C,ty,lI,_,rfl,hκ,hS,IP,hC,hl,Bv,iL⟩
   ·simp at Oo
   ·have tU:=hr (by rw[hT];rfl) k _ _ oT
    have kj:lI=zz:=by rw[<- hz,Bv i r Oo]
    subst kj;obtain⟨v,h1,h2⟩:=mB (P:=P) (gh:=gh) (w:=w) (n:=s.H.length) hu hg hs (b:=k) (o:=i*lI) (f:=fun j=>C.getD (i*lI+j) undef) (fun j x hx=>by
     obtain⟨u,Ms,Yl⟩:=iL i j r x Oo hx;have hj:i*lI+j<C.size:=(avc.1 Ms).1;have iZ:C.getD (i*lI+j) undef=u:=by
      rw[avh hj] at Ms;injection Ms with Ms
      simp[hj,Ms]
     rw[iZ,cell_of_row w k _ C ty _ IP,Ms];exact⟨rfl,Yl.gb,VR.dropped (.plain _ _ Yl)⟩)
    refine⟨v,?_,.dG h2⟩;rw[tU]
    simpa [Instr.loadAt,Instr.sureAddr] using h1
  ·cases he
end
end
section
section
variable {P:Program}{G:Nat->List AV}{base nt:Nat}{L:List Nat}{gh:Gh}{w:World}{a:Act}{s:AS}
def Df(hF:FR L nt gh w a s){v:Value}(hv:oZ gh s.H.length nt w s.T s.gen (gP a) v z)(hl:aP s z=true) :
  ∃ b o,v=.pointer (some ⟨b,o,none⟩):=by
 cases z<;>simp only[aP,awj] at hl
 case eptr cs =>
  have hp:=VR.yR (hv:VR gh s.H.length w v (.eptr cs));cases hp;exact⟨_,_,rfl⟩
 case ref loc off=>exact⟨_,_,(VR.kF (hv:VR gh s.H.length w v (.ref loc off))).2⟩
 case lref b g off =>
  obtain⟨hb,hg,hr⟩:=(hv:_/\_/\_);split at hl
  ·rename_i g' cs hT
   have JZ:g=g':=by simpa [iI] using hl
   obtain⟨k,hk,_⟩:=zp hF hb hT;exact⟨_,_,hr (by rw[hT,JZ];rfl) k hk⟩
  ·cases hl
 case eref b g i zz off =>
  obtain⟨hb,hg,hr⟩:=(hv:_/\_/\_);split at hl
  ·rename_i g' e hT
   obtain⟨h1,h2⟩:=by simpa [iI,avn] using hl
   obtain⟨ad,cap,oT,bX⟩:=qe hF hb hT
   rcases bX with ⟨rfl,_⟩|⟨k,_,_,_,_,rfl,_⟩
   ·simp at h2
   ·exact⟨_,_,hr (by rw[hT,h1];rfl) k _ _ oT⟩
  ·cases hl
def Jz(hW:a8 G base s.H gh w)(hF:FR L nt gh w a s){x:Operand}{y:aE}(ho:o.op=.nilCheck x)(hc:av nt x=some y)(hl:aP s (y.addr G s.T)=true) :
  ∃ v,(execOp a.eval o).run P w=.ok (.value v) w/\oZ gh s.H.length nt w s.T s.gen (gP a) v (y.addr G s.T):=by
 have hv:=arg_val hW hF hc;have hd:(y.addr G s.T).drop=y.addr G s.T:=by cases hz:y.addr G s.T<;>rw[hz] at hl<;>first|rfl|(simp[aP] at hl)
 rw[hd] at hv;obtain⟨b,of,hp⟩:=Df hF hv hl;refine⟨a.eval x,?_,hv⟩;simp[execOp,ho,hp]
theorem OL(hF:FR L nt gh w a s){v:Value}{z':AV}(hv:oZ gh s.H.length nt w s.T s.gen (gP a) v z)(hl:aP s z=true)(ho:bN off z=some z') :
  ∃ b o,v=.pointer (some ⟨b,o,none⟩)/\oZ gh s.H.length nt w s.T s.gen (gP a) (.pointer (some ⟨b,o+off,none⟩)) z':=by
 cases z<;>simp only[bN,au4,reduceCtorEq] at ho<;>subst ho
 case eptr cs =>
  have hp:=VR.yR (hv:VR gh s.H.length w v (.eptr cs));cases hp with
  | eptr b o _ f di dr =>
   refine⟨b,o,rfl,.dG (.plain _ _ (.eptr b (o+off) _ (fun j=>f (off+j)) ?_ ?_))⟩
   ·grind
   ·grind
 case ref loc of =>
  obtain⟨aZ,rfl⟩:=VR.kF (hv:VR gh s.H.length w v (.ref loc of));exact⟨_,_,rfl,.dG (.ref loc (of+off) aZ)⟩
 case lref b g of =>
  obtain⟨k,o,rfl⟩:=Df hF hv hl;obtain⟨hb,hg,hr⟩:=(hv:_/\_/\_);refine⟨k,o,rfl,hb,hg,fun h1 b' h2=>?_⟩
  grind
 case eref b g i zz of =>
  obtain⟨k,o,rfl⟩:=Df hF hv hl;obtain⟨hb,hg,hr⟩:=(hv:_/\_/\_);refine⟨k,o,rfl,hb,hg,fun h1 b' c1 c2 h2=>?_⟩
  grind
def Gx(hl:aP s z=true):z.drop=z:=by cases z<;>first|rfl|(simp[aP] at hl)
def Hv(hW:a8 G base s.H gh w)(hF:FR L nt gh w a s){t:TypeId}{x:Operand}{f:Nat}{y:aE}{fs:Array Go.Field}{q:Go.Field}
  (ho:o.op=.fieldAddr t x f) (hc:av nt x=some y) (hu:P.underlying t=some (.struct fs)) (hq:fs[f]?=some q) (hs:fC P q.type=some sz) (h0:0<sz)
  (hl:aP s (y.addr G s.T)=true) (he:bN q.offset (y.addr G s.T)=some z) :
  ∃ v,(execOp a.eval o).run P w=.ok (.value v) w/\oZ gh s.H.length nt w s.T s.gen (gP a) v z:=by
 have hv:=arg_val hW hF hc;rw[Gx hl] at hv;obtain⟨b,of,hp,oT⟩:=OL hF hv hl he;refine⟨_,?_,oT⟩;have dk:¬ sz=0:=by omega
 simp[execOp,ho,hp,Instr.fieldAt,run_underlying hu,hq,Instr.sureAddr,fieldPlace,fB hs,dk,addr_add]
def SZ(hW:a8 G base s.H gh w)(hF:FR L nt gh w a s){t:TypeId}{x:Operand}{n:Nat}{y:aE}
  (ho:o.op=.indexAddr t x i) (hc:av nt x=some y) (hi:av nt i=some yi) (hu:P.underlying t=some (.array n e)) (hs:fC P e=some sz)
  (hk:asNat (yi.eval G s.T)=some k) (Qk:k<n) (hl:aP s (y.addr G s.T)=true) (he:bN (k*sz) (y.addr G s.T)=some z) :
  ∃ v,(execOp a.eval o).run P w=.ok (.value v) w/\oZ gh s.H.length nt w s.T s.gen (gP a) v z:=by
 have hv:=arg_val hW hF hc;rw[Gx hl] at hv;obtain⟨b,of,hp,oT⟩:=OL hF hv hl he;obtain⟨kd,Gj⟩:=mF hW hF hi hk;refine⟨_,?_,oT⟩;have h1:k<n:=Qk;simp[execOp,ho,hp,Gj,Instr.indexAt,asIntOf,run_underlying hu,Instr.sureAddr,fB hs,h1,addr_add]
def XE(hW:a8 G base s.H gh w)(hF:FR L nt gh w a s){t:TypeId}{x:Operand}{y:aE}{r:List AV}
  (ho:o.op=.indexAddr t x i) (hc:av nt x=some y) (hi:av nt i=some yi) (hu:P.underlying t=some (.slice e)) (hs:fC P e=some sz)
  (hk:asNat (yi.eval G s.T)=some k) (hy:y.addr G s.T=.slice el own) (hr:el[k]?=some r) (Bv:r.length=sz) :
  ∃ v,(execOp a.eval o).run P w=.ok (.value v) w/\oZ gh s.H.length nt w s.T s.gen (gP a) v (.eptr r):=by
 have hv:=VR.jF (qB hW hF hc hy rfl);obtain⟨kd,Gj⟩:=mF hW hF hi hk;generalize hA:a.eval x=V at hv;cases hv with
 | dF=>simp at hr
 | slice b of n cap lI _ f hn kY bX di dr =>
  have Fu:k<el.length:=(au7.1 hr).1;have kj:lI=sz:=by rw[<- Bv,bX k r hr]
  subst kj;refine⟨.pointer (some ⟨b,of+k*lI,none⟩),?_,.dG (.plain _ _ (.eptr b (of+k*lI) r (f k) (fun j x hx=>di k j r x hr hx) (fun j x hx=>dr k j r x hr hx)))⟩
  have h1:k<n:=by omega
  simp[execOp,ho,hA,Gj,Instr.indexAt,asIntOf,run_underlying hu,fB hs,h1,addr_add]
def PV(hW:a8 G base s.H gh w)(hF:FR L nt gh w a s){t:TypeId}{x:Operand}{l of m zz:Nat}{y:aE}
  (ho:o.op=.indexAddr t x i) (hc:av nt x=some y) (hi:av nt i=some yi) (hu:P.underlying t=some (.slice e)) (hs:fC P e=some sz)
  (hk:asNat (yi.eval G s.T)=some k) (hy:y.addr G s.T=.sref l of m zz) (hkm:k<m) :
  ∃ v,(execOp a.eval o).run P w=.ok (.value v) w/\oZ gh s.H.length nt w s.T s.gen (gP a) v (.ref l (of+k*sz)):=by
 obtain⟨aZ,cap,_,_,hA⟩:=VR.k9 (qB hW hF hc hy rfl);obtain⟨kd,Gj⟩:=mF hW hF hi hk;refine⟨.pointer (some ⟨gh.ρ l,of+k*sz,none⟩),?_,.dG (.ref l (of+k*sz) aZ)⟩;simp[execOp,ho,hA,Gj,Instr.indexAt,asIntOf,run_underlying hu,fB hs,hkm,addr_add]
theorem S0(hW:a8 G base s.H gh w)(hF:FR L nt gh w a s){t:TypeId}{x:Operand}{y:aE}{r:List AV}
  (ho:o.op=.indexAddr t x i) (hc:av nt x=some y) (hi:av nt i=some yi) (hu:P.underlying t=some (.slice e)) (hs:fC P e=some sz)
  (hk:asNat (yi.eval G s.T)=some k) (hy:y.addr G s.T=.lsr b g) (hT:s.T b=.lsl g el) (hr:el[k]?=some r) (Bv:r.length=sz) :
  ∃ v,(execOp a.eval o).run P w=.ok (.value v) w/\oZ gh s.H.length nt w s.T s.gen (gP a) v (.eref b g k sz 0):=by
 have hv:=arg_val hW hF hc;rw[hy] at hv;obtain⟨hb,hg,hrr⟩:=(hv:_/\_/\_);obtain⟨kd,Gj⟩:=mF hW hF hi hk;have tU:=hrr (by rw[hT];rfl)
 have Fu:k<el.length:=(au7.1 hr).1;obtain⟨ad,cap,oT,bX⟩:=qe hF hb hT
 rcases bX with ⟨rfl,_⟩|⟨c,C,ty,lI,_,rfl,hκ,hS,IP,hC,hl,hrw,iL⟩
 ·simp at hr
 ·have h1:k<el.length:=Fu
  refine⟨.pointer (some ⟨c,k*sz,none⟩),?_,hb,hg,fun _ b' c1 c2 h2=>?_⟩
  ·simp[execOp,ho,tU,oT,Gj,Instr.indexAt,asIntOf,run_underlying hu,fB hs,h1,addr_add]
  ·grind
def XK(hW:a8 G base s.H gh w)(hF:FR L nt gh w a s){c x y:Operand}{ic iy:aE}{t:Bool}
  (ho:o.op=.pick c x y) (hc:av nt c=some ic) (hx:av nt x=some ix) (hy:av nt y=some iy) (ht:ic.eval G s.T=.bool t) :
  ∃ v,(execOp a.eval o).run P w=.ok (.value v) w/\oZ gh s.H.length nt w s.T s.gen (gP a) v (cond t (ix.addr G s.T).drop (iy.addr G s.T).drop):=by
 have hb:=(cU hW hF hc ht rfl).mb;have h1:=arg_val hW hF hx;have h2:=arg_val hW hF hy;cases t
 ·exact⟨_,by simp[execOp,ho,hb,asBool],h2⟩
 ·exact⟨_,by simp[execOp,ho,hb,asBool],h1⟩
def ahr(hW:a8 G base s.H gh w)(hF:FR L nt gh w a s){op:UnOp}{t:TypeId}{x:Operand}
  (ho:o.op=.unOp op t x) (hc:av nt x=some ix) (he:gF op (ix.eval G s.T)=some z) :
  ∃ v,(execOp a.eval o).run P w=.ok (.value v) w/\oZ gh s.H.length nt w s.T s.gen (gP a) v z:=by
 generalize hz:ix.eval G s.T=X at he;unfold gF at he
 split at he<;>first|(injection he with he;subst he)|cases he
 ·have hv:=(cU hW hF hc hz rfl).kE
  exact⟨_,by simp[execOp,ho,hv,Op.unary,Op.intArith],.dG (.plain _ _ (.int _ _))⟩
 ·have hv:=(cU hW hF hc hz rfl).mb
  exact⟨_,by simp[execOp,ho,hv,Op.unary],.dG (.plain _ _ (.bool _))⟩
def S4(hW:a8 G base s.H gh w)(hF:FR L nt gh w a s){x:Operand}{k k':IntKind}
  (ho:o.op=.convert st dt x) (hc:av nt x=some ix) (hs:P.underlying st=some (.int k')) (hd:P.underlying dt=some (.int k)) (he:cn (.toInt k) (ix.eval G s.T)=some z) :
  ∃ v,(execOp a.eval o).run P w=.ok (.value v) w/\oZ gh s.H.length nt w s.T s.gen (gP a) v z:=by
 generalize hz:ix.eval G s.T=X at he;cases X<;>simp[cn] at he
 subst he;have hv:=(cU hW hF hc hz rfl).kE;exact⟨_,by simp[execOp,ho,hv,convert,run_underlying hs,run_underlying hd,Conv.intToInt],.dG (.plain _ _ (.int _ _))⟩
def L8(hW:a8 G base s.H gh w)(hF:FR L nt gh w a s){x:Operand}
  (ho:o.op=.convert st dt x) (hc:av nt x=some ix) (hs:P.underlying st=some .string) (hd:P.underlying dt=some .string) (he:cn .Iy (ix.eval G s.T)=some z) :
  ∃ v,(execOp a.eval o).run P w=.ok (.value v) w/\oZ gh s.H.length nt w s.T s.gen (gP a) v z:=by
 generalize hz:ix.eval G s.T=X at he;cases X<;>simp[cn] at he
 subst he;obtain⟨b,hv,hl⟩:=(cU hW hF hc hz rfl).kG;exact⟨_,by simp[execOp,ho,hv,convert,run_underlying hs,run_underlying hd],.dG (.plain _ _ (.str _ _ hl))⟩
def foldl_push(ns:List Int):∀ s:ByteArray,(ns.foldl (fun r n=>r.push (UInt8.ofNat n.toNat)) s).data.toList=s.data.toList++ns.map fun n=>UInt8.ofNat n.toNat:=by
 induction ns with
 | nil=>intro s;simp
 | cons n ns ih=>intro s;rw[axC,ih];simp[ByteArray.push]
def AH:∀ {e:List (List AV)} {l:List UInt8},bytesOf e=some l->∃ ns:List Int,e=ns.map (fun n=>[AV.int .u8 n])/\l=ns.map fun n=>UInt8.ofNat n.toNat
 | [],l,h=>by simp[bytesOf] at h;exact⟨[],rfl,by simp[h]⟩
 | r :: e,l,h=>by
  unfold bytesOf at h;split at h
  ·rename_i hh;cases hh
  ·rename_i n r' heq
   injection heq with h1 h2
   subst h1 h2;simp only[au2] at h;obtain⟨l',Fv,rfl⟩:=h;obtain⟨ns,rfl,rfl⟩:=AH Fv;exact⟨n :: ns,rfl,rfl⟩
  ·cases h
theorem Rg{n0:Nat}{V:Value}{ns:List Int}(hv:PR gh.S w V (.slice (ns.map fun n=>[AV.int .u8 n]) false)) :
  ∃ q:ByteArray,(Conv.bytesToString V).run P w=.ok (.string q) w/\q.data.toList=ns.map (fun n=>UInt8.ofNat n.toNat)/\∃ b c d,V=.slice b c d:=by
 generalize hE:(ns.map fun n=>[AV.int .u8 n])=E at hv
 cases hv with
 | dF =>
  have:ns=[]:=by simpa using hE
  subst this;exact⟨ByteArray.empty,by simp[Conv.bytesToString],rfl,_,_,_,rfl⟩
 | slice b of n cap lI _ f hn kY bX di dr =>
  subst hE;have hlen:n=ns.length:=by rw[<- hn];simp
  have TN:(loadCells ⟨b,of,none⟩ n).run P w=.ok (ns.map (Value.int .u8)).toArray w:=by
   have:=run_loadCells_list (P:=P) w ⟨b,of,none⟩ (ns.map (Value.int .u8)) (fun j v hj=>by
    simp only[List.getElem?_map,au2] at hj;obtain⟨m,hm,rfl⟩:=hj;have hr:(ns.map fun n=>[AV.int .u8 n])[j]?=some [AV.int .u8 m]:=by simp[hm]
    have qK:lI=1:=by rw[<- bX j _ hr];rfl
    subst qK;obtain⟨_,h1,_⟩:=di j 0 _ _ hr rfl;have h2:=dr j 0 _ _ hr rfl;have h3:f j 0=.int .u8 m:=by generalize f j 0=F at h2;cases h2;rfl
    rw[addr_add,<- h3,<- h1];simp)
   grind
  refine⟨_,run_bytesToString w _ n cap ns TN,?_,_,_,_,rfl⟩;rw[foldl_push];simp[ByteArray.empty,ByteArray.emptyWithCapacity];rfl
def Jw(hW:a8 G base s.H gh w)(hF:FR L nt gh w a s){x:Operand}
  (ho:o.op=.convert st dt x) (hc:av nt x=some ix) (hs:P.underlying st=some (.slice e)) (hE:P.underlying e=some (.int .u8)) (hd:P.underlying dt=some .string) (he:cn .Cq (ix.eval G s.T)=some z) :
  ∃ v,(execOp a.eval o).run P w=.ok (.value v) w/\oZ gh s.H.length nt w s.T s.gen (gP a) v z:=by
 generalize hz:ix.eval G s.T=X at he;cases X<;>simp only[cn,reduceCtorEq,au2] at he
 obtain⟨l,hl,rfl⟩:=he;obtain⟨ns,rfl,rfl⟩:=AH hl;have hv:=VR.jF (cU hW hF hc hz rfl);obtain⟨q,h1,h2,b,c,d,hV⟩:=Rg (P:=P) (n0:=0) hv;refine⟨.string q,?_,.dG (.plain _ _ (.str _ _ h2))⟩;have h3:(convert st dt (a.eval x)).run P w=.ok (.string q) w:=by rw[hV] at h1 ⊢;rw[run_convert_bytes_string w st dt e b c d hs hE hd,h1]
 simp[execOp,ho,h3]
end
end
end Go.Abs
end
