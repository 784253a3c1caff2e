/-
  A part of the proof of PrintKept: AbsRel, AbsFrame, AbsArg, AbsOps1, AbsOps2, AbsOps3.
-/
import Derived.Laws.AppendOwn
import Derived.Below
import Derived.WalkKit
import Derived.Test.YtaedakihpnghjaaGreatDoorP01
set_option linter.unusedSimpArgs false
set_option linter.unusedVariables false
section
namespace Go.Abs
inductive Owner where
 | none|outer|ret
 | hb (loc:Nat)
 | hs (loc j:Nat)
 | bx (i:Nat)
 | sl (i:Nat)
 | sc (i j:Nat)
 | par (j:Nat)
 deriving DecidableEq,Inhabited
structure Gh where
 S:Nat→Nat→Prop
 κ:Nat→Owner
 ρ:Nat→Nat
def mkV (agg:Bool) (n:Nat) (f:Nat→Value):Value:=cond agg (.agg ((List.range n).map f).toArray) (f 0)
structure EntOK (E:Array MapEntry) (ck kz:Nat) (ka va:Bool) (es:List (List AV)) (f:Nat→Nat→Value):Prop where
 size:E.size=es.length
 clk:ck=E.size
 at' : ∀ (i:Nat) (e:MapEntry),E[i]?=some e→e.born=i
 born:∀ (i:Nat) (e:MapEntry),E[i]?=some e→e.born<ck
 apart:∀ (i j:Nat) (e e' : MapEntry),E[i]?=some e→E[j]?=some e'→e.born=e'.born→i=j
 row:∀ (i:Nat) (e:MapEntry) (r:List AV),E[i]?=some e→es[i]?=some r→kz≤r.length∧(ka=false→kz=1)∧(va=false→r.length=kz+1)∧e.key=mkV ka kz (f i)∧e.val=mkV va (r.length-kz) (fun j=>f i (kz+j))
inductive PR (S:Nat→Nat→Prop) (w:World):Value→AV→Prop where
 | bool (b:Bool):PR S w (.bool b) (.bool b)
 | int (k:IntKind) (n:Int):PR S w (.int k n) (.int k n)
 | str (s:ByteArray) (l:List UInt8) (h:s.data.toList=l):PR S w (.string s) (.str l)
 | any (v:Value) (h:v.oneCell'=true):PR S w v .any
 | nilptr:PR S w (.pointer none) .nilptr
 | nilmap:PR S w (.map none) .nilmap
 | nilfunc:PR S w .nilFunc .nilfunc
 | niliface:PR S w .nilIface .niliface
 | func (f:Fn):PR S w (.func f #[] #[]) (.func f [] [])
 | iface (t:TypeId) (v:Value) (x:AV) (h:PR S w v x):PR S w (.iface t v) (.iface t x)
 | sliceNil:PR S w (.slice none 0 0) (.slice [] false)
 | nilsl:PR S w (.slice none 0 0) .nilsl
 | slice (b o n cap sz:Nat) (e:List (List AV)) (f:Nat→Nat→Value) (hn:e.length=n) (hcap:n≤cap)
   (hrow:∀ (i:Nat) (r:List AV),e[i]?=some r→r.length=sz)
   (hcell:∀ (i j:Nat) (r:List AV) (x:AV),e[i]?=some r→r[j]?=some x→S b (o+i*sz+j)∧w.cell? ⟨b,o+i*sz+j,none⟩=some (f i j)∧(f i j).oneCell'=true)
   (hrel:∀ (i j:Nat) (r:List AV) (x:AV),e[i]?=some r→r[j]?=some x→PR S w (f i j) x) :
   PR S w (.slice (some ⟨b,o,none⟩) n cap) (.slice e false)
 | eptr (b o:Nat) (cs:List AV) (f:Nat→Value)
   (hcell:∀ (j:Nat) (x:AV),cs[j]?=some x→S b (o+j)∧w.cell? ⟨b,o+j,none⟩=some (f j)∧(f j).oneCell'=true)
   (hrel:∀ (j:Nat) (x:AV),cs[j]?=some x→PR S w (f j) x) :
   PR S w (.pointer (some ⟨b,o,none⟩)) (.eptr cs)
 | fmap (b kz:Nat) (ka va:Bool) (es:List (List AV)) (E:Array MapEntry) (ck:Nat) (f:Nat→Nat→Value) (hS:S b 0) (hb:w.heap[b]?=some (.map E ck)) (hE:EntOK E ck kz ka va es f)
   (hrel:∀ (i j:Nat) (r:List AV) (x:AV),es[i]?=some r→r[j]?=some x→PR S w (f i j) x):PR S w (.map (some b)) (.fmap kz ka va es)
 | gmap (b kz:Nat) (ka va:Bool) (es es' : List (List AV)) (E:Array MapEntry) (ck:Nat) (f:Nat→Nat→Value) (hS:S b 0) (hb:w.heap[b]?=some (.map E ck)) (hE:E.size=es'.length) (hp:es'.Perm es)
   (hrow:∀ (i:Nat) (e:MapEntry) (r:List AV),E[i]?=some e→es'[i]?=some r→kz≤r.length∧(ka=false→kz=1)∧(va=false→r.length=kz+1)∧e.key=mkV ka kz (f i)∧e.val=mkV va (r.length-kz) (fun j=>f i (kz+j)))
   (hrel:∀ (i j:Nat) (r:List AV) (x:AV),es'[i]?=some r→r[j]?=some x→PR S w (f i j) x):PR S w (.map (some b)) (.gmap kz ka va es)
theorem PR.oneCell {S:Nat→Nat→Prop} {w:World} {v:Value} {x:AV} (h:PR S w v x):v.oneCell'=true:=by
 cases h<;>first|rfl|assumption
theorem PR.mono {S S' : Nat→Nat→Prop} {w w' : World} (hS:∀ b o,S b o→S' b o) (hc:∀ b o,S b o→w'.cell? ⟨b,o,none⟩=w.cell? ⟨b,o,none⟩)
  (hm:∀ b E ck,S b 0→w.heap[b]?=some (.map E ck)→w'.heap[b]?=some (.map E ck))
  {v:Value} {x:AV} (h:PR S w v x):PR S' w' v x:=by
 induction h with
 | bool b=>exact .bool b
 | int k n=>exact .int k n
 | str s l h=>exact .str s l h
 | any v h=>exact .any v h
 | nilptr=>exact .nilptr
 | nilmap=>exact .nilmap
 | nilfunc=>exact .nilfunc
 | niliface=>exact .niliface
 | func f=>exact .func f
 | iface t v x _ ih=>exact .iface t v x ih
 | sliceNil=>exact .sliceNil
 | nilsl=>exact .nilsl
 | slice b o n cap sz e f hn hcap hrow hcell _ ih =>
  exact .slice b o n cap sz e f hn hcap hrow (fun i j r x h1 h2=>by
   obtain⟨a,c,d⟩:=hcell i j r x h1 h2
   exact⟨hS _ _ a,(hc _ _ a).trans c,d⟩) ih
 | eptr b o cs f hcell _ ih =>
  exact .eptr b o cs f (fun j x h=>by
   obtain⟨a,c,d⟩:=hcell j x h
   exact⟨hS _ _ a,(hc _ _ a).trans c,d⟩) ih
 | fmap b kz ka va es E ck f h1 h2 h3 _ ih=>exact .fmap b kz ka va es E ck f (hS _ _ h1) (hm _ _ _ h1 h2) h3 ih
 | gmap b kz ka va es es' E ck f h1 h2 h3 h4 h5 _ ih=>exact .gmap b kz ka va es es' E ck f (hS _ _ h1) (hm _ _ _ h1 h2) h3 h4 h5 ih
def BlkLen (w:World) (b:Nat) (ty:TypeId) (n:Nat):Prop:=∃ C fr,w.heap[b]?=some (.cells C ty fr)∧C.size=n
inductive VR (gh:Gh) (n:Nat) (w:World):Value→AV→Prop where
 | plain (v:Value) (x:AV) (h:PR gh.S w v x):VR gh n w v x
 | full (a:Option Addr) (k:Nat) (e:List (List AV)) (h:PR gh.S w (.slice a k k) (.slice e false)) (hz:∀ ad,a=some ad→e=[]→ad.block<w.heap.size):VR gh n w (.slice a k k) (.slice e true)
 | ref (loc off:Nat) (h:loc<n):VR gh n w (.pointer (some ⟨gh.ρ loc,off,none⟩)) (.ref loc off)
 | sref (loc off k cap z:Nat) (h:loc<n) (hk:k≤cap) (hz:z≠0→∃ ty,BlkLen w (gh.ρ loc) ty (off+cap*z)):VR gh n w (.slice (some ⟨gh.ρ loc,off,none⟩) k cap) (.sref loc off k z)
 | mref (loc:Nat) (h:loc<n):VR gh n w (.map (some (gh.ρ loc))) (.mref loc)
 | func (f:Fn) (fs cs:Array Value) (xs ys:List AV) (hf:fs.size=xs.length) (hc:cs.size=ys.length)
   (h1:∀ (j:Nat) (v:Value) (x:AV),fs[j]?=some v→xs[j]?=some x→VR gh n w v x)
   (h2:∀ (j:Nat) (v:Value) (x:AV),cs[j]?=some v→ys[j]?=some x→VR gh n w v x):VR gh n w (.func f fs cs) (.func f xs ys)
 | iface (t:TypeId) (v:Value) (x:AV) (h:VR gh n w v x):VR gh n w (.iface t v) (.iface t x)
 | agg (cs:Array Value) (xs:List AV) (hs:cs.size=xs.length)
   (hone:∀ (j:Nat) (v:Value),cs[j]?=some v→v.oneCell'=true)
   (h:∀ (j:Nat) (v:Value) (x:AV),cs[j]?=some v→xs[j]?=some x→VR gh n w v x):VR gh n w (.agg cs) (.agg xs)
 | tuple (vs:Array Value) (xs:List AV) (hs:vs.size=xs.length)
   (h:∀ (j:Nat) (v:Value) (x:AV),vs[j]?=some v→xs[j]?=some x→VR gh n w v x):VR gh n w (.tuple vs) (.tuple xs)
def Kept (S:Nat→Prop) (x y:Option Obj):Prop :=
 y=x∨∃ C ty lo hi lo' hi',x=some (.cells C ty (lo,hi))∧y=some (.cells C ty (lo',hi'))∧(∃ o n,S o∧C[o]?=some (Value.int .u8 n))∧∀ m,hi≤m→(∀ o,m≤o→¬ S o)→hi'≤m
theorem Kept.none {S:Nat→Prop} {x y:Option Obj} (h:Kept S x y) (hS:∀ o,¬ S o):y=x:=by
 rcases h with h|⟨_,_,_,_,_,_,_,_,⟨o,_,ho,_⟩,_⟩
 ·exact h
 ·exact absurd ho (hS o)
theorem Kept.trans {S T:Nat→Prop} {x y z:Option Obj} (h:Kept S x y) (h' : Kept T y z) (hT:∀ o,T o→S o):Kept S x z:=by
 rcases h with rfl|⟨C,ty,lo,hi,lo',hi',h1,h2,h3,h4⟩
 ·rcases h' with rfl|⟨C,ty,lo,hi,lo',hi',h1,h2,⟨o,n,ho,hn⟩,h4⟩
  ·exact .inl rfl
  ·exact .inr ⟨C,ty,lo,hi,lo',hi',h1,h2,⟨o,n,hT o ho,hn⟩,fun m hm hS=>h4 m hm (fun o ho ht=>hS o ho (hT o ht))⟩
 ·rcases h' with rfl|⟨C2,ty2,lo2,hi2,lo3,hi3,k1,k2,_,k4⟩
  ·exact .inr ⟨C,ty,lo,hi,lo',hi',h1,h2,h3,h4⟩
  ·rw[h2] at k1
   injection k1 with k1
   injection k1 with e1 e2 e3
   injection e3 with e3 e4
   subst e1 e2 e3 e4
   exact .inr ⟨C,ty,lo,hi,lo3,hi3,h1,k2,h3,fun m hm hS=>k4 m (h4 m hm hS) (fun o ho ht=>hS o ho (hT o ht))⟩
structure Step (touch:Owner→Prop) (n:Nat) (gh:Gh) (w:World) (gh' : Gh) (w' : World):Prop where
 S:∀ b o,gh.S b o→gh'.S b o
 cell:∀ b o,gh.S b o→w'.cell? ⟨b,o,none⟩=w.cell? ⟨b,o,none⟩
 size:w.heap.size≤w'.heap.size
 os:w'.os=w.os
 tape:w'.tape=w.tape
 output:w'.output=w.output
 blk:∀ b,b<w.heap.size→¬ touch (gh.κ b)→Kept (gh.S b) (w.heap[b]?) (w'.heap[b]?)∧gh'.κ b=gh.κ b∧∀ o,gh'.S b o→gh.S b o
 fresh:∀ b,w.heap.size≤b→gh'.κ b≠.outer
 ρ:∀ loc,loc<n→gh'.ρ loc=gh.ρ loc
 len:∀ b ty m,BlkLen w b ty m→BlkLen w' b ty m
 mp:∀ b E ck,gh.S b 0→w.heap[b]?=some (.map E ck)→w'.heap[b]?=some (.map E ck)
theorem Step.refl (touch:Owner→Prop) (n:Nat) (gh:Gh) (w:World) (hf:∀ b,w.heap.size≤b→gh.κ b≠.outer):Step touch n gh w gh w :=
 ⟨fun _ _ h=>h,fun _ _ _=>rfl,Nat.le_refl _,rfl,rfl,rfl,fun _ _ _=>⟨.inl rfl,rfl,fun _ h=>h⟩,hf,fun _ _=>rfl,fun _ _ _ h=>h,fun _ _ _ _ h=>h⟩
theorem Step.mono {touch touch' : Owner→Prop} {n:Nat} {gh gh' : Gh} {w w' : World} (h:Step touch n gh w gh' w') (ht:∀ p,touch p→touch' p):Step touch' n gh w gh' w' :=
 { h with blk:=fun b hb hn=>h.blk b hb (fun x=>hn (ht _ x)) }
theorem VR.mono {touch:Owner→Prop} {n n' : Nat} {gh gh' : Gh} {w w' : World} (st:Step touch n gh w gh' w') (hn:n≤n')
  {v:Value} {x:AV} (h:VR gh n w v x):VR gh' n' w' v x:=by
 induction h with
 | plain v x h=>exact .plain v x (h.mono st.S st.cell st.mp)
 | full a k e h hz=>exact .full a k e (h.mono st.S st.cell st.mp) (fun ad ha he=>Nat.lt_of_lt_of_le (hz ad ha he) st.size)
 | ref loc off h=>rw[← st.ρ loc h];exact .ref loc off (Nat.lt_of_lt_of_le h hn)
 | sref loc off k cap z h hk hz=>rw[← st.ρ loc h];exact .sref loc off k cap z (Nat.lt_of_lt_of_le h hn) hk (fun h0=>(hz h0).imp fun ty hb=>by rw[st.ρ loc h];exact st.len _ _ _ hb)
 | mref loc h=>rw[← st.ρ loc h];exact .mref loc (Nat.lt_of_lt_of_le h hn)
 | func f fs cs xs ys hf hc _ _ ih1 ih2=>exact .func f fs cs xs ys hf hc ih1 ih2
 | iface t v x _ ih=>exact .iface t v x ih
 | agg cs xs hs hone _ ih=>exact .agg cs xs hs hone ih
 | tuple vs xs hs _ ih=>exact .tuple vs xs hs ih
def Owned (gh:Gh) (w:World) (p:Owner) (v:Value) (e:List (List AV)):Prop :=
 ∃ b cap C ty lo hi sz,v=.slice (some ⟨b,0,none⟩) e.length cap∧gh.κ b=p∧e≠[]∧w.heap[b]?=some (.cells C ty (lo,hi))∧C.size=cap*sz ∧
  (∀ (i:Nat) (r:List AV),e[i]?=some r→r.length=sz)∧e.length≤cap∧hi≤e.length*sz∧(∀ o,e.length*sz≤o→¬ gh.S b o)
theorem Owned.mono {touch:Owner→Prop} {n:Nat} {gh gh' : Gh} {w w' : World} (st:Step touch n gh w gh' w') {p:Owner} (hp:¬ touch p)
  {v:Value} {e:List (List AV)} (h:Owned gh w p v e):Owned gh' w' p v e:=by
 obtain⟨b,cap,C,ty,lo,hi,sz,hv,hk,he,hb,hC,hr,hl,hh,hS⟩:=h
 have hlt:b<w.heap.size:=(Array.getElem?_eq_some_iff.1 hb).1
 obtain⟨h1,h2,h3⟩:=st.blk b hlt (by rw[hk];exact hp)
 rcases h1 with h1|⟨C',ty',lo1,hi1,lo',hi',k1,k2,_,k4⟩
 ·exact⟨b,cap,C,ty,lo,hi,sz,hv,by rw[h2,hk],he,by rw[h1,hb],hC,hr,hl,hh,fun o ho hs=>hS o ho (h3 o hs)⟩
 ·rw[hb] at k1
  injection k1 with k1
  injection k1 with e1 e2 e3
  injection e3 with e3 e4
  subst e1 e2 e3 e4
  exact⟨b,cap,C,ty,lo',hi',sz,hv,by rw[h2,hk],he,k2,hC,hr,hl,k4 _ hh hS,fun o ho hs=>hS o ho (h3 o hs)⟩
def CR (gh:Gh) (n:Nat) (w:World) (p:Owner) (v:Value) (x:AV):Prop :=
 VR gh n w v x∨∃ e,x=.slice e true∧PR gh.S w v (.slice e false)∧Owned gh w p v e
theorem CR.mono {touch:Owner→Prop} {n n' : Nat} {gh gh' : Gh} {w w' : World} (st:Step touch n gh w gh' w') (hn:n≤n') {p:Owner} (hp:¬ touch p)
  {v:Value} {x:AV} (h:CR gh n w p v x):CR gh' n' w' p v x:=by
 rcases h with h|⟨e,rfl,h1,h2⟩
 ·exact .inl (h.mono st hn)
 ·exact .inr ⟨e,rfl,h1.mono st.S st.cell st.mp,h2.mono st hp⟩
theorem CR.dropped {gh:Gh} {n:Nat} {w:World} {p:Owner} {v:Value} {x:AV} (h:CR gh n w p v x):VR gh n w v x.drop:=by
 rcases h with h|⟨e,rfl,h1,_⟩
 ·cases h with
  | plain v x h =>
   cases x<;>try exact .plain _ _ h
   cases h<;>first|exact .plain _ _ .sliceNil|exact .plain _ _ (.slice _ _ _ _ _ _ _ ‹_› ‹_› ‹_› ‹_› ‹_›)
  | full a k e h=>exact .plain _ _ h
  | ref loc off h=>exact .ref loc off h
  | sref loc off k cap z h hk hz=>exact .sref loc off k cap z h hk hz
  | mref loc h=>exact .mref loc h
  | func f fs cs xs ys hf hc h1 h2=>exact .func f fs cs xs ys hf hc h1 h2
  | iface t v x h=>exact .iface t v x h
  | agg cs xs hs hone h=>exact .agg cs xs hs hone h
  | tuple vs xs hs h=>exact .tuple vs xs hs h
 ·exact .plain _ _ h1
theorem VR.dropped {gh:Gh} {n:Nat} {w:World} {v:Value} {x:AV} (h:VR gh n w v x):VR gh n w v x.drop:=CR.dropped (p:=.none) (.inl h)
def BoxAt (gh:Gh) (n:Nat) (w:World) (b:Nat) (p:Owner) (q:Nat→Owner) (cs:List AV):Prop :=
 gh.κ b=p∧(∀ o,¬ gh.S b o)∧∃ C ty,w.heap[b]?=some (.cells C ty (0,0))∧cs.length≤C.size ∧
  ∀ (j:Nat) (v:Value) (x:AV),C[j]?=some v→cs[j]?=some x→v.oneCell'=true∧CR gh n w (q j) v x
theorem BoxAt.mono {touch:Owner→Prop} {n n' : Nat} {gh gh' : Gh} {w w' : World} (st:Step touch n gh w gh' w') (hn:n≤n') {b:Nat} {p:Owner} {q:Nat→Owner}
  (hp:¬ touch p) (hq:∀ j,¬ touch (q j)) {cs:List AV} (h:BoxAt gh n w b p q cs):BoxAt gh' n' w' b p q cs:=by
 obtain⟨hk,hS,C,ty,hb,hC,hcs⟩:=h
 have hlt:b<w.heap.size:=(Array.getElem?_eq_some_iff.1 hb).1
 obtain⟨h1,h2,h3⟩:=st.blk b hlt (by rw[hk];exact hp)
 have h1:=h1.none hS
 exact⟨by rw[h2,hk],fun o ho=>hS o (h3 o ho),C,ty,by rw[h1,hb],hC,fun j v x hv hx=>⟨(hcs j v x hv hx).1,(hcs j v x hv hx).2.mono st hn (hq j)⟩⟩
def RowAt (gh:Gh) (w:World) (p:Owner) (v:Value) (e:List (List AV)):Prop :=
 ∃ a cap,v=.slice a e.length cap∧((e=[]∧cap=0∧∀ ad,a=some ad→ad.spot=none∧ad.block<w.heap.size)∨∃ b C ty sz,e≠[]∧a=some ⟨b,0,none⟩∧gh.κ b=p∧(∀ o,¬ gh.S b o)∧w.heap[b]?=some (.cells C ty (0,0))∧C.size=cap*sz ∧
  e.length≤cap∧(∀ (i:Nat) (r:List AV),e[i]?=some r→r.length=sz) ∧
  ∀ (i j:Nat) (r:List AV) (x:AV),e[i]?=some r→r[j]?=some x→∃ u,C[i*sz+j]?=some u∧PR gh.S w u x)
theorem RowAt.mono {touch:Owner→Prop} {n:Nat} {gh gh' : Gh} {w w' : World} (st:Step touch n gh w gh' w') {p:Owner} (hp:¬ touch p)
  {v:Value} {e:List (List AV)} (h:RowAt gh w p v e):RowAt gh' w' p v e:=by
 obtain⟨a,cap,hv,h⟩:=h
 refine⟨a,cap,hv,?_⟩
 rcases h with h|⟨b,C,ty,sz,hne,ha,hk,hS,hb,hC,hl,hr,hcs⟩
 ·exact .inl ⟨h.1,h.2.1,fun ad ha=>⟨(h.2.2 ad ha).1,Nat.lt_of_lt_of_le (h.2.2 ad ha).2 st.size⟩⟩
 ·have hlt:b<w.heap.size:=(Array.getElem?_eq_some_iff.1 hb).1
  obtain⟨h1,h2,h3⟩:=st.blk b hlt (by rw[hk];exact hp)
  have h1:=h1.none hS
  exact .inr ⟨b,C,ty,sz,hne,ha,by rw[h2,hk],fun o ho=>hS o (h3 o ho),by rw[h1,hb],hC,hl,hr,fun i j r x hi hj=>by
   obtain⟨u,hu,hp⟩:=hcs i j r x hi hj
   exact⟨u,hu,hp.mono st.S st.cell st.mp⟩⟩
def MapAt (gh:Gh) (n:Nat) (w:World) (b:Nat) (p:Owner) (q:Nat→Owner) (kz:Nat) (ka va:Bool) (es:List (List AV)):Prop :=
 gh.κ b=p∧(∀ o,¬ gh.S b o)∧∃ E ck f,w.heap[b]?=some (.map E ck)∧EntOK E ck kz ka va es f ∧
  (∀ (i j:Nat) (r:List AV) (x:AV),es[i]?=some r→r[j]?=some x→j<kz→PR gh.S w (f i j) x) ∧
  ∀ (i j:Nat) (r:List AV) (x:AV),es[i]?=some r→r[j]?=some x→kz≤j→(f i j).oneCell'=true∧(va=true→VR gh n w (f i j) x)∧CR gh n w (q i) (f i j) x
theorem MapAt.mono {touch:Owner→Prop} {n n' : Nat} {gh gh' : Gh} {w w' : World} (st:Step touch n gh w gh' w') (hn:n≤n') {b:Nat} {p:Owner} {q:Nat→Owner} (hp:¬ touch p) (hq:∀ i,¬ touch (q i))
  {kz:Nat} {ka va:Bool} {es:List (List AV)} (h:MapAt gh n w b p q kz ka va es):MapAt gh' n' w' b p q kz ka va es:=by
 obtain⟨hk,hS,E,ck,f,hb,hE,h1,h2⟩:=h
 have hlt:b<w.heap.size:=(Array.getElem?_eq_some_iff.1 hb).1
 obtain⟨k1,k2,k3⟩:=st.blk b hlt (by rw[hk];exact hp)
 have k1:=k1.none hS
 exact⟨by rw[k2,hk],fun o ho=>hS o (k3 o ho),E,ck,f,by rw[k1,hb],hE,fun i j r x hi hj hl=>(h1 i j r x hi hj hl).mono st.S st.cell st.mp,
  fun i j r x hi hj hl=>⟨(h2 i j r x hi hj hl).1,fun hv=>((h2 i j r x hi hj hl).2.1 hv).mono st hn,(h2 i j r x hi hj hl).2.2.mono st hn (hq i)⟩⟩
def MoreAt (gh:Gh) (n:Nat) (w:World) (b loc:Nat):AObj→Prop
 | .map kz ka va es=>MapAt gh n w b (.hb loc) (fun i=>.hs loc i) kz ka va es∧(es.all fun r=>r.all (heapCell loc))=true
 | .fmap kz ka va es=>PR gh.S w (.map (some b)) (.fmap kz ka va es)
 | .fbox cs=>PR gh.S w (.pointer (some ⟨b,0,none⟩)) (.eptr cs)
 | .obox cs=>BoxAt gh n w b (.hb loc) (fun j=>.hs loc j) cs
 | _=>True
theorem MoreAt.mono {touch:Owner→Prop} {n n' : Nat} {gh gh' : Gh} {w w' : World} (st:Step touch n gh w gh' w') (hn:n≤n') {b loc:Nat} (hp:¬ touch (.hb loc)) (hq:∀ i,¬ touch (.hs loc i))
  {o:AObj} (h:MoreAt gh n w b loc o):MoreAt gh' n' w' b loc o:=by
 cases o with
 | map kz ka va es=>exact⟨h.1.mono st hn hp hq,h.2⟩
 | fmap kz ka va es=>exact PR.mono st.S st.cell st.mp h
 | fbox cs=>exact PR.mono st.S st.cell st.mp h
 | obox cs=>exact BoxAt.mono st hn hp hq h
 | _=>trivial
def IterAt (gh:Gh) (w:World) (b:Nat) (p:Owner) (kz:Nat) (ka va:Bool) (cur:List AV) (todo:List (List AV)):Prop :=
 gh.κ b=p∧(∀ o,¬ gh.S b o)∧∃ (m:Option Nat) (since:Nat) (seen:Array Nat) (last:Nat),w.heap[b]?=some (.mapIter m since seen last) ∧
  ((m=none∧todo=[]∧seen=#[]∧cur=[])∨∃ m0 E es ck f,m=some m0∧gh.S m0 0∧w.heap[m0]?=some (.map E ck)∧EntOK E ck kz ka va es f∧since=ck∧last=ck ∧
   (∀ (i j:Nat) (r:List AV) (x:AV),es[i]?=some r→r[j]?=some x→PR gh.S w (f i j) x) ∧
   ((seen.back?=none∧cur=[])∨∃ (s i:Nat) (e:MapEntry),seen.back?=some s∧E[i]?=some e∧e.born=s∧es[i]?=some cur) ∧
   todo.Perm (((E.toList.zip es).filter fun p=>!seen.contains p.1.born).map (·.2)))
theorem IterAt.mono {touch:Owner→Prop} {n:Nat} {gh gh' : Gh} {w w' : World} (st:Step touch n gh w gh' w') {b:Nat} {p:Owner} (hp:¬ touch p)
  {kz:Nat} {ka va:Bool} {cur:List AV} {todo:List (List AV)} (h:IterAt gh w b p kz ka va cur todo):IterAt gh' w' b p kz ka va cur todo:=by
 obtain⟨hk,hS,m,since,seen,last,hb,h⟩:=h
 have hlt:b<w.heap.size:=(Array.getElem?_eq_some_iff.1 hb).1
 obtain⟨k1,k2,k3⟩:=st.blk b hlt (by rw[hk];exact hp)
 have k1:=k1.none hS
 refine⟨by rw[k2,hk],fun o ho=>hS o (k3 o ho),m,since,seen,last,by rw[k1,hb],?_⟩
 rcases h with h|⟨m0,E,es,ck,f,h1,h2,h3,h4,h5,h6,h7,h8,h9⟩
 ·exact .inl h
 ·exact .inr ⟨m0,E,es,ck,f,h1,st.S _ _ h2,st.mp _ _ _ h2 h3,h4,h5,h6,fun i j r x hi hj=>(h7 i j r x hi hj).mono st.S st.cell st.mp,h8,h9⟩
def SR (gh:Gh) (n nt:Nat) (w:World) (T:AFrame) (gen:Nat) (tm:Nat→Value) (i:Nat) (v:Value) (x:AV):Prop :=
 match x with
 | .lbox g cs=>g<gen∧∃ b,v=.pointer (some ⟨b,0,none⟩)∧BoxAt gh n w b (.bx i) (fun j=>.sc i j) cs
 | .lsl g e=>g<gen∧RowAt gh w (.bx i) v e
 | .lref s g off=>s<nt∧g<gen∧(genOf (T s)=some g→∀ b,tm s=.pointer (some ⟨b,0,none⟩)→v=.pointer (some ⟨b,off,none⟩))
 | .lsr s g=>s<nt∧g<gen∧(genOf (T s)=some g→v=tm s)
 | .eref s g r z off=>s<nt∧g<gen∧(genOf (T s)=some g→∀ b k cap,tm s=.slice (some ⟨b,0,none⟩) k cap→v=.pointer (some ⟨b,r*z+off,none⟩))
 | .iter g kz ka va cur todo=>g<gen∧∃ b,v=.pointer (some ⟨b,0,none⟩)∧IterAt gh w b (.bx i) kz ka va cur todo
 | x=>CR gh n w (.sl i) v x
structure WRel (G:Nat→List AV) (base:Nat) (H:AHeap) (gh:Gh) (w:World):Prop where
 size:base≤w.heap.size
 sLt:∀ b o,gh.S b o→b<w.heap.size
 kLt:∀ b,gh.κ b≠.none→base≤b∧b<w.heap.size
 glob:∀ (g j:Nat) (x:AV),(G g)[j]?=some x→∃ v,w.cell? ⟨g,j,none⟩=some v∧PR gh.S w v x∧gh.S g j
 boxes:∀ (loc:Nat) (ty:TypeId) (cs:List AV),H[loc]?=some (AObj.box ty cs)→BoxAt gh H.length w (gh.ρ loc) (.hb loc) (fun j=>.hs loc j) cs
 refs:∀ (loc:Nat) (ty:TypeId) (cs:List AV),H[loc]?=some (AObj.box ty cs)→cs.all (heapCell loc)=true
 tabs:∀ g,G g≠[]→∃ ty,BlkLen w g ty (G g).length
 bytes:∀ b o n,gh.S b o→w.cell? ⟨b,o,none⟩=some (.int .u8 n)→∃ C fr,w.heap[b]?=some (.cells C byteTy fr)
 more:∀ (loc:Nat) (o:AObj),H[loc]?=some o→MoreAt gh H.length w (gh.ρ loc) loc o
 types:∀ (loc:Nat) (ty:TypeId) (cs:List AV),H[loc]?=some (AObj.box ty cs)→ty≠freeTy→BlkLen w (gh.ρ loc) ty cs.length
structure FRel (nt:Nat) (gh:Gh) (w:World) (a:Act) (s:AS):Prop where
 defers:a.defers=[]
 size:a.tmps.size=nt
 slot:∀ i,i<nt→SR gh s.H.length nt w s.T s.gen (fun k=>a.tmps.getD k undef) i (a.tmps.getD i undef) (s.T i)
theorem WRel.bytes_step {G:Nat→List AV} {base:Nat} {H:AHeap} {gh gh' : Gh} {w w' : World} {touch:Owner→Prop} {n:Nat} (h:WRel G base H gh w) (st:Step touch n gh w gh' w')
  (hnew:∀ b o m,gh'.S b o→gh.S b o∨(w'.cell? ⟨b,o,none⟩=some (.int .u8 m)→∃ C fr,w'.heap[b]?=some (.cells C byteTy fr))) :
  ∀ b o m,gh'.S b o→w'.cell? ⟨b,o,none⟩=some (.int .u8 m)→∃ C fr,w'.heap[b]?=some (.cells C byteTy fr):=by
 intro b o m hs hc
 rcases hnew b o m hs with ho|hn
 ·obtain⟨C,fr,h1⟩:=h.bytes b o m ho (by rw[← st.cell b o ho];exact hc)
  obtain⟨C',fr',h2,_⟩:=st.len b byteTy C.size ⟨C,fr,h1,rfl⟩
  exact⟨C',fr',h2⟩
 ·exact hn hc
theorem WRel.fresh {G:Nat→List AV} {base:Nat} {H:AHeap} {gh:Gh} {w:World} (h:WRel G base H gh w) (b:Nat) (hb:w.heap.size≤b):gh.κ b=.none:=by
 by_cases hk:gh.κ b=.none
 ·exact hk
 ·have:=(h.kLt b hk).2;omega
theorem SR.mono {touch:Owner→Prop} {n n' nt:Nat} {gh gh' : Gh} {w w' : World} (st:Step touch n gh w gh' w') (hn:n≤n') {T T' : AFrame} {gen gen' : Nat} (hg:gen≤gen')
  {tm tm' : Nat→Value} {i:Nat} (h1:¬ touch (.bx i)) (h2:¬ touch (.sl i)) (h3:∀ j,¬ touch (.sc i j))
  (hT:∀ s,s<nt→(genOf (T' s)=genOf (T s)∧tm' s=tm s)∨genOf (T' s)=none∨∃ g,gen≤g∧genOf (T' s)=some g)
  {v:Value} {x:AV} (h:SR gh n nt w T gen tm i v x):SR gh' n' nt w' T' gen' tm' i v x:=by
 have key:∀ s g,s<nt→g<gen→genOf (T' s)=some g→genOf (T s)=some g∧tm' s=tm s:=by
  intro s g hs hgg hgs
  rcases hT s hs with ⟨h,h'⟩|h|⟨g',hg',h⟩
  ·exact⟨h ▸ hgs,h'⟩
  ·rw[h] at hgs;cases hgs
  ·rw[h] at hgs;injection hgs with e;omega
 cases x
 case lbox g cs =>
  obtain⟨hg0,b,hv,hb⟩:=h
  exact⟨by omega,b,hv,hb.mono st hn h1 h3⟩
 case lsl g e=>exact⟨by have:=h.1;omega,h.2.mono st h1⟩
 case iter g kz ka va cur todo =>
  obtain⟨hg0,b,hv,hb⟩:=h
  exact⟨by omega,b,hv,hb.mono st h1⟩
 case lref s g off =>
  obtain⟨hs,hg0,hr⟩:=h
  refine⟨hs,by omega,fun hgs b hb=>?_⟩
  obtain⟨k1,k2⟩:=key s g hs hg0 hgs
  exact hr k1 b (k2 ▸ hb)
 case lsr s g =>
  obtain⟨hs,hg0,hr⟩:=h
  refine⟨hs,by omega,fun hgs=>?_⟩
  obtain⟨k1,k2⟩:=key s g hs hg0 hgs
  rw[k2];exact hr k1
 case eref s g r z off =>
  obtain⟨hs,hg0,hr⟩:=h
  refine⟨hs,by omega,fun hgs b k cap hb=>?_⟩
  obtain⟨k1,k2⟩:=key s g hs hg0 hgs
  exact hr k1 b k cap (k2 ▸ hb)
 all_goals exact CR.mono st hn h2 h
end Go.Abs
end
section
namespace Go.Abs
def touchAny (p:Owner):Prop:=p≠.none∧p≠.outer
structure Ext (n:Nat) (gh:Gh) (w:World) (gh' : Gh) (w' : World):Prop where
 step:Step touchAny n gh w gh' w'
 out:∀ b,gh'.κ b=.outer→gh.κ b=.outer
theorem Ext.refl (n:Nat) (gh:Gh) (w:World) (hf:∀ b,w.heap.size≤b→gh.κ b≠.outer):Ext n gh w gh w:=⟨Step.refl _ n gh w hf,fun _ h=>h⟩
theorem Ext.trans {n n' : Nat} {g1 g2 g3:Gh} {w1 w2 w3:World} (h:Ext n g1 w1 g2 w2) (h' : Ext n' g2 w2 g3 w3) (hn:n≤n'):Ext n g1 w1 g3 w3:=by
 refine⟨⟨fun b o hs=>h'.step.S b o (h.step.S b o hs),fun b o hs=>(h'.step.cell b o (h.step.S b o hs)).trans (h.step.cell b o hs),Nat.le_trans h.step.size h'.step.size,
  h'.step.os.trans h.step.os,h'.step.tape.trans h.step.tape,h'.step.output.trans h.step.output,?_,?_,fun loc hl=>(h'.step.ρ loc (Nat.lt_of_lt_of_le hl hn)).trans (h.step.ρ loc hl),fun b ty m hb=>h'.step.len b ty m (h.step.len b ty m hb),fun b E ck hs hb=>h'.step.mp b E ck (h.step.S b 0 hs) (h.step.mp b E ck hs hb)⟩,fun b hb=>h.out b (h'.out b hb)⟩
 ·intro b hb hnt
  obtain⟨a1,a2,a3⟩:=h.step.blk b hb hnt
  obtain⟨c1,c2,c3⟩:=h'.step.blk b (Nat.lt_of_lt_of_le hb h.step.size) (by rw[a2];exact hnt)
  exact⟨a1.trans c1 a3,c2.trans a2,fun o ho=>a3 o (c3 o ho)⟩
 ·intro b hb ho
  have:=h'.out b ho
  by_cases hb2:w2.heap.size≤b
  ·exact h'.step.fresh b hb2 ho
  ·exact h.step.fresh b hb this
structure FR (L:List Nat) (nt:Nat) (gh:Gh) (w:World) (a:Act) (s:AS):Prop extends FRel nt gh w a s where
 obj:∀ i,(genOf (s.T i)).isSome=true→i∈L
def tmv (a:Act) (k:Nat):Value:=a.tmps.getD k undef
theorem tmv_put (a:Act) (d:Nat) (v:Value) (k:Nat) (hd:d<a.tmps.size):tmv (a.put (some d) v) k=if k=d then v else tmv a k:=by
 unfold tmv Act.put
 by_cases h:k=d
 ·subst h;simp[hd]
 ·simp[h,Array.getElem?_setIfInBounds_ne (Ne.symm h)]
theorem nbeq (a b:Nat):Nat.beq a b=decide (a=b):=by
 by_cases h:a=b
 ·subst h;simp
 ·have h1:Nat.beq a b≠true:=fun h'=>h (Nat.eq_of_beq_eq_true h')
  rw[decide_eq_false h]
  exact Bool.eq_false_iff.2 h1
theorem put_T (T:AFrame) (d:Nat) (v:AV) (k:Nat):T.put d v k=if k=d then v else T k:=by
 unfold AFrame.put
 rw[nbeq]
 by_cases h:k=d
 ·subst h;simp
 ·simp[h]
theorem FR.update {L:List Nat} {nt:Nat} {gh gh' : Gh} {w w' : World} {a a' : Act} {s s' : AS} {touch:Owner→Prop} (h:FR L nt gh w a s)
  (st:Step touch s.H.length gh w gh' w') (hdef:a'.defers=[]) (hsz:a'.tmps.size=nt) (hn:s.H.length≤s'.H.length) (hg:s.gen≤s'.gen)
  (D:Nat→Prop)
  (hkeep:∀ i,¬ D i→s'.T i=s.T i∧(i<nt→tmv a' i=tmv a i∧¬ touch (.bx i)∧¬ touch (.sl i)∧∀ j,¬ touch (.sc i j)))
  (hgen:∀ i,D i→(i<nt∧genOf (s'.T i)=genOf (s.T i)∧tmv a' i=tmv a i)∨genOf (s'.T i)=none∨(i∈L∧∃ g,s.gen≤g∧genOf (s'.T i)=some g))
  (hnew:∀ i,D i→i<nt→SR gh' s'.H.length nt w' s'.T s'.gen (tmv a') i (tmv a' i) (s'.T i)):FR L nt gh' w' a' s':=by
 have hT:∀ i,i<nt→(genOf (s'.T i)=genOf (s.T i)∧tmv a' i=tmv a i)∨genOf (s'.T i)=none∨∃ g,s.gen≤g∧genOf (s'.T i)=some g:=by
  intro i hi
  by_cases hD:D i
  ·rcases hgen i hD with ⟨_,h⟩|h|⟨_,h⟩
   ·exact .inl h
   ·exact .inr (.inl h)
   ·exact .inr (.inr h)
  ·obtain⟨k1,k2⟩:=hkeep i hD
   exact .inl ⟨by rw[k1],(k2 hi).1⟩
 refine⟨⟨hdef,hsz,fun i hi=>?_⟩,fun i hi=>?_⟩
 ·by_cases hD:D i
  ·exact hnew i hD hi
  ·obtain⟨k1,k2⟩:=hkeep i hD
   obtain⟨k3,t1,t2,t3⟩:=k2 hi
   show SR gh' s'.H.length nt w' s'.T s'.gen (tmv a') i (tmv a' i) (s'.T i)
   rw[k1,k3]
   exact SR.mono st hn hg t1 t2 t3 hT (h.slot i hi)
 ·by_cases hD:D i
  ·rcases hgen i hD with ⟨_,h',_⟩|h'|⟨h',_⟩
   ·exact h.obj i (by rw[← h'];exact hi)
   ·rw[h'] at hi;cases hi
   ·exact h'
  ·rw[(hkeep i hD).1] at hi
   exact h.obj i hi
def Val (gh:Gh) (n nt:Nat) (w:World) (T:AFrame) (gen:Nat) (tm:Nat→Value) (v:Value) (x:AV):Prop :=
 match x with
 | .lbox ..|.lsl ..|.iter ..=>False
 | .lref s g off=>s<nt∧g<gen∧(genOf (T s)=some g→∀ b,tm s=.pointer (some ⟨b,0,none⟩)→v=.pointer (some ⟨b,off,none⟩))
 | .lsr s g=>s<nt∧g<gen∧(genOf (T s)=some g→v=tm s)
 | .eref s g r z off=>s<nt∧g<gen∧(genOf (T s)=some g→∀ b k cap,tm s=.slice (some ⟨b,0,none⟩) k cap→v=.pointer (some ⟨b,r*z+off,none⟩))
 | x=>VR gh n w v x
theorem Val.genOf {gh:Gh} {n nt:Nat} {w:World} {T:AFrame} {gen:Nat} {tm:Nat→Value} {v:Value} {x:AV} (h:Val gh n nt w T gen tm v x):genOf x=none:=by
 cases x<;>first|rfl|exact h.elim
theorem Val.sr {gh:Gh} {n nt:Nat} {w:World} {T:AFrame} {gen:Nat} {tm:Nat→Value} {v:Value} {x:AV} (h:Val gh n nt w T gen tm v x) (i:Nat):SR gh n nt w T gen tm i v x:=by
 cases x<;>first|exact h.elim|exact h|exact .inl h
theorem Val.of_VR {gh:Gh} {n nt:Nat} {w:World} {T:AFrame} {gen:Nat} {tm:Nat→Value} {v:Value} {x:AV} (h:VR gh n w v x):Val gh n nt w T gen tm v x:=by
 cases h with
 | plain v x h=>have h0:=h;cases h<;>exact .plain _ _ h0
 | full a k e h hz=>exact .full a k e h hz
 | ref loc off h=>exact .ref loc off h
 | sref loc off k cap z h hk hz=>exact .sref loc off k cap z h hk hz
 | mref loc h=>exact .mref loc h
 | func f fs cs xs ys hf hc h1 h2=>exact .func f fs cs xs ys hf hc h1 h2
 | iface t v x h=>exact .iface t v x h
 | agg cs xs hs hone h=>exact .agg cs xs hs hone h
 | tuple vs xs hs h=>exact .tuple vs xs hs h
theorem putD_T (s:AS) (d:Option Nat) (x:AV):(s.putD d x).H=s.H∧(s.putD d x).gen=s.gen∧(s.putD d x).lo=s.lo:=by cases d<;>exact⟨rfl,rfl,rfl⟩
theorem put_size (a:Act) (d:Option Nat) (v:Value):(a.put d v).tmps.size=a.tmps.size:=by cases d<;>simp[Act.put]
theorem put_defers' (a:Act) (d:Option Nat) (v:Value):(a.put d v).defers=a.defers:=by cases d<;>rfl
theorem FR.put {L:List Nat} {nt:Nat} {gh gh' : Gh} {w w' : World} {a:Act} {s:AS} {H' : AHeap} {lo' : Nat} {touch:Owner→Prop} (h:FR L nt gh w a s) (st:Step touch s.H.length gh w gh' w')
  (ht:∀ i,¬ touch (.bx i)∧¬ touch (.sl i)∧∀ j,¬ touch (.sc i j)) (hH:s.H.length≤H'.length)
  (d:Option Nat) (hd:∀ k,d=some k→k<nt) {v:Value} {x:AV} (hv:Val gh' H'.length nt w' s.T s.gen (tmv a) v x) :
  FR L nt gh' w' (a.put d v) (({ s with H:=H',lo:=lo' } : AS).putD d x):=by
 cases d with
 | none =>
  exact h.update st h.defers h.size hH (Nat.le_refl _) (fun _=>False) (fun i _=>⟨rfl,fun _=>⟨rfl,ht i⟩⟩) (fun _ h=>h.elim) (fun _ h=>h.elim)
 | some d =>
  have hlt:=hd d rfl
  have hsz:d<a.tmps.size:=by rw[h.size];exact hlt
  refine h.update (s':=({ s with H:=H',lo:=lo' } : AS).putD (some d) x) st ((put_defers' a (some d) v).trans h.defers) ((put_size a (some d) v).trans h.size) hH (Nat.le_refl _) (fun i=>i=d) ?_ ?_ ?_
  ·intro i hi
   refine⟨by simp[AS.putD,AS.setT,put_T,hi],fun _=>⟨by rw[tmv_put a d v i hsz,if_neg hi],ht i⟩⟩
  ·rintro i rfl
   exact .inr (.inl (by simp[AS.putD,AS.setT,put_T];exact hv.genOf))
  ·rintro i rfl hi
   simp only[AS.putD,AS.setT,put_T,if_true]
   rw[tmv_put a i v i hsz,if_pos rfl]
   refine SR.mono (touch:=fun _=>False) (n:=H'.length) (gh:=gh') (w:=w') (Step.refl _ _ _ _ (fun b hb=>st.fresh b (Nat.le_trans st.size hb))) (Nat.le_refl _) (Nat.le_refl _) id id (fun _=>id) ?_ (hv.sr i)
   intro k hk
   by_cases hki:k=i
   ·subst hki;exact .inr (.inl (by simp[AFrame.put];exact hv.genOf))
   ·exact .inl ⟨by simp[put_T,hki],by rw[tmv_put a i v k hsz,if_neg hki]⟩
end Go.Abs
end
section
namespace Go.Abs
section
variable {gh:Gh} {n:Nat} {w:World} {v:Value}
theorem VR.inv_bool {b:Bool} (h:VR gh n w v (.bool b)):v=.bool b:=by cases h with|plain _ _ h=>cases h;rfl
theorem VR.inv_int {k:IntKind} {m:Int} (h:VR gh n w v (.int k m)):v=.int k m:=by cases h with|plain _ _ h=>cases h;rfl
theorem VR.inv_str {l:List UInt8} (h:VR gh n w v (.str l)):∃ s:ByteArray,v=.string s∧s.data.toList=l:=by cases h with|plain _ _ h=>cases h;exact⟨_,rfl,‹_›⟩
theorem VR.inv_niliface (h:VR gh n w v .niliface):v=.nilIface:=by cases h with|plain _ _ h=>cases h;rfl
theorem VR.inv_nilfunc (h:VR gh n w v .nilfunc):v=.nilFunc:=by cases h with|plain _ _ h=>cases h;rfl
theorem VR.inv_iface {t:TypeId} {x:AV} (h:VR gh n w v (.iface t x)):∃ u,v=.iface t u:=by
 cases h with
 | plain _ _ h=>cases h;exact⟨_,rfl⟩
 | iface _ _ _ _=>exact⟨_,rfl⟩
theorem VR.inv_nilsl (h:VR gh n w v .nilsl):v=.slice none 0 0:=by cases h with|plain _ _ h=>cases h;rfl
theorem VR.inv_slice {e:List (List AV)} (h:VR gh n w v (.slice e false)):PR gh.S w v (.slice e false):=by cases h with|plain _ _ h=>exact h
theorem VR.inv_eptr {cs:List AV} (h:VR gh n w v (.eptr cs)):PR gh.S w v (.eptr cs):=by cases h with|plain _ _ h=>exact h
theorem VR.inv_ref {loc off:Nat} (h:VR gh n w v (.ref loc off)):loc<n∧v=.pointer (some ⟨gh.ρ loc,off,none⟩):=by
 cases h with
 | plain _ _ h=>cases h
 | ref _ _ h=>exact⟨h,rfl⟩
theorem VR.inv_sref {loc off k z:Nat} (h:VR gh n w v (.sref loc off k z)):loc<n∧∃ cap,k≤cap∧(z≠0→∃ ty,BlkLen w (gh.ρ loc) ty (off+cap*z))∧v=.slice (some ⟨gh.ρ loc,off,none⟩) k cap:=by
 cases h with
 | plain _ _ h=>cases h
 | sref _ _ _ cap _ h hk hz=>exact⟨h,cap,hk,hz,rfl⟩
theorem VR.inv_mref {loc:Nat} (h:VR gh n w v (.mref loc)):loc<n∧v=.map (some (gh.ρ loc)):=by
 cases h with
 | plain _ _ h=>cases h
 | mref _ h=>exact⟨h,rfl⟩
theorem VR.inv_func {f:Fn} {xs ys:List AV} (h:VR gh n w v (.func f xs ys)):∃ fs cs,v=.func f fs cs∧fs.size=xs.length∧cs.size=ys.length ∧
  (∀ (j:Nat) (v:Value) (x:AV),fs[j]?=some v→xs[j]?=some x→VR gh n w v x)∧(∀ (j:Nat) (v:Value) (x:AV),cs[j]?=some v→ys[j]?=some x→VR gh n w v x):=by
 cases h with
 | plain _ _ h=>cases h;exact⟨#[],#[],rfl,rfl,rfl,fun j v x h=>by simp at h,fun j v x h=>by simp at h⟩
 | func _ fs cs _ _ hf hc h1 h2=>exact⟨fs,cs,rfl,hf,hc,h1,h2⟩
theorem VR.inv_agg {xs:List AV} (h:VR gh n w v (.agg xs)):∃ cs:Array Value,v=.agg cs∧cs.size=xs.length∧(∀ (j:Nat) (v:Value),cs[j]?=some v→v.oneCell'=true) ∧
  (∀ (j:Nat) (v:Value) (x:AV),cs[j]?=some v→xs[j]?=some x→VR gh n w v x):=by
 cases h with
 | plain _ _ h=>cases h
 | agg cs _ hs hone h=>exact⟨cs,rfl,hs,hone,h⟩
theorem VR.inv_tuple {xs:List AV} (h:VR gh n w v (.tuple xs)):∃ vs:Array Value,v=.tuple vs∧vs.size=xs.length ∧
  (∀ (j:Nat) (v:Value) (x:AV),vs[j]?=some v→xs[j]?=some x→VR gh n w v x):=by
 cases h with
 | plain _ _ h=>cases h
 | tuple vs _ hs h=>exact⟨vs,rfl,hs,h⟩
theorem VR.inv_undef (h:VR gh n w v .undef):v=undef:=by
 obtain⟨vs,rfl,hs,_⟩:=h.inv_tuple
 have:vs=#[]:=Array.eq_empty_of_size_eq_zero (by simpa using hs)
 subst this;rfl
end
theorem VR.undef {gh:Gh} {n:Nat} {w:World} : VR gh n w undef .undef:=.tuple #[] [] rfl (fun j v x h=>by simp at h)
theorem const_VR {gh:Gh} {n:Nat} {w:World} {v:Value} {x:AV} (h:constAV v=some x):VR gh n w v x:=by
 unfold constAV at h
 split at h<;>first|(injection h with h;subst h)|cases h
 ·exact .plain _ _ (.bool _)
 ·exact .plain _ _ (.int _ _)
 ·exact .plain _ _ (.str _ _ rfl)
 ·exact .full none 0 [] .sliceNil (fun ad h=>by cases h)
 ·exact .plain _ _ .nilptr
 ·exact .plain _ _ .nilmap
 ·exact .plain _ _ .nilfunc
 ·exact .plain _ _ .niliface
theorem constCells_VR {gh:Gh} {n:Nat} {w:World} : ∀ {vs:List Value} {xs:List AV},constCells vs=some xs→vs.length=xs.length ∧
  ∀ (j:Nat) (v:Value) (x:AV),vs[j]?=some v→xs[j]?=some x→VR gh n w v x∧v.oneCell'=true
 | [],xs,h=>by simp[constCells] at h;subst h;exact⟨rfl,fun j v x h=>by simp at h⟩
 | v :: r,xs,h=>by
  simp only[constCells,Option.bind_eq_some_iff,Option.map_eq_some_iff] at h
  obtain⟨x,hx,ys,hy,rfl⟩:=h
  obtain⟨h1,h2⟩:=constCells_VR (gh:=gh) (n:=n) (w:=w) hy
  refine⟨by simp[h1],fun j u y hu hy=>?_⟩
  cases j with
  | zero =>
   simp at hu hy
   subst hu hy
   refine⟨const_VR hx,?_⟩
   unfold constAV at hx
   split at hx<;>first|rfl|cases hx
  | succ j=>exact h2 j u y (by simpa using hu) (by simpa using hy)
theorem const_nil0 {gh:Gh} {n:Nat} {w:World} {v:Value} {x:AV} (h:constAV v=some x):VR gh n w v (nilOf x):=by
 have h0:=const_VR (gh:=gh) (n:=n) (w:=w) h
 unfold constAV at h
 split at h<;>first|(injection h with h;subst h)|cases h
 all_goals first|exact h0|exact .plain _ _ .nilsl
theorem constCells_at:∀ {vs:List Value} {xs:List AV},constCells vs=some xs→∀ (j:Nat) (v:Value) (x:AV),vs[j]?=some v→xs[j]?=some x→constAV v=some x
 | [],_,_,j,v,x,hv,_=>by simp at hv
 | u :: r,xs,h,j,v,x,hv,hx=>by
  simp only[constCells,Option.bind_eq_some_iff,Option.map_eq_some_iff] at h
  obtain⟨y,hy,ys,hys,rfl⟩:=h
  cases j with
  | zero=>simp at hv hx;subst hv hx;exact hy
  | succ j=>exact constCells_at hys j v x (by simpa using hv) (by simpa using hx)
theorem constArg_VR {gh:Gh} {n:Nat} {w:World} {v:Value} {x:AV} (h:constArg v=some x):VR gh n w v x:=by
 unfold constArg at h
 split at h
 ·rename_i vs
  simp only[Option.map_eq_some_iff] at h
  obtain⟨l,hl,rfl⟩:=h
  obtain⟨h1,h2⟩:=constCells_VR (gh:=gh) (n:=n) (w:=w) hl
  refine .agg vs _ (by simpa using h1) (fun j v hv=>?_) (fun j v x hv hx=>?_)
  ·have hj:vs.toList[j]?=some v:=by simpa using hv
   obtain⟨y,hy⟩:∃ y,l[j]?=some y:=by
    have:j<vs.toList.length:=(List.getElem?_eq_some_iff.1 hj).1
    exact⟨_,List.getElem?_eq_getElem (by omega)⟩
   exact (h2 j v y hj hy).2
  ·rw[List.getElem?_map,Option.map_eq_some_iff] at hx
   obtain⟨y,hy,rfl⟩:=hx
   exact const_nil0 (constCells_at hl j v y (by simpa using hv) hy)
 ·exact const_VR h
section
variable {G:Nat→List AV} {base nt:Nat} {L:List Nat} {gh:Gh} {w:World} {a:Act} {s:AS} {x:Operand} {y:IArg}
theorem glob_VR (hW:WRel G base s.H gh w) (g:Nat):VR gh s.H.length w (.pointer (some ⟨g,0,none⟩)) (.eptr (G g)):=by
 refine .plain _ _ ?_
 let f:Nat→Value:=fun j=>(w.cell? ⟨g,j,none⟩).getD undef
 refine .eptr g 0 (G g) f ?_ ?_
 ·intro j x h
  obtain⟨v,hv,hp,hs⟩:=hW.glob g j x h
  refine⟨by simpa using hs,by simp[f,hv],?_⟩
  simp only[f,hv,Option.getD_some];exact hp.oneCell
 ·intro j x h
  obtain⟨v,hv,hp,hs⟩:=hW.glob g j x h
  simp only[f,hv,Option.getD_some];exact hp
theorem arg_val (hW:WRel G base s.H gh w) (hF:FR L nt gh w a s) (hc:compArg nt x=some y) :
  Val gh s.H.length nt w s.T s.gen (tmv a) (a.eval x) (y.addr G s.T).drop:=by
 cases x with
 | tmp t =>
  simp only[compArg] at hc
  rcases Bool.eq_false_or_eq_true (Nat.blt t nt) with hb|hb<;>rw[hb] at hc<;>simp at hc
  subst hc
  have hlt:t<nt:=by simpa [Nat.blt_eq] using hb
  have h:=hF.slot t hlt
  show Val gh s.H.length nt w s.T s.gen (tmv a) (tmv a t) _
  change SR gh s.H.length nt w s.T s.gen (tmv a) t (tmv a t) (s.T t) at h
  simp only[IArg.addr]
  generalize hX:s.T t=X at h
  cases X
  case lbox g cs =>
   obtain⟨hg,b,hv,_⟩:=h
   refine⟨hlt,hg,fun _ b' hb'=>hb'⟩
  case lsl g e=>exact⟨hlt,h.1,fun _=>rfl⟩
  case lref=>exact h
  case lsr=>exact h
  case eref=>exact h
  case iter g kz ka va cur todo =>
   obtain⟨_,b,hv,_⟩:=h
   rw[hv]
   exact .of_VR (.plain _ _ (.any _ rfl))
  all_goals exact .of_VR (CR.dropped h)
 | const v =>
  simp only[compArg,Option.map_eq_some_iff] at hc
  obtain⟨z,hz,rfl⟩:=hc
  exact .of_VR (VR.dropped (constArg_VR hz))
 | global g =>
  simp only[compArg,Option.some.injEq] at hc
  subst hc
  exact .of_VR (VR.dropped (glob_VR hW g))
 | func f =>
  simp only[compArg,Option.some.injEq] at hc
  subst hc
  exact .of_VR (.plain _ _ (.func _))
theorem addr_eval {T:AFrame} (h:genOf (y.eval G T)=none):y.addr G T=y.eval G T:=by
 cases y with
 | tmp t =>
  simp only[IArg.addr,IArg.eval] at h ⊢
  cases hX:T t<;>rw[hX] at h<;>first|rfl|(simp[genOf] at h)
 | con v=>rfl
 | glob g=>rfl
 | fn f=>rfl
theorem Val.vr {n:Nat} {T:AFrame} {gen:Nat} {tm:Nat→Value} {v:Value} {z:AV} (h:Val gh n nt w T gen tm v z) (hz:frameCell z=true):VR gh n w v z:=by
 cases z<;>first|exact h|(simp[frameCell] at hz)
theorem frameCell_drop {z:AV} : frameCell z.drop=frameCell z:=by cases z<;>rfl
theorem arg_VR (hW:WRel G base s.H gh w) (hF:FR L nt gh w a s) (hc:compArg nt x=some y) {z:AV} (hz:y.eval G s.T=z) (hf:frameCell z=true) :
  VR gh s.H.length w (a.eval x) z.drop:=by
 have hg:genOf (y.eval G s.T)=none:=by rw[hz];cases z<;>first|rfl|(simp[frameCell] at hf)
 have h:=arg_val hW hF hc
 rw[addr_eval hg,hz] at h
 exact h.vr (by rw[frameCell_drop];exact hf)
theorem arg_VR' (hW:WRel G base s.H gh w) (hF:FR L nt gh w a s) (hc:compArg nt x=some y) {z:AV} (hz:y.addr G s.T=z) (hf:frameCell z=true) :
  VR gh s.H.length w (a.eval x) z.drop:=by
 have h:=arg_val hW hF hc
 rw[hz] at h
 exact h.vr (by rw[frameCell_drop];exact hf)
theorem arg_own (hF:FR L nt gh w a s) {t:Nat} (hlt:t<nt) {e:List (List AV)} {own:Bool} (hz:s.T t=.slice e own):CR gh s.H.length w (.sl t) (a.eval (.tmp t)) (.slice e own):=by
 have h:=hF.slot t hlt
 rw[hz] at h
 exact h
end
end Go.Abs
end
section
namespace Go.Abs
set_option linter.unusedSimpArgs false
set_option linter.unusedVariables false
section
variable {P:Program} {G:Nat→List AV} {base nt:Nat} {L:List Nat} {gh:Gh} {w:World} {a:Act} {s:AS}
theorem cond_some {α:Type} {b:Bool} {x:Option α} {y:α} (h:cond b x none=some y):b=true∧x=some y:=by cases b<;>simp_all
theorem ev_mov (hW:WRel G base s.H gh w) (hF:FR L nt gh w a s) {x:Operand} {y:IArg} {take obj:Bool} {z:AV} (hc:compArg nt x=some y)
  (he:evMov G s take obj y=some (z,none)):Val gh s.H.length nt w s.T s.gen (tmv a) (a.eval x) z:=by
 have h:=arg_val hW hF hc
 cases y with
 | tmp t =>
  simp only[evMov] at he
  simp only[IArg.addr] at h
  generalize hX:s.T t=X at h he
  cases X<;>simp only[Option.some.injEq,Prod.mk.injEq,and_true] at he<;>(try subst he)<;>(try exact h)
  case slice e own =>
   cases take<;>cases own<;>simp at he<;>subst he<;>exact h
  case lsl g e =>
   cases take
   ·simp at he;subst he;exact h
   ·cases obj
    ·cases hn:noByte e<;>rw[hn] at he<;>simp at he
    ·simp at he
  case iter=>cases he
 | con v =>
  simp only[evMov,IArg.eval,Option.some.injEq,Prod.mk.injEq,and_true] at he
  subst he
  cases x<;>simp only[compArg,Option.map_eq_some_iff,Option.some.injEq,reduceCtorEq,and_false,exists_false] at hc
  case tmp t=>exact absurd (cond_some hc).2 (by simp)
  case const v' =>
   obtain⟨z,hz,hy⟩:=hc
   injection hy with hy
   subst hy
   exact .of_VR (constArg_VR hz)
 | glob g =>
  simp only[evMov,IArg.eval,Option.some.injEq,Prod.mk.injEq,and_true] at he
  subst he
  exact h
 | fn f =>
  simp only[evMov,IArg.eval,Option.some.injEq,Prod.mk.injEq,and_true] at he
  subst he
  exact h
theorem asNat_inv (hW:WRel G base s.H gh w) (hF:FR L nt gh w a s) {x:Operand} {y:IArg} (hc:compArg nt x=some y) {k:Nat} (h:asNat (y.eval G s.T)=some k) :
  ∃ kd,a.eval x=.int kd (k:Int):=by
 unfold asNat at h
 split at h
 ·rename_i kd m hy
  obtain⟨h0,h1⟩:=cond_some h
  have hm:(0:Int)≤m:=by simpa using h0
  have h1' : m.toNat=k:=by simpa using h1
  have hv:=(arg_VR hW hF hc hy rfl).inv_int
  exact⟨kd,by rw[hv,← h1',Int.toNat_of_nonneg hm]⟩
 ·cases h
theorem info_of_size {t:TypeId} {k:Nat} (h:sizeT P t=some k):∃ i,P.info? t=some i∧i.size=k:=by
 simpa [sizeT,Option.map_eq_some_iff] using h
theorem run_sizeOf' {t:TypeId} {k:Nat} (h:sizeT P t=some k) (w:World):(sizeOf t).run P w=.ok k w:=by
 obtain⟨i,hi,hk⟩:=info_of_size h
 simp[sizeOf,typeInfo,hi,hk]
theorem run_isAgg' {t:TypeId} {g:Bool} (h:aggT P t=some g) (w:World):(isAgg t).run P w=.ok g w:=by
 unfold aggT at h
 simp only[Option.map_eq_some_iff] at h
 obtain⟨d,hd,hg⟩:=h
 unfold isAgg
 rw[Sem.run_bind,run_underlying hd w]
 subst hg
 cases d<;>rfl
theorem addr_add (b o k:Nat):(⟨b,o,none⟩:Addr).add k=⟨b,o+k,none⟩:=by unfold Addr.add;split<;>simp_all
theorem load_cells {n:Nat} {agg:Bool} {sz off:Nat} {cs:List AV} {z:AV} (hl:loadCellsAV false agg sz off cs=some z) {t:TypeId} (hg:aggT P t=some agg) (hs:sizeT P t=some sz)
  {b o:Nat} {f:Nat→Value} (hf:∀ (j:Nat) (x:AV),cs[j]?=some x→w.cell? ⟨b,o+j,none⟩=some (f j)∧(f j).oneCell'=true∧VR gh n w (f j) x.drop) :
  ∃ v,(loadVar t ⟨b,o+off,none⟩).run P w=.ok v w∧VR gh n w v z:=by
 unfold loadCellsAV at hl
 cases agg
 ·simp only[cond_false,Option.map_eq_some_iff] at hl
  obtain⟨x,hx,rfl⟩:=hl
  obtain⟨h1,h2,h3⟩:=hf off x hx
  refine⟨f off,?_,h3⟩
  simp[loadVar,run_isAgg' hg,h1]
 ·simp only[cond_true] at hl
  obtain⟨h0,h1⟩:=cond_some hl
  have h0' : off+sz≤cs.length:=by simpa [Nat.ble_eq] using h0
  injection h1 with h1
  subst h1
  have hcells:(loadCells ⟨b,o+off,none⟩ sz).run P w=.ok ((List.range sz).map fun j=>f (off+j)).toArray w :=
   run_loadCells w _ sz (fun j=>f (off+j)) fun j hj=>by
    have hlt:off+j<cs.length:=by omega
    have:=(hf (off+j) _ (List.getElem?_eq_getElem hlt)).1
    rw[addr_add,Nat.add_assoc];exact this
  refine⟨.agg ((List.range sz).map fun j=>f (off+j)).toArray,by simp[loadVar,run_isAgg' hg,run_sizeOf' hs,hcells],?_⟩
  have hlen:(((cs.drop off).take sz).map AV.drop).length=sz:=by simp;omega
  refine .agg _ _ (by simp[hlen];omega) ?_ ?_
  ·intro j v hj
   simp only[List.getElem?_toArray,List.getElem?_map,Option.map_eq_some_iff] at hj
   obtain⟨k,hk,rfl⟩:=hj
   have hk':=List.getElem?_eq_some_iff.1 hk
   obtain⟨hlt,hkj⟩:=hk'
   simp at hlt hkj
   subst hkj
   exact (hf (off+j) _ (List.getElem?_eq_getElem (by omega))).2.1
  ·intro j v x hj hx
   simp only[List.getElem?_toArray,List.getElem?_map,Option.map_eq_some_iff] at hj hx
   obtain⟨k,hk,rfl⟩:=hj
   obtain⟨hlt,hkj⟩:=List.getElem?_eq_some_iff.1 hk
   simp at hlt hkj
   subst hkj
   obtain⟨y,hy,rfl⟩:=hx
   rw[List.getElem?_take,List.getElem?_drop] at hy
   rw[if_pos hlt] at hy
   exact (hf (off+j) y hy).2.2
theorem sr_lbox (hF:FR L nt gh w a s) {b g:Nat} {cs:List AV} (hb:b<nt) (hT:s.T b=.lbox g cs) :
  ∃ k,tmv a b=.pointer (some ⟨k,0,none⟩)∧BoxAt gh s.H.length w k (.bx b) (fun j=>.sc b j) cs:=by
 have h:=hF.slot b hb
 rw[hT] at h
 exact h.2
theorem sr_lsl (hF:FR L nt gh w a s) {b g:Nat} {e:List (List AV)} (hb:b<nt) (hT:s.T b=.lsl g e):RowAt gh w (.bx b) (tmv a b) e:=by
 have h:=hF.slot b hb
 rw[hT] at h
 exact h.2
theorem box_cells {n b:Nat} {p:Owner} {q:Nat→Owner} {cs:List AV} (h:BoxAt gh n w b p q cs) :
  ∃ f:Nat→Value,∀ (j:Nat) (x:AV),cs[j]?=some x→w.cell? ⟨b,0+j,none⟩=some (f j)∧(f j).oneCell'=true∧VR gh n w (f j) x.drop:=by
 obtain⟨_,_,C,ty,hb,hC,hcs⟩:=h
 refine⟨fun j=>C.getD j undef,fun j x hx=>?_⟩
 have hj:j<cs.length:=(List.getElem?_eq_some_iff.1 hx).1
 have hj' : j<C.size:=by omega
 have hv:C[j]?=some C[j]:=Array.getElem?_eq_getElem hj'
 obtain⟨h1,h2⟩:=hcs j _ x hv hx
 refine⟨by rw[Nat.zero_add,cell_of_row w b j C ty _ hb];simp[hj'],by simpa [hj'] using h1,by simpa [hj'] using h2.dropped⟩
theorem ev_load (hW:WRel G base s.H gh w) (hF:FR L nt gh w a s) {t:TypeId} {x:Operand} {y:IArg} {take agg:Bool} {sz:Nat} {z:AV} (hc:compArg nt x=some y) (hg:aggT P t=some agg) (hs:sizeT P t=some sz)
  (he:loadAV s take agg sz (y.addr G s.T)=some (z,none)) :
  ∃ v,(Instr.loadAt t (a.eval x)).run P w=.ok v w∧Val gh s.H.length nt w s.T s.gen (tmv a) v z:=by
 have hv:=arg_val hW hF hc
 have nt_take:∀ {n:Nat} {off:Nat} {cs:List AV} {v:AV},loadCellsAV take agg sz off cs=some v→(take&&!agg)=false→loadCellsAV false agg sz off cs=some v:=by
  intro n off cs v h1 h2
  cases take
  ·exact h1
  ·cases agg
   ·cases h2
   ·exact h1
 generalize hY:y.addr G s.T=Y at hv he
 cases Y<;>simp only[loadAV] at he<;>try (cases he;done)
 case eptr cs =>
  simp only[Option.map_eq_some_iff,Prod.mk.injEq,and_true] at he
  obtain⟨u,hu,rfl⟩:=he
  have hp:=VR.inv_eptr (hv:VR gh s.H.length w (a.eval x) (.eptr cs))
  generalize hA:a.eval x=V at hp
  cases hp with
  | eptr b o _ f hcell hrel =>
   obtain⟨v,h1,h2⟩:=load_cells (gh:=gh) (n:=s.H.length) hu hg hs (b:=b) (o:=o) (f:=f)
    (fun j x hx=>⟨(hcell j x hx).2.1,(hcell j x hx).2.2,VR.dropped (.plain _ _ (hrel j x hx))⟩)
   refine⟨v,?_,.of_VR h2⟩
   simpa [Instr.loadAt,Instr.sureAddr] using h1
 case ref loc off =>
  obtain⟨hlt,hax⟩:=VR.inv_ref (hv:VR gh s.H.length w (a.eval x) (.ref loc off))
  split at he
  ·rename_i ty0 cs hH
   simp only[Option.map_eq_some_iff,Prod.mk.injEq] at he
   obtain⟨u,hu,rfl,hn⟩:=he
   have hq:(take&&!agg)=false:=by cases h:(take&&!agg)<;>simp_all
   obtain⟨f,hf⟩:=box_cells (hW.boxes loc _ cs hH)
   obtain⟨v,h1,h2⟩:=load_cells (gh:=gh) (n:=s.H.length) (nt_take (n:=0) hu hq) hg hs (b:=gh.ρ loc) (o:=0) (f:=f) hf
   refine⟨v,?_,.of_VR h2⟩
   rw[hax]
   simpa [Instr.loadAt,Instr.sureAddr] using h1
  ·rename_i cs hH
   simp only[Option.map_eq_some_iff,Prod.mk.injEq,and_true] at he
   obtain⟨u,hu,rfl⟩:=he
   have hp:PR gh.S w (.pointer (some ⟨gh.ρ loc,0,none⟩)) (.eptr cs):=hW.more loc _ hH
   generalize hB:gh.ρ loc=b0 at hp hax
   cases hp with
   | eptr b o _ f hcell hrel =>
    obtain⟨v,h1,h2⟩:=load_cells (gh:=gh) (n:=s.H.length) hu hg hs (b:=b0) (o:=0) (f:=f)
     (fun j x hx=>⟨(hcell j x hx).2.1,(hcell j x hx).2.2,VR.dropped (.plain _ _ (hrel j x hx))⟩)
    refine⟨v,?_,.of_VR h2⟩
    rw[hax]
    simpa [Instr.loadAt,Instr.sureAddr] using h1
  ·rename_i cs hH
   simp only[Option.map_eq_some_iff,Prod.mk.injEq,and_true] at he
   obtain⟨u,hu,rfl⟩:=he
   obtain⟨f,hf⟩:=box_cells (hW.more loc _ hH:BoxAt gh s.H.length w (gh.ρ loc) (.hb loc) (fun j=>.hs loc j) cs)
   obtain⟨v,h1,h2⟩:=load_cells (gh:=gh) (n:=s.H.length) hu hg hs (b:=gh.ρ loc) (o:=0) (f:=f) hf
   refine⟨v,?_,.of_VR h2⟩
   rw[hax]
   simpa [Instr.loadAt,Instr.sureAddr] using h1
  ·cases he
 case lref b g off =>
  obtain⟨hb,hg0,hr⟩:=(hv:_∧_∧_)
  split at he
  ·rename_i g' cs hT
   obtain⟨h0,he2⟩:=cond_some he
   clear he
   have hgg:g=g':=by simpa [nbeq] using h0
   subst hgg
   rename _=some (z,none)=>he
   simp only[Option.map_eq_some_iff,Prod.mk.injEq] at he
   obtain⟨u,hu,rfl,hn⟩:=he
   have hq:(take&&!agg)=false:=by cases h:(take&&!agg)<;>simp_all
   obtain⟨k,hk,hbox⟩:=sr_lbox hF hb hT
   have hax:=hr (by rw[hT];rfl) k hk
   obtain⟨f,hf⟩:=box_cells hbox
   obtain⟨v,h1,h2⟩:=load_cells (gh:=gh) (n:=s.H.length) (nt_take (n:=0) hu hq) hg hs (b:=k) (o:=0) (f:=f) hf
   refine⟨v,?_,.of_VR h2⟩
   rw[hax]
   simpa [Instr.loadAt,Instr.sureAddr] using h1
  ·cases he
 case eref b g i zz off =>
  obtain⟨hb,hg0,hr⟩:=(hv:_∧_∧_)
  split at he
  ·rename_i g' e hT
   obtain⟨h0,he2⟩:=cond_some he
   clear he
   have hgg:g=g':=by simpa [nbeq] using h0
   subst hgg
   rename _=some (z,none)=>he
   simp only[Option.bind_eq_some_iff] at he
   obtain⟨r,hri,he⟩:=he
   obtain⟨h1,he⟩:=cond_some he
   have hz:r.length=zz:=by simpa [nbeq] using h1
   simp only[Option.map_eq_some_iff,Prod.mk.injEq,and_true] at he
   obtain⟨u,hu,rfl⟩:=he
   obtain⟨ad,cap,hv',hrow⟩:=sr_lsl hF hb hT
   rcases hrow with ⟨rfl,_⟩|⟨k,C,ty,sz',_,rfl,hκ,hS,hkb,hC,hl,hrl,hcs⟩
   ·simp at hri
   ·have hax:=hr (by rw[hT];rfl) k _ _ hv'
    have hsz:sz'=zz:=by rw[← hz,hrl i r hri]
    subst hsz
    obtain⟨v,h1,h2⟩:=load_cells (P:=P) (gh:=gh) (w:=w) (n:=s.H.length) hu hg hs (b:=k) (o:=i*sz') (f:=fun j=>C.getD (i*sz' + j) undef) (fun j x hx=>by
     obtain⟨u,hu1,hu2⟩:=hcs i j r x hri hx
     have hj:i*sz' + j<C.size:=(Array.getElem?_eq_some_iff.1 hu1).1
     have he2:C.getD (i*sz' + j) undef=u:=by
      rw[Array.getElem?_eq_getElem hj] at hu1
      injection hu1 with hu1
      simp[hj,hu1]
     rw[he2,cell_of_row w k _ C ty _ hkb,hu1]
     exact⟨rfl,hu2.oneCell,VR.dropped (.plain _ _ hu2)⟩)
    refine⟨v,?_,.of_VR h2⟩
    rw[hax]
    simpa [Instr.loadAt,Instr.sureAddr] using h1
  ·cases he
end
end Go.Abs
end
section
namespace Go.Abs
set_option linter.unusedSimpArgs false
set_option linter.unusedVariables false
section
variable {P:Program} {G:Nat→List AV} {base nt:Nat} {L:List Nat} {gh:Gh} {w:World} {a:Act} {s:AS}
theorem live_ptr (hF:FR L nt gh w a s) {v:Value} {z:AV} (hv:Val gh s.H.length nt w s.T s.gen (tmv a) v z) (hl:liveAddr s z=true) :
  ∃ b o,v=.pointer (some ⟨b,o,none⟩):=by
 cases z<;>simp only[liveAddr,Bool.false_eq_true] at hl
 case eptr cs =>
  have hp:=VR.inv_eptr (hv:VR gh s.H.length w v (.eptr cs))
  cases hp;exact⟨_,_,rfl⟩
 case ref loc off=>exact⟨_,_,(VR.inv_ref (hv:VR gh s.H.length w v (.ref loc off))).2⟩
 case lref b g off =>
  obtain⟨hb,hg,hr⟩:=(hv:_∧_∧_)
  split at hl
  ·rename_i g' cs hT
   have hgg:g=g':=by simpa [nbeq] using hl
   obtain⟨k,hk,_⟩:=sr_lbox hF hb hT
   exact⟨_,_,hr (by rw[hT,hgg];rfl) k hk⟩
  ·cases hl
 case eref b g i zz off =>
  obtain⟨hb,hg,hr⟩:=(hv:_∧_∧_)
  split at hl
  ·rename_i g' e hT
   obtain⟨h1,h2⟩:=by simpa [nbeq,Nat.blt_eq] using hl
   obtain⟨ad,cap,hv',hrow⟩:=sr_lsl hF hb hT
   rcases hrow with ⟨rfl,_⟩|⟨k,_,_,_,_,rfl,_⟩
   ·simp at h2
   ·exact⟨_,_,hr (by rw[hT,h1];rfl) k _ _ hv'⟩
  ·cases hl
theorem ev_nilCheck (hW:WRel G base s.H gh w) (hF:FR L nt gh w a s) {o:Oper} {x:Operand} {y:IArg} (ho:o.op=.nilCheck x) (hc:compArg nt x=some y) (hl:liveAddr s (y.addr G s.T)=true) :
  ∃ v,(execOp a.eval o).run P w=.ok (.value v) w∧Val gh s.H.length nt w s.T s.gen (tmv a) v (y.addr G s.T):=by
 have hv:=arg_val hW hF hc
 have hd:(y.addr G s.T).drop=y.addr G s.T:=by cases hz:y.addr G s.T<;>rw[hz] at hl<;>first|rfl|(simp[liveAddr] at hl)
 rw[hd] at hv
 obtain⟨b,of,hp⟩:=live_ptr hF hv hl
 refine⟨a.eval x,?_,hv⟩
 simp[execOp,ho,hp]
theorem off_val (hF:FR L nt gh w a s) {v:Value} {z z' : AV} (hv:Val gh s.H.length nt w s.T s.gen (tmv a) v z) (hl:liveAddr s z=true) {off:Nat} (ho:offAddr off z=some z') :
  ∃ b o,v=.pointer (some ⟨b,o,none⟩)∧Val gh s.H.length nt w s.T s.gen (tmv a) (.pointer (some ⟨b,o+off,none⟩)) z':=by
 cases z<;>simp only[offAddr,Option.some.injEq,reduceCtorEq] at ho<;>subst ho
 case eptr cs =>
  have hp:=VR.inv_eptr (hv:VR gh s.H.length w v (.eptr cs))
  cases hp with
  | eptr b o _ f hcell hrel =>
   refine⟨b,o,rfl,.of_VR (.plain _ _ (.eptr b (o+off) _ (fun j=>f (off+j)) ?_ ?_))⟩
   ·intro j x hx
    rw[List.getElem?_drop] at hx
    have:=hcell (off+j) x hx
    rw[Nat.add_assoc]
    exact this
   ·intro j x hx
    rw[List.getElem?_drop] at hx
    exact hrel (off+j) x hx
 case ref loc of =>
  obtain⟨hlt,rfl⟩:=VR.inv_ref (hv:VR gh s.H.length w v (.ref loc of))
  exact⟨_,_,rfl,.of_VR (.ref loc (of+off) hlt)⟩
 case lref b g of =>
  obtain⟨k,o,rfl⟩:=live_ptr hF hv hl
  obtain⟨hb,hg,hr⟩:=(hv:_∧_∧_)
  refine⟨k,o,rfl,hb,hg,fun h1 b' h2=>?_⟩
  have:=hr h1 b' h2
  injection this with this;injection this with this;injection this with e1 e2
  rw[e1,e2]
 case eref b g i zz of =>
  obtain⟨k,o,rfl⟩:=live_ptr hF hv hl
  obtain⟨hb,hg,hr⟩:=(hv:_∧_∧_)
  refine⟨k,o,rfl,hb,hg,fun h1 b' c1 c2 h2=>?_⟩
  have:=hr h1 b' c1 c2 h2
  injection this with this;injection this with this;injection this with e1 e2
  rw[e1,e2,Nat.add_assoc]
theorem live_drop {z:AV} (hl:liveAddr s z=true):z.drop=z:=by cases z<;>first|rfl|(simp[liveAddr] at hl)
theorem ev_fieldAddr (hW:WRel G base s.H gh w) (hF:FR L nt gh w a s) {o:Oper} {t:TypeId} {x:Operand} {f:Nat} {y:IArg} {fs:Array Go.Field} {q:Go.Field} {sz:Nat} {z:AV}
  (ho:o.op=.fieldAddr t x f) (hc:compArg nt x=some y) (hu:P.underlying t=some (.struct fs)) (hq:fs[f]?=some q) (hs:sizeT P q.type=some sz) (h0:0<sz)
  (hl:liveAddr s (y.addr G s.T)=true) (he:offAddr q.offset (y.addr G s.T)=some z) :
  ∃ v,(execOp a.eval o).run P w=.ok (.value v) w∧Val gh s.H.length nt w s.T s.gen (tmv a) v z:=by
 have hv:=arg_val hW hF hc
 rw[live_drop hl] at hv
 obtain⟨b,of,hp,hv'⟩:=off_val hF hv hl he
 refine⟨_,?_,hv'⟩
 have hne:¬ sz=0:=by omega
 simp[execOp,ho,hp,Instr.fieldAt,run_underlying hu,hq,Instr.sureAddr,fieldPlace,run_sizeOf' hs,hne,addr_add]
theorem ev_ixArr (hW:WRel G base s.H gh w) (hF:FR L nt gh w a s) {o:Oper} {t e:TypeId} {x i:Operand} {n sz k:Nat} {y yi:IArg} {z:AV}
  (ho:o.op=.indexAddr t x i) (hc:compArg nt x=some y) (hi:compArg nt i=some yi) (hu:P.underlying t=some (.array n e)) (hs:sizeT P e=some sz)
  (hk:asNat (yi.eval G s.T)=some k) (hkn:k<n) (hl:liveAddr s (y.addr G s.T)=true) (he:offAddr (k*sz) (y.addr G s.T)=some z) :
  ∃ v,(execOp a.eval o).run P w=.ok (.value v) w∧Val gh s.H.length nt w s.T s.gen (tmv a) v z:=by
 have hv:=arg_val hW hF hc
 rw[live_drop hl] at hv
 obtain⟨b,of,hp,hv'⟩:=off_val hF hv hl he
 obtain⟨kd,hik⟩:=asNat_inv hW hF hi hk
 refine⟨_,?_,hv'⟩
 have h1:k<n:=hkn
 simp[execOp,ho,hp,hik,Instr.indexAt,asIntOf,run_underlying hu,Instr.sureAddr,run_sizeOf' hs,h1,addr_add]
theorem ev_ixSl (hW:WRel G base s.H gh w) (hF:FR L nt gh w a s) {o:Oper} {t e:TypeId} {x i:Operand} {sz k:Nat} {y yi:IArg} {el:List (List AV)} {own:Bool} {r:List AV}
  (ho:o.op=.indexAddr t x i) (hc:compArg nt x=some y) (hi:compArg nt i=some yi) (hu:P.underlying t=some (.slice e)) (hs:sizeT P e=some sz)
  (hk:asNat (yi.eval G s.T)=some k) (hy:y.addr G s.T=.slice el own) (hr:el[k]?=some r) (hrl:r.length=sz) :
  ∃ v,(execOp a.eval o).run P w=.ok (.value v) w∧Val gh s.H.length nt w s.T s.gen (tmv a) v (.eptr r):=by
 have hv:=VR.inv_slice (arg_VR' hW hF hc hy rfl)
 obtain⟨kd,hik⟩:=asNat_inv hW hF hi hk
 generalize hA:a.eval x=V at hv
 cases hv with
 | sliceNil=>simp at hr
 | slice b of n cap sz' _ f hn hcap hrow hcell hrel =>
  have hkl:k<el.length:=(List.getElem?_eq_some_iff.1 hr).1
  have hsz:sz'=sz:=by rw[← hrl,hrow k r hr]
  subst hsz
  refine⟨.pointer (some ⟨b,of+k*sz',none⟩),?_,.of_VR (.plain _ _ (.eptr b (of+k*sz') r (f k) (fun j x hx=>hcell k j r x hr hx) (fun j x hx=>hrel k j r x hr hx)))⟩
  have h1:k<n:=by omega
  simp[execOp,ho,hA,hik,Instr.indexAt,asIntOf,run_underlying hu,run_sizeOf' hs,h1,addr_add]
theorem ev_ixSref (hW:WRel G base s.H gh w) (hF:FR L nt gh w a s) {o:Oper} {t e:TypeId} {x i:Operand} {sz k l of m zz:Nat} {y yi:IArg}
  (ho:o.op=.indexAddr t x i) (hc:compArg nt x=some y) (hi:compArg nt i=some yi) (hu:P.underlying t=some (.slice e)) (hs:sizeT P e=some sz)
  (hk:asNat (yi.eval G s.T)=some k) (hy:y.addr G s.T=.sref l of m zz) (hkm:k<m) :
  ∃ v,(execOp a.eval o).run P w=.ok (.value v) w∧Val gh s.H.length nt w s.T s.gen (tmv a) v (.ref l (of+k*sz)):=by
 obtain⟨hlt,cap,_,_,hA⟩:=VR.inv_sref (arg_VR' hW hF hc hy rfl)
 obtain⟨kd,hik⟩:=asNat_inv hW hF hi hk
 refine⟨.pointer (some ⟨gh.ρ l,of+k*sz,none⟩),?_,.of_VR (.ref l (of+k*sz) hlt)⟩
 simp[execOp,ho,hA,hik,Instr.indexAt,asIntOf,run_underlying hu,run_sizeOf' hs,hkm,addr_add]
theorem ev_ixLsr (hW:WRel G base s.H gh w) (hF:FR L nt gh w a s) {o:Oper} {t e:TypeId} {x i:Operand} {sz k b g:Nat} {y yi:IArg} {el:List (List AV)} {r:List AV}
  (ho:o.op=.indexAddr t x i) (hc:compArg nt x=some y) (hi:compArg nt i=some yi) (hu:P.underlying t=some (.slice e)) (hs:sizeT P e=some sz)
  (hk:asNat (yi.eval G s.T)=some k) (hy:y.addr G s.T=.lsr b g) (hT:s.T b=.lsl g el) (hr:el[k]?=some r) (hrl:r.length=sz) :
  ∃ v,(execOp a.eval o).run P w=.ok (.value v) w∧Val gh s.H.length nt w s.T s.gen (tmv a) v (.eref b g k sz 0):=by
 have hv:=arg_val hW hF hc
 rw[hy] at hv
 obtain⟨hb,hg,hrr⟩:=(hv:_∧_∧_)
 obtain⟨kd,hik⟩:=asNat_inv hW hF hi hk
 have hax:=hrr (by rw[hT];rfl)
 have hkl:k<el.length:=(List.getElem?_eq_some_iff.1 hr).1
 obtain⟨ad,cap,hv',hrow⟩:=sr_lsl hF hb hT
 rcases hrow with ⟨rfl,_⟩|⟨c,C,ty,sz',_,rfl,hκ,hS,hkb,hC,hl,hrw,hcs⟩
 ·simp at hr
 ·have h1:k<el.length:=hkl
  refine⟨.pointer (some ⟨c,k*sz,none⟩),?_,hb,hg,fun _ b' c1 c2 h2=>?_⟩
  ·simp[execOp,ho,hax,hv',hik,Instr.indexAt,asIntOf,run_underlying hu,run_sizeOf' hs,h1,addr_add]
  ·rw[hv'] at h2
   injection h2 with h2 _ _
   injection h2 with h2
   injection h2 with h2
   subst h2;simp
theorem ev_pick (hW:WRel G base s.H gh w) (hF:FR L nt gh w a s) {o:Oper} {c x y:Operand} {ic ix iy:IArg} {t:Bool}
  (ho:o.op=.pick c x y) (hc:compArg nt c=some ic) (hx:compArg nt x=some ix) (hy:compArg nt y=some iy) (ht:ic.eval G s.T=.bool t) :
  ∃ v,(execOp a.eval o).run P w=.ok (.value v) w∧Val gh s.H.length nt w s.T s.gen (tmv a) v (cond t (ix.addr G s.T).drop (iy.addr G s.T).drop):=by
 have hb:=(arg_VR hW hF hc ht rfl).inv_bool
 have h1:=arg_val hW hF hx
 have h2:=arg_val hW hF hy
 cases t
 ·exact⟨_,by simp[execOp,ho,hb,asBool],h2⟩
 ·exact⟨_,by simp[execOp,ho,hb,asBool],h1⟩
theorem ev_un (hW:WRel G base s.H gh w) (hF:FR L nt gh w a s) {o:Oper} {op:UnOp} {t:TypeId} {x:Operand} {ix:IArg} {z:AV}
  (ho:o.op=.unOp op t x) (hc:compArg nt x=some ix) (he:unAV op (ix.eval G s.T)=some z) :
  ∃ v,(execOp a.eval o).run P w=.ok (.value v) w∧Val gh s.H.length nt w s.T s.gen (tmv a) v z:=by
 generalize hz:ix.eval G s.T=X at he
 unfold unAV at he
 split at he<;>first|(injection he with he;subst he)|cases he
 ·have hv:=(arg_VR hW hF hc hz rfl).inv_int
  exact⟨_,by simp[execOp,ho,hv,Op.unary,Op.intArith],.of_VR (.plain _ _ (.int _ _))⟩
 ·have hv:=(arg_VR hW hF hc hz rfl).inv_bool
  exact⟨_,by simp[execOp,ho,hv,Op.unary],.of_VR (.plain _ _ (.bool _))⟩
theorem ev_toInt (hW:WRel G base s.H gh w) (hF:FR L nt gh w a s) {o:Oper} {st dt:TypeId} {x:Operand} {ix:IArg} {k k' : IntKind} {z:AV}
  (ho:o.op=.convert st dt x) (hc:compArg nt x=some ix) (hs:P.underlying st=some (.int k')) (hd:P.underlying dt=some (.int k)) (he:convAV (.toInt k) (ix.eval G s.T)=some z) :
  ∃ v,(execOp a.eval o).run P w=.ok (.value v) w∧Val gh s.H.length nt w s.T s.gen (tmv a) v z:=by
 generalize hz:ix.eval G s.T=X at he
 cases X<;>simp[convAV] at he
 subst he
 have hv:=(arg_VR hW hF hc hz rfl).inv_int
 exact⟨_,by simp[execOp,ho,hv,convert,run_underlying hs,run_underlying hd,Conv.intToInt],.of_VR (.plain _ _ (.int _ _))⟩
theorem ev_strSame (hW:WRel G base s.H gh w) (hF:FR L nt gh w a s) {o:Oper} {st dt:TypeId} {x:Operand} {ix:IArg} {z:AV}
  (ho:o.op=.convert st dt x) (hc:compArg nt x=some ix) (hs:P.underlying st=some .string) (hd:P.underlying dt=some .string) (he:convAV .strSame (ix.eval G s.T)=some z) :
  ∃ v,(execOp a.eval o).run P w=.ok (.value v) w∧Val gh s.H.length nt w s.T s.gen (tmv a) v z:=by
 generalize hz:ix.eval G s.T=X at he
 cases X<;>simp[convAV] at he
 subst he
 obtain⟨b,hv,hl⟩:=(arg_VR hW hF hc hz rfl).inv_str
 exact⟨_,by simp[execOp,ho,hv,convert,run_underlying hs,run_underlying hd],.of_VR (.plain _ _ (.str _ _ hl))⟩
theorem foldl_push (ns:List Int):∀ s:ByteArray,(ns.foldl (fun r n=>r.push (UInt8.ofNat n.toNat)) s).data.toList=s.data.toList++ns.map fun n=>UInt8.ofNat n.toNat:=by
 induction ns with
 | nil=>intro s;simp
 | cons n ns ih=>intro s;rw[List.foldl_cons,ih];simp[ByteArray.push]
theorem bytesOf_inv:∀ {e:List (List AV)} {l:List UInt8},bytesOf e=some l→∃ ns:List Int,e=ns.map (fun n=>[AV.int .u8 n])∧l=ns.map fun n=>UInt8.ofNat n.toNat
 | [],l,h=>by simp[bytesOf] at h;exact⟨[],rfl,by simp[h]⟩
 | r :: e,l,h=>by
  unfold bytesOf at h
  split at h
  ·rename_i hh;cases hh
  ·rename_i n r' heq
   injection heq with h1 h2
   subst h1 h2
   simp only[Option.map_eq_some_iff] at h
   obtain⟨l',hl',rfl⟩:=h
   obtain⟨ns,rfl,rfl⟩:=bytesOf_inv hl'
   exact⟨n :: ns,rfl,rfl⟩
  ·cases h
theorem run_bytes {n0:Nat} {V:Value} {ns:List Int} (hv:PR gh.S w V (.slice (ns.map fun n=>[AV.int .u8 n]) false)) :
  ∃ q:ByteArray,(Conv.bytesToString V).run P w=.ok (.string q) w∧q.data.toList=ns.map (fun n=>UInt8.ofNat n.toNat)∧∃ b c d,V=.slice b c d:=by
 generalize hE:(ns.map fun n=>[AV.int .u8 n])=E at hv
 cases hv with
 | sliceNil =>
  have:ns=[]:=by simpa using hE
  subst this
  exact⟨ByteArray.empty,by simp[Conv.bytesToString],rfl,_,_,_,rfl⟩
 | slice b of n cap sz' _ f hn hcap hrow hcell hrel =>
  subst hE
  have hlen:n=ns.length:=by rw[← hn];simp
  have hload:(loadCells ⟨b,of,none⟩ n).run P w=.ok (ns.map (Value.int .u8)).toArray w:=by
   have:=run_loadCells_list (P:=P) w ⟨b,of,none⟩ (ns.map (Value.int .u8)) (fun j v hj=>by
    simp only[List.getElem?_map,Option.map_eq_some_iff] at hj
    obtain⟨m,hm,rfl⟩:=hj
    have hr:(ns.map fun n=>[AV.int .u8 n])[j]?=some [AV.int .u8 m]:=by simp[hm]
    have hs1:sz'=1:=by rw[← hrow j _ hr];rfl
    subst hs1
    obtain⟨_,h1,_⟩:=hcell j 0 _ _ hr rfl
    have h2:=hrel j 0 _ _ hr rfl
    have h3:f j 0=.int .u8 m:=by generalize f j 0=F at h2;cases h2;rfl
    rw[addr_add,← h3,← h1];simp)
   rw[List.length_map,← hlen] at this
   exact this
  refine⟨_,run_bytesToString w _ n cap ns hload,?_,_,_,_,rfl⟩
  rw[foldl_push];simp[ByteArray.empty,ByteArray.emptyWithCapacity];rfl
theorem ev_bytesStr (hW:WRel G base s.H gh w) (hF:FR L nt gh w a s) {o:Oper} {st dt e:TypeId} {x:Operand} {ix:IArg} {z:AV}
  (ho:o.op=.convert st dt x) (hc:compArg nt x=some ix) (hs:P.underlying st=some (.slice e)) (hE:P.underlying e=some (.int .u8)) (hd:P.underlying dt=some .string) (he:convAV .bytesStr (ix.eval G s.T)=some z) :
  ∃ v,(execOp a.eval o).run P w=.ok (.value v) w∧Val gh s.H.length nt w s.T s.gen (tmv a) v z:=by
 generalize hz:ix.eval G s.T=X at he
 cases X<;>simp only[convAV,reduceCtorEq,Option.map_eq_some_iff] at he
 obtain⟨l,hl,rfl⟩:=he
 obtain⟨ns,rfl,rfl⟩:=bytesOf_inv hl
 have hv:=VR.inv_slice (arg_VR hW hF hc hz rfl)
 obtain⟨q,h1,h2,b,c,d,hV⟩:=run_bytes (P:=P) (n0:=0) hv
 refine⟨.string q,?_,.of_VR (.plain _ _ (.str _ _ h2))⟩
 have h3:(convert st dt (a.eval x)).run P w=.ok (.string q) w:=by rw[hV] at h1 ⊢;rw[run_convert_bytes_string w st dt e b c d hs hE hd,h1]
 simp[execOp,ho,h3]
end
end Go.Abs
end
section
namespace Go.Abs
set_option linter.unusedSimpArgs false
set_option linter.unusedVariables false
section
variable {P:Program} {G:Nat→List AV} {base nt:Nat} {L:List Nat} {gh:Gh} {w:World} {a:Act} {s:AS}
theorem plain_frame {x:AV} (h:x.plain=true):frameCell x=true:=by cases x<;>first|rfl|(simp[AV.plain] at h)
theorem ev_mkiface (hW:WRel G base s.H gh w) (hF:FR L nt gh w a s) {o:Oper} {t:TypeId} {x:Operand} {ix:IArg} {z:AV}
  (ho:o.op=.makeInterface t x) (hc:compArg nt x=some ix) (hd:∃ d,P.underlying t=some d∧∀ m,d≠.interface m) (he:mkifaceAV t (ix.eval G s.T)=some z) :
  ∃ v,(execOp a.eval o).run P w=.ok (.value v) w∧Val gh s.H.length nt w s.T s.gen (tmv a) v z:=by
 generalize hz:ix.eval G s.T=X at he
 unfold mkifaceAV at he
 obtain⟨h0,h1⟩:=cond_some he
 injection h1 with h1
 subst h1
 have hf:frameCell X=true:=by
  rcases Bool.or_eq_true_iff.1 h0 with h|h
  ·rw[← frameCell_drop];exact plain_frame h
  ·cases X<;>first|rfl|(simp at h)
 have hv:=arg_VR hW hF hc hz hf
 obtain⟨d,hd,hn⟩:=hd
 have hcon:P.concrete t=true:=by unfold Program.concrete;rw[hd];cases d<;>first|rfl|exact absurd rfl (hn _)
 exact⟨_,by simp[execOp,ho,run_makeInterface w t _ hcon],.of_VR (.iface _ _ _ hv)⟩
theorem part_agg {n:Nat} {agg:Bool} {sz off:Nat} {xs:List AV} {z:AV} (hl:loadCellsAV false agg sz off xs=some z) {t:TypeId} (hg:aggT P t=some agg) (hs:sizeT P t=some sz)
  {cs:Array Value} (hsz:cs.size=xs.length) (hone:∀ (j:Nat) (v:Value),cs[j]?=some v→v.oneCell'=true)
  (h:∀ (j:Nat) (v:Value) (x:AV),cs[j]?=some v→xs[j]?=some x→VR gh n w v x) :
  ∃ v,(part t cs off).run P w=.ok v w∧VR gh n w v z:=by
 unfold loadCellsAV at hl
 cases agg
 ·simp only[cond_false,Option.map_eq_some_iff] at hl
  obtain⟨x,hx,rfl⟩:=hl
  have hj:off<cs.size:=by rw[hsz];exact (List.getElem?_eq_some_iff.1 hx).1
  have hv:cs[off]?=some cs[off]:=Array.getElem?_eq_getElem hj
  exact⟨cs[off],by simp[part,run_isAgg' hg,hv],VR.dropped (h off _ x hv hx)⟩
 ·simp only[cond_true] at hl
  obtain⟨h0,h1⟩:=cond_some hl
  have h0' : off+sz≤xs.length:=by simpa [Nat.ble_eq] using h0
  injection h1 with h1
  subst h1
  refine⟨.agg (cs.extract off (off+sz)),by simp[part,run_isAgg' hg,run_sizeOf' hs],.agg _ _ (by simp;omega) ?_ ?_⟩
  ·intro j v hj
   rw[Array.getElem?_extract] at hj
   split at hj
   ·exact hone _ v hj
   ·cases hj
  ·intro j v x hj hx
   rw[Array.getElem?_extract] at hj
   split at hj
   ·rename_i hlt
    simp only[List.getElem?_map,Option.map_eq_some_iff] at hx
    obtain⟨y,hy,rfl⟩:=hx
    rw[List.getElem?_take,List.getElem?_drop] at hy
    split at hy
    ·exact VR.dropped (h _ v y hj hy)
    ·cases hy
   ·cases hj
theorem ev_field (hW:WRel G base s.H gh w) (hF:FR L nt gh w a s) {o:Oper} {t:TypeId} {x:Operand} {f:Nat} {ix:IArg} {fs:Array Go.Field} {q:Go.Field} {agg:Bool} {sz:Nat} {xs:List AV} {z:AV}
  (ho:o.op=.field t x f) (hc:compArg nt x=some ix) (hu:P.underlying t=some (.struct fs)) (hq:fs[f]?=some q) (hs:sizeT P q.type=some sz) (hg:aggT P q.type=some agg)
  (hz:ix.eval G s.T=.agg xs) (he:loadCellsAV false agg sz q.offset xs=some z) :
  ∃ v,(execOp a.eval o).run P w=.ok (.value v) w∧Val gh s.H.length nt w s.T s.gen (tmv a) v z:=by
 obtain⟨cs,hA,hsz,hone,h⟩:=(arg_VR hW hF hc hz rfl).inv_agg
 obtain⟨v,h1,h2⟩:=part_agg he hg hs hsz hone h
 exact⟨v,by simp[execOp,ho,hA,Instr.field,run_underlying hu,hq,asAgg,h1],.of_VR h2⟩
theorem ev_index (hW:WRel G base s.H gh w) (hF:FR L nt gh w a s) {o:Oper} {t e:TypeId} {x i:Operand} {n sz k:Nat} {ix ii:IArg} {agg:Bool} {xs:List AV} {z:AV}
  (ho:o.op=.index t x i) (hc:compArg nt x=some ix) (hi:compArg nt i=some ii) (hu:P.underlying t=some (.array n e)) (hs:sizeT P e=some sz) (hg:aggT P e=some agg)
  (hk:asNat (ii.eval G s.T)=some k) (hkn:k<n) (hz:ix.eval G s.T=.agg xs) (he:loadCellsAV false agg sz (k*sz) xs=some z) :
  ∃ v,(execOp a.eval o).run P w=.ok (.value v) w∧Val gh s.H.length nt w s.T s.gen (tmv a) v z:=by
 obtain⟨cs,hA,hsz,hone,h⟩:=(arg_VR hW hF hc hz rfl).inv_agg
 obtain⟨kd,hik⟩:=asNat_inv hW hF hi hk
 obtain⟨v,h1,h2⟩:=part_agg he hg hs hsz hone h
 exact⟨v,by simp[execOp,ho,hA,hik,Instr.index,asIntOf,run_underlying hu,run_sizeOf' hs,hkn,h1],.of_VR h2⟩
theorem ev_indexStr (hW:WRel G base s.H gh w) (hF:FR L nt gh w a s) {o:Oper} {t:TypeId} {x i:Operand} {k:Nat} {ix ii:IArg} {l:List UInt8} {b:UInt8}
  (ho:o.op=.index t x i) (hc:compArg nt x=some ix) (hi:compArg nt i=some ii) (hu:P.underlying t=some .string)
  (hk:asNat (ii.eval G s.T)=some k) (hz:ix.eval G s.T=.str l) (hb:l[k]?=some b) :
  ∃ v,(execOp a.eval o).run P w=.ok (.value v) w∧Val gh s.H.length nt w s.T s.gen (tmv a) v (.int .u8 b.toNat):=by
 obtain⟨q,hA,hl⟩:=(arg_VR hW hF hc hz rfl).inv_str
 obtain⟨kd,hik⟩:=asNat_inv hW hF hi hk
 have hq:q[k]?=some b:=by
  obtain⟨⟨d⟩⟩:=q
  simp at hl;subst hl
  have hkl:=(List.getElem?_eq_some_iff.1 hb).1
  have hks:k<(ByteArray.mk ⟨d⟩).size:=hkl
  rw[ByteArray.getElem?_lt' _ _ hks]
  rw[List.getElem?_eq_getElem hkl] at hb
  exact hb
 exact⟨_,by simp[execOp,ho,hA,hik,Instr.index,asIntOf,run_underlying hu,hq],.of_VR (.plain _ _ (.int _ _))⟩
theorem VR.droppedAll {n:Nat} {v:Value} {x:AV} (h:VR gh n w v x):VR gh n w v x.dropAll:=by
 cases x<;>try exact VR.dropped h
 obtain⟨cs,rfl,hs,hone,h⟩:=h.inv_agg
 refine .agg _ _ (by simp[hs]) hone fun j v x hj hx=>?_
 simp only[List.getElem?_map,Option.map_eq_some_iff] at hx
 obtain⟨y,hy,rfl⟩:=hx
 exact VR.dropped (h j v y hj hy)
theorem ev_extract (hW:WRel G base s.H gh w) (hF:FR L nt gh w a s) {o:Oper} {x:Operand} {i:Nat} {ix:IArg} {vs:List AV} {z:AV}
  (ho:o.op=.extract x i) (hc:compArg nt x=some ix) (hz:ix.eval G s.T=.tuple vs) (hi:vs[i]?=some z) :
  ∃ v,(execOp a.eval o).run P w=.ok (.value v) w∧Val gh s.H.length nt w s.T s.gen (tmv a) v z.dropAll:=by
 obtain⟨us,hA,hsz,h⟩:=(arg_VR hW hF hc hz rfl).inv_tuple
 have hj:i<us.size:=by rw[hsz];exact (List.getElem?_eq_some_iff.1 hi).1
 have hv:us[i]?=some us[i]:=Array.getElem?_eq_getElem hj
 exact⟨us[i],by simp[execOp,ho,hA,Instr.extract,hv],.of_VR (VR.droppedAll (h i _ z hv hi))⟩
theorem ev_lenV {t:TypeId} {k:LenKind} {V:Value} {X z:AV} {n:Nat} (hv:VR gh n w V X.drop) (ht:match k with|.str=>P.underlying t=some .string|.sl=>∃ e,P.underlying t=some (.slice e)|.arr m=>∃ e,P.underlying t=some (.array m e))
  (he:lenAV k X=some z) (ty:TypeId):∃ v,(Builtin.len_ #[t] ty #[V]).run P w=.ok v w∧VR gh n w v z:=by
 cases k<;>cases X<;>simp only[lenAV,Option.some.injEq,reduceCtorEq] at he<;>subst he
 case str.str l =>
  obtain⟨q,rfl,rfl⟩:=hv.inv_str
  refine⟨.int .i64 q.size,by simp[Builtin.len_,run_underlying ht,goInt],?_⟩
  exact .plain _ _ (by rw[show (q.data.toList.length:Int)=(q.size:Int) by simp];exact .int _ _)
 case sl.slice el own =>
  obtain⟨e,ht⟩:=ht
  have hp:=hv.inv_slice
  cases hp with
  | sliceNil=>exact⟨.int .i64 0,by simp[Builtin.len_,run_underlying ht,goInt],.plain _ _ (.int _ _)⟩
  | slice b of m cap sz _ f hn hcap hrow hcell hrel=>exact⟨.int .i64 el.length,by simp[Builtin.len_,run_underlying ht,goInt,hn],.plain _ _ (.int _ _)⟩
 case sl.sref loc off m zz =>
  obtain⟨e,ht⟩:=ht
  obtain⟨_,cap,_,_,rfl⟩:=hv.inv_sref
  exact⟨.int .i64 m,by simp[Builtin.len_,run_underlying ht,goInt],.plain _ _ (.int _ _)⟩
 case sl.nilsl =>
  obtain⟨e,ht⟩:=ht
  have hp:=hv.inv_nilsl
  subst hp
  exact⟨.int .i64 0,by simp[Builtin.len_,run_underlying ht,goInt],.plain _ _ (.int _ _)⟩
 all_goals
  obtain⟨e,ht⟩:=ht
  exact⟨.int .i64 _,by simp[Builtin.len_,run_underlying ht,goInt],.plain _ _ (.int _ _)⟩
theorem compArgs_inv:∀ {xs:List Operand} {ys:List IArg},compArgs nt xs=some ys→xs.length=ys.length∧∀ (j:Nat) (x:Operand) (y:IArg),xs[j]?=some x→ys[j]?=some y→compArg nt x=some y
 | [],ys,h=>by simp[compArgs] at h;subst h;exact⟨rfl,fun j x y h=>by simp at h⟩
 | x :: r,ys,h=>by
  simp only[compArgs,Option.bind_eq_some_iff,Option.map_eq_some_iff] at h
  obtain⟨y,hy,zs,hz,rfl⟩:=h
  obtain⟨h1,h2⟩:=compArgs_inv hz
  refine⟨by simp[h1],fun j u v hu hv=>?_⟩
  cases j with
  | zero=>simp at hu hv;subst hu hv;exact hy
  | succ j=>exact h2 j u v (by simpa using hu) (by simpa using hv)
theorem args_VR (hW:WRel G base s.H gh w) (hF:FR L nt gh w a s) {xs:List Operand} {ys:List IArg} (hc:compArgs nt xs=some ys) (hf:(ys.map fun y=>y.addr G s.T).all frameCell=true) :
  ∀ (j:Nat) (v:Value) (x:AV),(xs.map a.eval)[j]?=some v→(ys.map fun y=>(y.addr G s.T).drop)[j]?=some x→VR gh s.H.length w v x:=by
 obtain⟨hl,h⟩:=compArgs_inv hc
 intro j v x hj hx
 simp only[List.getElem?_map,Option.map_eq_some_iff] at hj hx
 obtain⟨o,ho,rfl⟩:=hj
 obtain⟨y,hy,rfl⟩:=hx
 have hfy:frameCell (y.addr G s.T)=true:=List.all_eq_true.1 hf _ (List.mem_map.2 ⟨y,List.mem_of_getElem? hy,rfl⟩)
 exact arg_VR' hW hF (h j o y ho hy) rfl hfy
theorem ev_mkfunc (hW:WRel G base s.H gh w) (hF:FR L nt gh w a s) {o:Oper} {f:Fn} {fs cs:Array Operand} {ifs ics:List IArg}
  (ho:o.op=.makeFunc f fs cs) (h1:compArgs nt fs.toList=some ifs) (h2:compArgs nt cs.toList=some ics)
  (hf1:(ifs.map fun y=>y.addr G s.T).all frameCell=true) (hf2:(ics.map fun y=>y.addr G s.T).all frameCell=true) :
  ∃ v,(execOp a.eval o).run P w=.ok (.value v) w∧Val gh s.H.length nt w s.T s.gen (tmv a) v (.func f (ifs.map fun y=>(y.addr G s.T).drop) (ics.map fun y=>(y.addr G s.T).drop)):=by
 refine⟨.func f (fs.map a.eval) (cs.map a.eval),by simp[execOp,ho,Instr.makeFunc],.of_VR (.func _ _ _ _ _ ?_ ?_ ?_ ?_)⟩
 ·simpa using (compArgs_inv h1).1
 ·simpa using (compArgs_inv h2).1
 ·intro j v x hj hx
  exact args_VR hW hF h1 hf1 j v x (by simpa using hj) hx
 ·intro j v x hj hx
  exact args_VR hW hF h2 hf2 j v x (by simpa using hj) hx
end
end Go.Abs
end
