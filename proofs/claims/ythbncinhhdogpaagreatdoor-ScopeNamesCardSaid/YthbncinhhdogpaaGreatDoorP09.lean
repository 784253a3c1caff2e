/-
  A part of the proof of ScopeNames: AbsAll, AbsStab, AbsVar, AbsIrV, AbsProgV, AbsLaidV, AbsLibV.
-/
import Derived.Test.YthbncinhhdogpaaGreatDoorProg
import Derived.KernelRfl
import Derived.Shelf.Small.Strs
import Derived.Shelf.Strings.Search1
import Derived.Ground.NamesProg
import Derived.Test.YthbncinhhdogpaaGreatDoorChecked
import Derived.Shelf.Lay
import Derived.Test.YthbncinhhdogpaaGreatDoorP08
set_option linter.unusedSimpArgs false
set_option linter.unusedVariables false
set_option linter.defProp false
set_option maxRecDepth 100000
namespace Go.Abs
section
def x9{α:Type}(x:α):List α->List (List α)
 | []=>[[x]]
 | y :: l=>(x :: y :: l) :: (x9 x l).map (y :: ·)
def perms{α:Type} : List α->List (List α)
 | []=>[[]]
 | x :: l=>(perms l).flatMap (x9 x)
theorem yA{α:Type}(x:α):∀ (a b:List α),a++x :: b∈x9 x (a++b)
 | [],b=>by cases b<;>simp[x9]
 | y :: a,b=>by
  simp only[apj,x9,ao8,apu]
  exact .inr ⟨_,yA x a b,rfl⟩
theorem AY{α:Type} : ∀ {l m:List α},l.Perm m->m∈perms l
 | [],m,h=>by
  have:m=[]:=List.Perm.eq_nil h.symm
  rw[this];simp[perms]
 | x :: l,m,h=>by
  have hx:x∈m:=h.mem_iff.1 ao9
  obtain⟨a,b,rfl⟩:=List.append_of_mem hx
  have h2:l.Perm (a++b):=(h.trans List.perm_middle).cons_inv
  simp only[perms,apT]
  exact⟨_,AY h2,yA x a b⟩
def collect{α β:Type}(f:α->Option (List β)):List α->Option (List β)
 | []=>some []
 | x :: l=>(f x).bind fun a=>(collect f l).map (a++·)
theorem kg{α β:Type}{f:α->Option (List β)} : ∀ {xs:List α} {l:List β},collect f xs=some l->∀ x∈xs,∃ a,f x=some a/\∀ y∈a,y∈l
 | [],_,_,x,hx=>by cases hx
 | z :: xs,l,h,x,hx=>by
  simp only[collect,aoP,aoO] at h
  obtain⟨a,ha,b,hb,rfl⟩:=h
  rcases ao8.1 hx with rfl|hx
  ·exact⟨a,ha,fun y hy=>aqn _ hy⟩
  ·obtain⟨c,hc,hm⟩:=kg hb x hx
   exact⟨c,hc,fun y hy=>aqR _ (hm y hy)⟩
theorem jx{α β:Type}{f:α->Option (List β)} : ∀ {xs:List α} {l:List β},collect f xs=some l->∀ y∈l,∃ x∈xs,∃ a,f x=some a/\y∈a
 | [],_,h,y,hy=>by simp only[collect,aoQ] at h;rw[<- h] at hy;cases hy
 | z :: xs,l,h,y,hy=>by
  simp only[collect,aoP,aoO] at h
  obtain⟨a,ha,b,hb,rfl⟩:=h
  rcases aoX.1 hy with hy|hy
  ·exact⟨z,ao9,a,ha,hy⟩
  ·obtain⟨x,hx,c,hc,hm⟩:=jx hb y hy
   exact⟨x,apd _ hx,c,hc,hm⟩
mutual
theorem u9:∀ (a b:AV),nK a b=true->a=b
 | .bool a,b,h=>by cases b<;>simp_all [nK]
 | .int k a,b,h=>by cases b<;>simp_all [nK]
 | .str a,b,h=>by cases b<;>simp_all [nK]
 | .any,b,h=>by cases b<;>simp_all [nK]
 | .df,b,h=>by cases b<;>simp_all [nK]
 | .cI,b,h=>by cases b<;>simp_all [nK]
 | .ct,b,h=>by cases b<;>simp_all [nK]
 | .bR,b,h=>by cases b<;>simp_all [nK]
 | .ae,b,h=>by cases b<;>simp_all [nK]
 | .slice e o,b,h=>by
  cases b<;>simp[nK] at h
  rename_i f q
  rw[nU e f h.1,h.2]
 | .ref l o,b,h=>by cases b<;>simp_all [nK]
 | .sref l o n z,b,h=>by cases b<;>simp_all [nK]
 | .mref l,b,h=>by cases b<;>simp_all [nK]
 | .agg a,b,h=>by
  cases b<;>simp[nK] at h
  rename_i f
  rw[l8 a f h]
 | .tuple a,b,h=>by
  cases b<;>simp[nK] at h
  rename_i f
  rw[l8 a f h]
 | .iface t a,b,h=>by
  cases b<;>simp[nK] at h
  rename_i t' f
  rw[u9 a f h.2,h.1]
 | .eptr a,b,h=>by
  cases b<;>simp[nK] at h
  rename_i f
  rw[l8 a f h]
 | .lbox g a,b,h=>by
  cases b<;>simp[nK] at h
  rename_i g' f
  rw[h.1,l8 a f h.2]
 | .lref s g o,b,h=>by cases b<;>simp_all [nK]
 | .lsl g e,b,h=>by
  cases b<;>simp[nK] at h
  rename_i g' f
  rw[h.1,nU e f h.2]
 | .lsr s g,b,h=>by cases b<;>simp_all [nK]
 | .eref s g i z o,b,h=>by cases b<;>simp_all [nK]
 | .dM kz ka va e,b,h=>by
  cases b<;>simp[nK] at h
  rename_i lR lQ mC f
  rw[h.1.1.1,h.1.1.2,h.1.2,nU e f h.2]
 | .mF kz ka va e,b,h=>by
  cases b<;>simp[nK] at h
  rename_i lR lQ mC f
  rw[h.1.1.1,h.1.1.2,h.1.2,nU e f h.2]
 | .iter g kz ka va c e,b,h=>by
  cases b<;>simp[nK] at h
  rename_i g' lR lQ mC c' f
  rw[h.1.1.1.1.1,h.1.1.1.1.2,h.1.1.1.2,h.1.1.2,l8 c c' h.1.2,nU e f h.2]
 | .func f a c,b,h=>by
  cases b<;>simp[nK] at h
  rename_i f' b d
  rw[h.1.1,l8 a b h.1.2,l8 c d h.2]
theorem l8:∀ (a b:List AV),B9 a b=true->a=b
 | [],b,h=>by cases b<;>simp_all [B9]
 | x :: l,b,h=>by
  cases b with
  | nil=>simp[B9] at h
  | cons y m =>
   simp[B9] at h
   rw[u9 x y h.1,l8 l m h.2]
theorem nU:∀ (a b:List (List AV)),tW a b=true->a=b
 | [],b,h=>by cases b<;>simp_all [tW]
 | x :: l,b,h=>by
  cases b with
  | nil=>simp[tW] at h
  | cons y m =>
   simp[tW] at h
   rw[l8 x y h.1,nU l m h.2]
end
mutual
theorem xG:∀ a:AV,nK a a=true
 | .bool _|.int _ _|.str _|.any|.df|.cI|.ct|.bR|.ae|.ref _ _|.sref _ _ _ _|.mref _|.lref _ _ _|.lsr _ _|.eref _ _ _ _ _=>by simp[nK]
 | .slice e o=>by simp[nK,mR e]
 | .agg a=>by simp[nK,kH a]
 | .tuple a=>by simp[nK,kH a]
 | .iface t a=>by simp[nK,xG a]
 | .eptr a=>by simp[nK,kH a]
 | .lbox g a=>by simp[nK,kH a]
 | .lsl g e=>by simp[nK,mR e]
 | .dM kz ka va e=>by simp[nK,mR e]
 | .mF kz ka va e=>by simp[nK,mR e]
 | .iter g kz ka va c e=>by simp[nK,kH c,mR e]
 | .func f a c=>by simp[nK,kH a,kH c]
theorem kH:∀ l:List AV,B9 l l=true
 | []=>rfl
 | a :: l=>by simp[B9,xG a,kH l]
theorem mR:∀ l:List (List AV),tW l l=true
 | []=>rfl
 | a :: l=>by simp[tW,kH a,mR l]
end
def eqO:cj->cj->Bool
 | .box t a,.box t' b=>t==t'&&B9 a b
 | .map kz ka va e,.map lR lQ mC f=>kz==lR&&ka==lQ&&va==mC&&tW e f
 | .dM kz ka va e,.dM lR lQ mC f=>kz==lR&&ka==lQ&&va==mC&&tW e f
 | .Im a,.Im b=>B9 a b
 | .ca a,.ca b=>B9 a b
 | .dead,.dead=>true
 | _,_=>false
def Yz:ah->ah->Bool
 | [],[]=>true
 | a :: l,b :: m=>eqO a b&&Yz l m
 | _,_=>false
def eqR(a b:AV × Option fQ):Bool :=
 nK a.1 b.1&&match a.2,b.2 with
  | none,none=>true
  | some c,some d=>Yz c.heap d.heap&&c.lo==d.lo
  | _,_=>false
theorem ZN{a b:cj}(h:eqO a b=true):a=b:=by
 cases a<;>cases b<;>simp[eqO] at h
 ·rw[h.1,l8 _ _ h.2]
 ·rw[h.1.1.1,h.1.1.2,h.1.2,nU _ _ h.2]
 ·rw[h.1.1.1,h.1.1.2,h.1.2,nU _ _ h.2]
 ·rw[l8 _ _ h]
 ·rw[l8 _ _ h]
 ·rfl
theorem H9:∀ {a b:ah},Yz a b=true->a=b
 | [],[],_=>rfl
 | [],_ :: _,h=>by simp[Yz] at h
 | _ :: _,[],h=>by simp[Yz] at h
 | x :: l,y :: m,h=>by
  simp only[Yz,Bool.and_eq_true] at h
  rw[ZN h.1,H9 h.2]
theorem OO{a b:AV × Option fQ}(h:eqR a b=true):a=b:=by
 obtain⟨v,c⟩:=a
 obtain⟨w,d⟩:=b
 simp only[eqR,Bool.and_eq_true] at h
 obtain⟨h1,h2⟩:=h
 rw[u9 v w h1]
 cases c<;>cases d<;>simp at h2
 ·rfl
 ·rename_i c d
  obtain⟨c1,c2⟩:=c
  obtain⟨d1,d2⟩:=d
  simp only at h2
  rw[H9 h2.1,h2.2]
structure CS where
 nt:Nat
 sw:BT
 H:ah
 lo:Nat
 gen:Nat
def CS.G9(c:CS):AS:=⟨G7 c.nt c.sw,c.H,c.lo,c.gen⟩
def CS.agp(nt:Nat)(s:AS):CS:=⟨nt,BT.of s.T (D0 nt) 0,s.H,s.lo,s.gen⟩
def ZL:BT->BT->Bool
 | .leaf v,y=>match y with|.leaf u=>nK v u|_=>false
 | .node l r,y=>match y with|.node l' r'=>ZL l l'&&ZL r r'|_=>false
theorem H8:∀ {a b:BT},ZL a b=true->a=b
 | .leaf v,.leaf u,h=>by rw[u9 v u h]
 | .leaf _,.node _ _,h=>by simp[ZL] at h
 | .node _ _,.leaf _,h=>by simp[ZL] at h
 | .node l r,.node l' r',h=>by
  simp only[ZL,Bool.and_eq_true] at h
  rw[H8 h.1,H8 h.2]
def eqC(c d:CS):Bool:=c.nt==d.nt&&c.lo==d.lo&&c.gen==d.gen&&ZL c.sw d.sw&&Yz c.H d.H
theorem ZM{c d:CS}(h:eqC c d=true):c=d:=by
 obtain⟨n1,v1,h1,l1,g1⟩:=c
 obtain⟨n2,v2,h2,l2,g2⟩:=d
 simp only[eqC,Bool.and_eq_true,ap1] at h
 obtain⟨⟨⟨⟨k0,k1⟩,k2⟩,k3⟩,k4⟩:=h
 rw[k0,k1,k2,H8 k3,H9 k4]
def eqP(x y:Array Bool × CS):Bool:=x.1.toList==y.1.toList&&eqC x.2 y.2
theorem ZO{x y:Array Bool × CS}(h:eqP x y=true):x=y:=by
 obtain⟨L,c⟩:=x
 obtain⟨M,d⟩:=y
 simp only[eqP,Bool.and_eq_true,ap1] at h
 rw[Array.toList_inj.1 h.1,ZM h.2]
def dedup:List (Array Bool × CS)->List (Array Bool × CS)
 | []=>[]
 | x :: l=>cond (l.any (eqP x)) (dedup l) (x :: dedup l)
theorem rX:∀ {l:List (Array Bool × CS)} {x:Array Bool × CS},x∈l->x∈dedup l
 | y :: l,x,h=>by
  simp only[dedup]
  cases hb:l.any (eqP y) with
  | true =>
   simp only[cond_true]
   rcases ao8.1 h with rfl|h
   ·obtain⟨z,hz,he⟩:=List.any_eq_true.1 hb
    rw[ZO he];exact rX hz
   ·exact rX h
  | false =>
   simp only[aoZ]
   rcases ao8.1 h with rfl|h
   ·exact ao9
   ·exact apd _ (rX h)
theorem u4:∀ {l:List (Array Bool × CS)} {x:Array Bool × CS},x∈dedup l->x∈l
 | y :: l,x,h=>by
  simp only[dedup] at h
  cases hb:l.any (eqP y) with
  | true=>rw[hb,cond_true] at h;exact apd _ (u4 h)
  | false =>
   rw[hb,aoZ] at h
   rcases ao8.1 h with rfl|h
   ·exact ao9
   ·exact apd _ (u4 h)
section
variable (G:Nat->List AV)(cf:cu)(nt:Nat)(ops:List aj)(pre:List (List Nat))
def Dh(x:Array Bool × CS):Option (List (Array Bool × CS)) :=
 match nE pre x.1 with
 | []=>none
 | i :: r=>collect (fun i=>(ops[i]?).bind fun o=>(bt G cf false x.2.G9 o).map fun s'=>[(x.1.setIfInBounds i true,CS.agp nt s')]) (i :: r)
def ru:Nat->List (Array Bool × CS)->Option (List CS)
 | 0,lv=>cond (lv.all fun x=>(nE pre x.1).isEmpty) (some (lv.map (·.2))) none
 | n+1,lv=>(collect (Dh G cf nt ops pre) lv).bind fun l=>ru n (dedup l)
end
theorem GY{G:Nat->List AV}{cf:cu}{nt:Nat}{ops:List aj}{pre:List (List Nat)}{Q:AS->Prop} : ∀ (n:Nat) (lv:List (Array Bool × CS)) (res:List CS),ru G cf nt ops pre n lv=some res->(∀ c∈res,Q c.G9) ->
  ∀ x∈lv,DA G cf nt ops pre n x.1 x.2.G9 Q
 | 0,lv,res,h,hQ,x,hx=>by
  simp only[ru] at h
  obtain⟨h0,h⟩:=ab h
  injection h with h
  subst h
  have:=aoV.1 h0 x hx
  exact⟨List.isEmpty_iff.1 this,hQ _ (apu.2 ⟨x,hx,rfl⟩)⟩
 | n+1,lv,res,h,hQ,x,hx=>by
  simp only[ru,aoP] at h
  obtain⟨l,h1,h2⟩:=h
  obtain⟨a,ha,hm⟩:=kg h1 x hx
  unfold Dh at ha
  split at ha
  ·cases ha
  ·rename_i j r hr
   refine⟨(fun e=>by rw[hr] at e;cases e),fun i hi=>?_⟩
   rw[hr] at hi
   obtain⟨b,hb,hmb⟩:=kg ha i hi
   simp only[aoP,aoO] at hb
   obtain⟨o,ho,s',hs,rfl⟩:=hb
   refine⟨o,s',ho,hs,?_⟩
   exact GY n _ res h2 hQ _ (rX (hm _ (hmb _ ao9)))
section
variable (G:Nat->List AV)(cf:cu)
def Tb(s:AS)(t:Nat)(d:Option Nat)(g kz:Nat)(ka va:Bool)(q:List AV)(rest:List (List AV)):AS :=
 (s.br t (.iter g kz ka va q rest)).bM d (.tuple [.bool true,om ka (q.take kz),om va (q.drop kz)])
def oe:List aj->AS->Option (List AS)
 | [],s=>some [s]
 | o :: r,s=>match iX o with
  | some t=>match s.T t with
   | .iter g kz ka va _ todo=>match todo with
    | []=>oe r (s.bM o.dst (.tuple [.bool false]))
    | _ :: _=>collect (fun m=>match m with
     | q :: rest=>oe r (Tb s t o.dst g kz ka va q rest)
     | []=>some []) (perms todo)
   | _=>none
  | none=>(bt G cf false s o).bind (oe r)
def rS(F:AS->Option (List (bp × AS))):Nat->AS->Option (List (bp × AS))
 | 0,_=>none
 | n+1,s=>(F s).bind (collect fun x=>match x.1 with
  | .normal=>rS F n x.2
  | _=>some [x])
def lb(n:Nat):bJ->AS->Option (List (bp × AS))
 | .skip,s=>some [(.normal,s)]
 | .region false ops,s=>(oe G cf ops s).map fun l=>l.map fun s'=>(.normal,s')
 | .region true ops,s=>(bK G cf true ops s).map fun s'=>[(.normal,s')]
 | .seq a b,s=>(lb n a s).bind (collect fun x=>match x.1 with
  | .normal=>lb n b x.2
  | _=>some [x])
 | .cond c a b,s=>match c.eval G s.T with
  | .bool true=>lb n a s
  | .bool false=>lb n b s
  | _=>none
 | .block id a,s=>(lb n a s).map fun l=>l.map fun x=>match x.1 with
  | .exit i=>(cond (Nat.beq i id) .normal (.exit i),x.2)
  | _=>x
 | .loop a,s=>rS (lb n a) n s
 | .exit id,s=>some [(.exit id,s)]
 | .ret,s=>some [(.ret,s)]
 | .tG nt ops pre,s=>(ru G cf nt ops pre ops.length [(Array.replicate ops.length false,CS.agp nt s)]).map fun l=>l.map fun c=>(.normal,c.G9)
end
section
variable {G:Nat->List AV}{cf:cu}
theorem rI:∀ (is:List aj) (s:AS) (l:List AS) (Q:AS->Prop),oe G cf is s=some l->(∀ x∈l,Q x)->kZ G cf is s Q
 | [],s,l,Q,h,hQ=>by
  simp only[oe,aoQ] at h
  exact hQ s (by rw[<- h];exact ao9)
 | o :: r,s,l,Q,h,hQ=>by
  unfold oe at h
  unfold kZ
  cases hn:iX o with
  | none =>
   rw[hn] at h
   simp only[aoP] at h
   obtain⟨s',h1,h2⟩:=h
   exact⟨s',h1,rI r s' l Q h2 hQ⟩
  | some t =>
   rw[hn] at h
   simp only at h ⊢
   split at h
   ·rename_i g kz ka va cur todo hT
    refine⟨g,kz,ka,va,cur,todo,hT,fun h0=>?_,fun q rest hp=>?_⟩
    ·subst h0
     exact rI r _ l Q h hQ
    ·cases todo with
     | nil=>exact absurd (List.Perm.nil_eq hp) (by simp)
     | cons z zs =>
      simp only at h
      obtain⟨a,ha,hm⟩:=kg h _ (AY hp)
      exact rI r _ a Q ha fun x hx=>hQ x (hm x hx)
   ·cases h
theorem yl{F:AS->Option (List (bp × AS))}{W:AS->(bp->AS->Prop)->Prop}(hF:∀ s l Q,F s=some l->(∀ x∈l,Q x.1 x.2)->W s Q) :
  ∀ (n:Nat) (s:AS) (l:List (bp × AS)) (Q:bp->AS->Prop),rS F n s=some l->(∀ x∈l,Q x.1 x.2)->wc W n s Q
 | 0,_,_,_,h,_=>by cases h
 | n+1,s,l,Q,h,hQ=>by
  simp only[rS,aoP] at h
  obtain⟨l1,h1,h2⟩:=h
  refine hF s l1 _ h1 fun x hx=>?_
  obtain⟨a,ha,hm⟩:=kg h2 x hx
  obtain⟨e,s1⟩:=x
  cases e with
  | normal=>exact yl hF n s1 a Q ha fun y hy=>hQ y (hm y hy)
  | exit i=>injection ha with ha;subst ha;exact hQ _ (hm _ ao9)
  | ret=>injection ha with ha;subst ha;exact hQ _ (hm _ ao9)
theorem py(n:Nat):∀ (c:bJ) (s:AS) (l:List (bp × AS)) (R:bp->AS->Prop),lb G cf n c s=some l->(∀ x∈l,R x.1 x.2)->WN G cf c s R
 | .skip,s,l,R,h,hR=>by
  simp only[lb,aoQ] at h
  exact hR (.normal,s) (by rw[<- h];exact ao9)
 | .region false ops,s,l,R,h,hR=>by
  simp only[lb,aoO] at h
  obtain⟨l1,h1,rfl⟩:=h
  exact rI ops s l1 _ h1 fun x hx=>hR (.normal,x) (apu.2 ⟨x,hx,rfl⟩)
 | .region true ops,s,l,R,h,hR=>by
  simp only[lb,aoO] at h
  obtain⟨s1,h1,rfl⟩:=h
  exact⟨s1,h1,hR (.normal,s1) ao9⟩
 | .seq a b,s,l,R,h,hR=>by
  simp only[lb,aoP] at h
  obtain⟨l1,h1,h2⟩:=h
  refine py n a s l1 _ h1 fun x hx=>?_
  obtain⟨d,hd,hm⟩:=kg h2 x hx
  obtain⟨e,s1⟩:=x
  cases e with
  | normal=>exact py n b s1 d R hd fun y hy=>hR y (hm y hy)
  | exit i=>injection hd with hd;subst hd;exact hR _ (hm _ ao9)
  | ret=>injection hd with hd;subst hd;exact hR _ (hm _ ao9)
 | .cond c a b,s,l,R,h,hR=>by
  simp only[lb] at h
  split at h
  ·rename_i ht
   exact⟨true,ht,(fun _=>py n a s l R h hR),(fun e=>by cases e)⟩
  ·rename_i ht
   exact⟨false,ht,(fun e=>by cases e),(fun _=>py n b s l R h hR)⟩
  ·cases h
 | .block id a,s,l,R,h,hR=>by
  simp only[lb,aoO] at h
  obtain⟨l1,h1,rfl⟩:=h
  refine py n a s l1 _ h1 fun x hx=>?_
  have:=hR _ (apu.2 ⟨x,hx,rfl⟩)
  obtain⟨e,s1⟩:=x
  cases e<;>exact this
 | .loop a,s,l,R,h,hR=>⟨n,yl (fun s l Q h1 h2=>py n a s l Q h1 h2) n s l R h hR⟩
 | .exit id,s,l,R,h,hR=>by
  simp only[lb,aoQ] at h
  exact hR (.exit id,s) (by rw[<- h];exact ao9)
 | .ret,s,l,R,h,hR=>by
  simp only[lb,aoQ] at h
  exact hR (.ret,s) (by rw[<- h];exact ao9)
 | .tG nt ops pre,s,l,R,h,hR=>by
  simp only[lb,aoO] at h
  obtain⟨l1,h1,rfl⟩:=h
  exact GY ops.length _ l1 h1 (fun c hc=>hR (.normal,c.G9) (apu.2 ⟨c,hc,rfl⟩)) _ ao9
end
section
variable {G:Nat->List AV}{cf:cu}{H:ah}(iu:∀ f args H r c,cf f args H=some (r,c)->jI H c)
include iu
theorem rH:∀ (is:List aj) (s:AS) (l:List AS),oe G cf is s=some l->dT H s->∀ x∈l,dT H x
 | [],s,l,h,hI,x,hx=>by
  simp only[oe,aoQ] at h
  rw[<- h] at hx
  rw[ao3.1 hx];exact hI
 | o :: r,s,l,h,hI,x,hx=>by
  unfold oe at h
  cases hn:iX o with
  | none =>
   rw[hn] at h
   simp only[aoP] at h
   obtain⟨s',h1,h2⟩:=h
   have h3:bK G cf false [o] s=some s':=by simp only[bK,h1,aoW]
   exact rH r s' l h2 (qP iu [o] s s' h3 hI) x hx
  | some t =>
   rw[hn] at h
   simp only at h
   split at h
   ·rename_i g kz ka va cur todo hT
    cases todo with
    | nil=>exact rH r _ l h (hI.dS (gG _ _ _).1 (gG _ _ _).2.2) x hx
    | cons z zs =>
     simp only at h
     obtain⟨m,_,a,ha,UX⟩:=jx h x hx
     cases m with
     | nil=>injection ha with ha;subst ha;cases UX
     | cons q rest =>
      refine rH r _ a ha ?_ x UX
      unfold Tb
      exact (hI.dS (s':=s.br t (.iter g kz ka va q rest)) rfl rfl).dS (gG _ _ _).1 (gG _ _ _).2.2
   ·cases h
omit iu in
theorem yj{F:AS->Option (List (bp × AS))}(hF:∀ s l,F s=some l->dT H s->∀ x∈l,dT H x.2):∀ (n:Nat) (s:AS) (l:List (bp × AS)),rS F n s=some l->dT H s->∀ x∈l,dT H x.2
 | 0,_,_,h,_,_,_=>by cases h
 | n+1,s,l,h,hI,x,hx=>by
  simp only[rS,aoP] at h
  obtain⟨l1,h1,h2⟩:=h
  obtain⟨y,hy,a,ha,UX⟩:=jx h2 x hx
  have hyI:=hF s l1 h1 hI y hy
  obtain⟨e,s1⟩:=y
  cases e with
  | normal=>exact yj hF n s1 a ha hyI x UX
  | exit i=>injection ha with ha;subst ha;rw[ao3.1 UX];exact hyI
  | ret=>injection ha with ha;subst ha;rw[ao3.1 UX];exact hyI
theorem Bf{nt:Nat}{ops:List aj}{pre:List (List Nat)} : ∀ (n:Nat) (lv:List (Array Bool × CS)) (res:List CS),ru G cf nt ops pre n lv=some res->(∀ x∈lv,dT H x.2.G9)->∀ c∈res,dT H c.G9
 | 0,lv,res,h,hI,c,hc=>by
  simp only[ru] at h
  obtain⟨_,h⟩:=ab h
  injection h with h
  subst h
  obtain⟨x,hx,rfl⟩:=apu.1 hc
  exact hI x hx
 | n+1,lv,res,h,hI,c,hc=>by
  simp only[ru,aoP] at h
  obtain⟨l,h1,h2⟩:=h
  refine Bf n _ res h2 (fun y hy=>?_) c hc
  obtain⟨x,hx,a,ha,hya⟩:=jx h1 y (u4 hy)
  unfold Dh at ha
  split at ha
  ·cases ha
  ·obtain⟨i,_,b,hb,hyb⟩:=jx ha y hya
   simp only[aoP,aoO] at hb
   obtain⟨o,_,s',hs,rfl⟩:=hb
   rw[ao3.1 hyb]
   have h3:bK G cf false [o] x.2.G9=some s':=by simp only[bK,hs,aoW]
   exact (qP iu [o] _ s' h3 (hI x hx)).dS rfl rfl
theorem px(n:Nat):∀ (c:bJ) (s:AS) (l:List (bp × AS)),lb G cf n c s=some l->dT H s->∀ x∈l,dT H x.2
 | .skip,s,l,h,hI,x,hx=>by
  simp only[lb,aoQ] at h
  rw[<- h] at hx;rw[ao3.1 hx];exact hI
 | .region false ops,s,l,h,hI,x,hx=>by
  simp only[lb,aoO] at h
  obtain⟨l1,h1,rfl⟩:=h
  obtain⟨y,hy,rfl⟩:=apu.1 hx
  exact rH iu ops s l1 h1 hI y hy
 | .region true ops,s,l,h,hI,x,hx=>by
  simp only[lb,aoO] at h
  obtain⟨s1,h1,rfl⟩:=h
  rw[ao3.1 hx];exact qP iu ops s s1 h1 hI
 | .seq a b,s,l,h,hI,x,hx=>by
  simp only[lb,aoP] at h
  obtain⟨l1,h1,h2⟩:=h
  obtain⟨y,hy,d,hd,hxd⟩:=jx h2 x hx
  have hyI:=px n a s l1 h1 hI y hy
  obtain⟨e,s1⟩:=y
  cases e with
  | normal=>exact px n b s1 d hd hyI x hxd
  | exit i=>injection hd with hd;subst hd;rw[ao3.1 hxd];exact hyI
  | ret=>injection hd with hd;subst hd;rw[ao3.1 hxd];exact hyI
 | .cond c a b,s,l,h,hI,x,hx=>by
  simp only[lb] at h
  split at h
  ·exact px n a s l h hI x hx
  ·exact px n b s l h hI x hx
  ·cases h
 | .block id a,s,l,h,hI,x,hx=>by
  simp only[lb,aoO] at h
  obtain⟨l1,h1,rfl⟩:=h
  obtain⟨y,hy,rfl⟩:=apu.1 hx
  have:=px n a s l1 h1 hI y hy
  obtain⟨e,s1⟩:=y
  cases e<;>exact this
 | .loop a,s,l,h,hI,x,hx=>yj (fun s l h1 h2=>px n a s l h1 h2) n s l h hI x hx
 | .exit id,s,l,h,hI,x,hx=>by
  simp only[lb,aoQ] at h
  rw[<- h] at hx;rw[ao3.1 hx];exact hI
 | .ret,s,l,h,hI,x,hx=>by
  simp only[lb,aoQ] at h
  rw[<- h] at hx;rw[ao3.1 hx];exact hI
 | .tG nt ops pre,s,l,h,hI,x,hx=>by
  simp only[lb,aoO] at h
  obtain⟨l1,h1,rfl⟩:=h
  obtain⟨c,hc,rfl⟩:=apu.1 hx
  refine Bf iu ops.length _ l1 h1 (fun y hy=>?_) c hc
  rw[ao3.1 hy]
  exact hI.dS rfl rfl
end
def KQ(base:Nat)(fn:ax)(x:bp × AS):Option (AV × Option fQ) :=
 match x.1 with
 | .exit _=>none
 | _=>finish base fn x.2
def oneOf(base:Nat)(fn:ax):List (bp × AS)->Option (AV × Option fQ)
 | []=>none
 | x :: l=>(KQ base fn x).bind fun r=>cond (l.all fun y=>match KQ base fn y with
  | some q=>eqR q r
  | none=>false) (some r) none
theorem M0{base:Nat}{fn:ax}{l:List (bp × AS)}{r:AV × Option fQ}(h:oneOf base fn l=some r):∀ x∈l,KQ base fn x=some r:=by
 cases l with
 | nil=>cases h
 | cons y l =>
  simp only[oneOf,aoP] at h
  obtain⟨q,hq,h⟩:=h
  obtain⟨h0,h⟩:=ab h
  injection h with h
  subst h
  intro x hx
  rcases ao8.1 hx with rfl|hx
  ·exact hq
  ·have:=aoV.1 h0 x hx
   split at this
   ·rename_i z hz
    rw[hz,OO this]
   ·cases this
def runN(G:Nat->List AV)(cf:cu)(n:Nat)(fn:ax)(args:List AV)(H:ah):Option (AV × Option fQ) :=
 cond (Nat.beq args.length fn.np) ((lb G cf n fn.body { T:=gn args,H,lo:=H.length,gen:=0 }).bind (oneOf H.length fn)) none
def evN(A:AP):Nat->cu
 | 0=>fun _ _ _=>none
 | n+1=>fun f args H=>match A.ov f with
  | some g=>cond (args.all pV) (g args H) none
  | none=>match A.fns f with
   | none=>none
   | some fn=>runN A.aN (evN A n) n fn args H
section
variable {P:Program}{G:Nat->List AV}{H:ah}
theorem JH{cf:cu}(iu:cP P G cf)(hm:P.follows .mixedOrders=true){f:FuncId}{fn:Func}(sq:P.funcs[f]?=some fn){bF locals muts:List Nat}{kK:ax}(hc:kU P bF locals muts fn=some kK)
  {n:Nat} {args:List AV} {r:AV} {c:Option fQ} (he:runN G cf n kK args H=some (r,c)) :
  (fn.body.isSome=true/\fn.name≠ "runtime.NumGoroutine")/\jI H c /\
  ∀ (base:Nat) (gh:Gh) (w:World) (vs:Array Value),aK G base H gh w->clean gh->vs.size=args.length->(∀ (j:Nat) (v:Value) (x:AV),vs[j]?=some v->args[j]?=some x->CR gh H.length w (.par j) v x) ->
   Calls P f vs w fun e w'=>∃ v aH,e=.returned v/\lG G base H gh w r c v aH w':=by
 simp only[kU,aoP] at hc
 obtain⟨code,lN,b,hb,rs,x6,hc⟩:=hc
 obtain⟨h0,hc⟩:=ab hc
 injection hc with hc
 subst hc
 simp only[Bool.and_eq_true,Nat.ble_eq,bne_iff_ne,ne_eq] at h0
 simp only[runN] at he
 obtain⟨h1,he⟩:=ab he
 have Md:args.length=fn.params.size+fn.nfree:=by simpa [dR] using h1
 simp only[aoP] at he
 obtain⟨l,bc,he⟩:=he
 have dq:=M0 he
 have pN:jI H c:=by
  have qn:=px (H:=H) (fun f args H r c h=>(iu f args H r c h).2.1) n b _ l bc ⟨aoU _,aoU _,fun _ _=>rfl⟩
  cases l with
  | nil=>cases he
  | cons x l =>
   have h2:=dq x ao9
   have h3:=qn x ao9
   obtain⟨ex,s'⟩:=x
   cases ex with
   | normal=>exact j7 h3 h2
   | exit id=>cases h2
   | ret=>exact j7 h3 h2
 refine⟨⟨by rw[lN];rfl,h0.2⟩,pN,fun base gh w vs hW ig po cr=>?_⟩
 refine calls_of_wp sq lN ?_
 have gA:vs.size<=fn.ntmps:=by omega
 have hI:=um (locals:=locals) (muts:=muts) hW po gA cr
 refine jY iu hm code b hb _ gh.taken w _ _ _ hI (py n b _ l (fun e s=>KQ H.length { bF,locals,muts,nt:=fn.ntmps,np:=fn.params.size+fn.nfree,results:=rs,body:=b } (e,s)=some (r,c)) bc (fun x hx=>dq x hx)) (fun e s' a' aH w' hr iG=>?_)
 cases e with
 | exit i=>cases hr
 | normal =>
  obtain⟨_,v,Cl,hv,hR⟩:=lu (P:=P) hW ig iG x6 hr
  exact⟨iG.F.defers,v,hv,v,Cl,rfl,hR⟩
 | ret =>
  obtain⟨_,v,Cl,hv,hR⟩:=lu (P:=P) hW ig iG x6 hr
  exact⟨iG.F.defers,v,hv,v,Cl,rfl,hR⟩
theorem Ap{A:AP}(h:mZ P A):∀ n,cP P A.aN (evN A n)
 | 0=>fun f args H r c he=>by cases he
 | n+1=>fun f args H r c he=>by
  simp only[evN] at he
  split at he
  ·rename_i g hg
   obtain⟨h0,he⟩:=ab he
   obtain⟨k1,k2,k3⟩:=h.ov f g hg args H r c he
   refine⟨k1,k2,fun base gh w vs hW ig po cr=>k3 base gh w vs hW ig po (fun j v x hv hx=>?_)⟩
   rcases cr j v x hv hx with h|⟨e,rfl,_⟩
   ·exact h
   ·have:=aoV.1 h0 _ (ao0 hx)
    simp[pV] at this
  ·split at he
   ·cases he
   ·rename_i kK hf
    obtain⟨fn,bF,locals,muts,sq,hc⟩:=h.fns f kK hf
    obtain⟨⟨h1,h2⟩,h3,h4⟩:=JH (Ap h n) h.mixed sq hc he
    exact⟨⟨fn,sq,h1,h2⟩,h3,h4⟩
theorem ZQ{A:AP}(h:mZ P A)(n:Nat)(f:FuncId):jb P A.aN f (evN A n f):=by
 intro args H r c he
 obtain⟨k1,k2,k3⟩:=Ap h n f args H r c he
 exact⟨k1,k2,fun base gh w vs hW ig po cr=>k3 base gh w vs hW ig po fun j v x hv hx=>.inl (cr j v x hv hx)⟩
end
end
section
def Ol(pre:List (List Nat)):List (List Nat):=pre.foldl (fun t l=>t++[(l.flatMap fun e=>e :: t.getD e []).eraseDups]) []
def jt(L:List Nat)(ops:List aj)(o:aj):Option (Bool × Nat × Nat × an) :=
 match o with
 | ⟨some d,none,.load false agg sz x⟩=>cond (vl (DV false ops L x)&&!(x.tmps.contains d)) (some (agg,sz,d,x)) none
 | _=>none
def H6(L:List Nat)(ops:List aj)(o:aj):Option qj :=
 (vO false false ops L o).map fun e=>match jt L ops o with|some _=>⟨e.rs,e.ws,false,e.wh,e.wg⟩|none=>e
def An(L:List Nat)(ops:List aj):List aj->Option (List qj)
 | []=>some []
 | o :: r=>(H6 L ops o).bind fun e=>(An L ops r).map (e :: ·)
def K3(pre:List (List Nat))(es:List qj):Nat->List Nat->List Nat->List Nat
 | 0,acc,_=>acc
 | n+1,acc,rest =>
  match rest.find? (fun i=>(pre.getD i []).all acc.contains&&!(es.getD i default).wh) with
  | some i=>K3 pre es n (acc++[i]) (rest.erase i)
  | none=>match rest.find? (fun i=>(pre.getD i []).all acc.contains) with
   | some i=>K3 pre es n (acc++[i]) (rest.erase i)
   | none=>acc
def Zd(L:List Nat)(ops:List aj)(cl:List (List Nat))(es:List qj)(done:List Nat)(k:Nat):List aj :=
 cond (es.getD k default).wh (done.filterMap fun j=>cond ((cl.getD k []).contains j) none ((ops[j]?).bind fun o=>(jt L ops o).map fun q=>⟨none,none,.same q.1 q.2.1 q.2.2.1 q.2.2.2⟩)) []
def Bk(L:List Nat)(ops:List aj)(cl:List (List Nat))(es:List qj):List Nat->List Nat->List aj
 | _,[]=>[]
 | done,k :: r=>(match ops[k]? with|some o=>inter false false ops L [o]|none=>[])++(Zd L ops cl es done k++Bk L ops cl es (done++[k]) r)
def MC(L:List Nat)(ops:List aj)(k:Nat):Bool:=((ops[k]?).bind (jt L ops)).isSome
def stT(L:List Nat)(ops:List aj)(k:Nat):List Nat:=match (ops[k]?).bind (jt L ops) with|some q=>q.2.2.1 :: q.2.2.2.tmps|none=>[]
def yJ(L:List Nat)(ops:List aj)(cl:List (List Nat))(es:List qj)(ord:List Nat)(p q:Nat):Bool :=
 (!conflict (es.getD (ord.getD q 0) default) (es.getD (ord.getD p 0) default) || (cl.getD (ord.getD q 0) []).contains (ord.getD p 0)) &&
 (!(MC L ops (ord.getD q 0)&&(es.getD (ord.getD p 0) default).wh) || (cl.getD (ord.getD q 0) []).contains (ord.getD p 0)) &&
 (!(MC L ops (ord.getD p 0)&&(es.getD (ord.getD q 0) default).wh) || (cl.getD (ord.getD q 0) []).contains (ord.getD p 0) ||
  (List.range (q+1)).all fun r=>Nat.ble r p || !(meets (es.getD (ord.getD r 0) default).ws (stT L ops (ord.getD p 0))))
def okS(nt:Nat)(L:List Nat)(ops:List aj)(pre cl:List (List Nat))(es:List qj)(ord:List Nat):Bool :=
 Nat.beq pre.length ops.length&&Nat.beq ord.length ops.length&&Jr ord&&ord.all (fun k=>Nat.blt k ops.length) &&
 (List.range ops.length).all (fun k=>(pre.getD k []).all fun e=>Nat.blt e k) &&
 (List.range ops.length).all (fun k=>(cl.getD k []).all fun j=>(pre.getD k []).any fun e=>Nat.beq j e || (cl.getD e []).contains j) &&
 (List.range ops.length).all (fun k=>(es.getD k default).rs.all (fun t=>Nat.blt t nt)&&(es.getD k default).ws.all (fun t=>Nat.blt t nt)) &&
 (List.range ops.length).all (fun q=>(List.range q).all fun p=>yJ L ops cl es ord p q)
def Ze(nt:Nat)(L:List Nat)(ops:List aj)(pre:List (List Nat)):Option (List aj) :=
 (An L ops ops).bind fun es=>cond (okS nt L ops pre (Ol pre) es (K3 pre es ops.length [] (List.range ops.length)))
  (some (Bk L ops (Ol pre) es [] (K3 pre es ops.length [] (List.range ops.length)))) none
section
variable {G:Nat->List AV}{cf:cu}
theorem Aq{d:Bool} : ∀ (a b:List aj) (s:AS),bK G cf d (a++b) s=(bK G cf d a s).bind (bK G cf d b)
 | [],b,s=>by simp[bK]
 | o :: a,b,s=>by
  simp only[apj,bK]
  cases bt G cf d s o with
  | none=>rfl
  | some s1=>simp only[aoW];exact Aq a b s1
def vF(G:Nat->List AV)(s:AS)(q:Bool × Nat × Nat × an):Prop:=cM s false q.1 q.2.1 (q.2.2.2.addr G s.T)=some (s.T q.2.2.1,none)
theorem Uh{agg:Bool}{sz d:Nat}{x:an}{s s' : AS}(h:bt G cf false s ⟨none,none,.same agg sz d x⟩=some s'):s'=s/\vF G s (agg,sz,d,x):=by
 simp only[bt,aq,aoP] at h
 obtain⟨⟨z,so⟩,h1,h2⟩:=h
 split at h1
 ·rename_i v hv
  obtain⟨h3,h1⟩:=ab h1
  simp only[aoQ,aoS] at h1
  obtain⟨rfl,rfl⟩:=h1
  simp[AS.bM] at h2
  refine⟨h2.symm,?_⟩
  unfold vF
  rw[hv,u9 _ _ h3]
 ·cases h1
theorem sa{L:List Nat}{ops:List aj}{cl:List (List Nat)}{k:Nat} : ∀ (done:List Nat) (s s' : AS),
  bK G cf false (done.filterMap fun j=>cond ((cl.getD k []).contains j) none ((ops[j]?).bind fun o=>(jt L ops o).map fun q=>⟨none,none,.same q.1 q.2.1 q.2.2.1 q.2.2.2⟩)) s=some s' ->
  s'=s/\∀ j,j∈done->(cl.getD k []).contains j=false->∀ q,(ops[j]?).bind (jt L ops)=some q->vF G s q
 | [],s,s',h=>by simp[bK] at h;exact⟨h.symm,fun j hj=>by simp at hj⟩
 | j :: done,s,s',h=>by
  rw[aqh] at h
  cases hc:(cl.getD k []).contains j with
  | true =>
   rw[hc] at h
   simp only[cond_true] at h
   obtain⟨h1,h2⟩:=sa done s s' h
   exact⟨h1,fun i hi jT q hq=>by
    rcases ao8.1 hi with rfl|hi
    ·rw[hc] at jT;cases jT
    ·exact h2 i hi jT q hq⟩
  | false =>
   rw[hc] at h
   simp only[aoZ] at h
   cases ho:(ops[j]?).bind (jt L ops) with
   | none =>
    have:((ops[j]?).bind fun o=>(jt L ops o).map fun q=>(⟨none,none,.same q.1 q.2.1 q.2.2.1 q.2.2.2⟩:aj))=none:=by
     cases hj:ops[j]? with
     | none=>rfl
     | some o=>rw[hj] at ho;simp only[aoW] at ho ⊢;rw[ho];rfl
    rw[this] at h
    obtain⟨h1,h2⟩:=sa done s s' h
    exact⟨h1,fun i hi jT q hq=>by
     rcases ao8.1 hi with rfl|hi
     ·rw[ho] at hq;cases hq
     ·exact h2 i hi jT q hq⟩
   | some q =>
    have:((ops[j]?).bind fun o=>(jt L ops o).map fun q=>(⟨none,none,.same q.1 q.2.1 q.2.2.1 q.2.2.2⟩:aj))=some ⟨none,none,.same q.1 q.2.1 q.2.2.1 q.2.2.2⟩:=by
     cases hj:ops[j]? with
     | none=>rw[hj] at ho;cases ho
     | some o=>rw[hj] at ho;simp only[aoW] at ho ⊢;rw[ho];rfl
    rw[this] at h
    simp only[bK,aoP] at h
    obtain⟨s1,h3,h⟩:=h
    obtain⟨rfl,h4⟩:=Uh h3
    obtain⟨h1,h2⟩:=sa done _ s' h
    exact⟨h1,fun i hi jT q' hq=>by
     rcases ao8.1 hi with rfl|hi
     ·rw[ho] at hq;cases hq;exact h4
     ·exact h2 i hi jT q' hq⟩
theorem wy{L:List Nat}{ops:List aj}{cl:List (List Nat)}{es:List qj} : ∀ (todo done:List Nat) (s s' : AS),(∀ k,k∈todo->k<ops.length) ->
  bK G cf false (Bk L ops cl es done todo) s=some s' ->
  ∃ S:Nat->AS,S 0=s/\S todo.length=s'/\∀ (p k:Nat),todo[p]?=some k->∃ o,ops[k]?=some o /\
   (∀ c y,qk false ops L o.op=some (c,y)->(∀ g w,o.guard=some (g,w)->(S p).T g=.bool w)->fG c (y.addr G (S p).T)=true) /\
   bt G cf false (S p) (iB false o)=some (S (p+1)) /\
   ((es.getD k default).wh=true->∀ j,j∈done++todo.take p->(cl.getD k []).contains j=false->∀ q,(ops[j]?).bind (jt L ops)=some q->vF G (S (p+1)) q)
 | [],done,s,s',aU,h=>by
  simp only[Bk,bK,aoQ] at h
  exact⟨fun _=>s,rfl,h,fun p k hp=>by simp at hp⟩
 | k :: r,done,s,s',aU,h=>by
  obtain⟨o,ho⟩:∃ o,ops[k]?=some o:=⟨_,aoT (aU k (by simp))⟩
  simp only[Bk,ho,Aq,aoP] at h
  obtain⟨s1,h1,s2,h2,h3⟩:=h
  obtain⟨S1,a0,a1,a2⟩:=uq [o] s s1 h1
  obtain⟨b1,b2⟩:=a2 0 o rfl
  simp only[apt] at a1
  rw[a0] at b1 b2
  rw[a1] at b2
  have hr:s2=s1/\((es.getD k default).wh=true->∀ j,j∈done->(cl.getD k []).contains j=false->∀ q,(ops[j]?).bind (jt L ops)=some q->vF G s1 q):=by
   unfold Zd at h2
   cases hw:(es.getD k default).wh with
   | false=>rw[hw] at h2;simp only[aoZ,bK,aoQ] at h2;exact⟨h2.symm,fun h=>by cases h⟩
   | true =>
    rw[hw] at h2
    obtain⟨c1,c2⟩:=sa done s1 s2 h2
    exact⟨c1,fun _=>c2⟩
  obtain⟨rfl,hre⟩:=hr
  obtain⟨S,d0,d1,d2⟩:=wy r (done++[k]) s2 s' (fun j hj=>aU j (apd _ hj)) h3
  refine⟨fun p=>match p with|0=>s|p+1=>S p,rfl,d1,fun p k' hp=>?_⟩
  cases p with
  | zero =>
   simp only[ao4,aoQ] at hp
   subst hp
   refine⟨o,ho,b1,by rw[b2,<- d0],fun hw j hj=>?_⟩
   simp only[aqz,apR] at hj
   show _->∀ q,_->vF G (S 0) q
   rw[d0]
   exact hre hw j hj
  | succ p =>
   obtain⟨o',e1,e2,e3,e4⟩:=d2 p k' (by simpa using hp)
   refine⟨o',e1,e2,e3,fun hw j hj=>e4 hw j ?_⟩
   simpa using hj
theorem y6{L:List Nat}{ops:List aj}{o:aj}{q:Bool × Nat × Nat × an}(h:jt L ops o=some q):o=⟨some q.2.2.1,none,.load false q.1 q.2.1 q.2.2.2⟩/\DV false ops L q.2.2.2=.heap/\q.2.2.1∉q.2.2.2.tmps:=by
 unfold jt at h
 split at h
 ·rename_i d agg sz x
  obtain⟨h1,h⟩:=ab h
  injection h with h
  subst h
  simp only[Bool.and_eq_true,apB,aqm,apL] at h1
  refine⟨rfl,?_,h1.2⟩
  have h1:=h1.1
  generalize DV false ops L x=c at h1
  cases c with
  | heap=>rfl
  | _=>cases h1
 ·cases h
theorem rV{s x:AS}{agg:Bool}{sz:Nat}{v z:AV}{r:Option AS}(hc:fG .heap v=true)(hH:x.H=s.H)(h:cM s false agg sz v=some (z,r)):cM x false agg sz v=some (z,none)/\r=none:=by
 unfold cM at h ⊢
 cases v<;>simp only at h ⊢<;>try (cases h;done)
 case eptr cs =>
  simp only[aoO,aoS] at h ⊢
  obtain⟨w,h1,rfl,rfl⟩:=h
  exact⟨⟨w,h1,rfl,trivial⟩,rfl⟩
 case ref loc off =>
  rw[hH]
  generalize s.H[loc]?=X at h ⊢
  cases X with
  | none=>cases h
  | some ob =>
   cases ob<;>simp only[aqb,aoZ] at h ⊢<;>try (cases h;done)
   all_goals
    simp only[aoO,aoS] at h ⊢
    obtain⟨w,h1,rfl,rfl⟩:=h
    exact⟨⟨w,h1,rfl,trivial⟩,rfl⟩
 case lref=>cases hc
 case eref=>cases hc
theorem okP{nt:Nat}{L:List Nat}{ops:List aj}{pre cl:List (List Nat)}{es:List qj}{ord:List Nat}(h:okS nt L ops pre cl es ord=true) :
  pre.length=ops.length/\ord.length=ops.length/\ord.Nodup/\(∀ k,k∈ord->k<ops.length)/\(∀ k,k<ops.length->∀ e,e∈pre.getD k []->e<k) /\
  (∀ k,k<ops.length->∀ j,j∈cl.getD k []->∃ e,e∈pre.getD k []/\(j=e\/j∈cl.getD e [])) /\
  (∀ k,k<ops.length->(∀ t,t∈(es.getD k default).rs->t<nt)/\∀ t,t∈(es.getD k default).ws->t<nt) /\
  (∀ q,q<ops.length->∀ p,p<q->yJ L ops cl es ord p q=true):=by
 simp only[okS,Bool.and_eq_true,aoV,List.mem_range,List.any_eq_true,aqi,api,dR,apc] at h
 obtain⟨⟨⟨⟨⟨⟨⟨h1,h2⟩,h3⟩,h4⟩,h5⟩,h6⟩,h7⟩,h8⟩:=h
 refine⟨h1,h2,?_,h4,h5,fun k hk j hj=>?_,h7,h8⟩
 ·clear h1 h2 h4 h5 h6 h7 h8
  induction ord with
  | nil=>exact List.nodup_nil
  | cons x l ih =>
   simp only[Jr,Bool.and_eq_true,apB,aqm,apL] at h3
   exact ap5.2 ⟨h3.1,ih h3.2⟩
 ·obtain⟨e,he,h⟩:=h6 k hk j hj
  exact⟨e,he,by simpa using h⟩
theorem Ad{pre cl:List (List Nat)}{n:Nat}{X:Nat->Prop}(ko:∀ k,k<n->∀ e,e∈pre.getD k []->e<k)
  (ig:∀ k,k<n->∀ j,j∈cl.getD k []->∃ e,e∈pre.getD k []/\(j=e\/j∈cl.getD e []))
  (hX:∀ k,k<n->X k->∀ e,e∈pre.getD k []->X e):∀ k,k<n->X k->∀ j,j∈cl.getD k []->X j:=by
 intro k
 induction k using Nat.strongRecOn with
 | _ k ih =>
  intro hk hx j hj
  obtain⟨e,h1,h2⟩:=ig k hk j hj
  have aU:=ko k hk e h1
  have hxe:=hX k hk hx e h1
  rcases h2 with rfl|h2
  ·exact hxe
  ·exact ih e aU (by omega) hxe j h2
structure K5 (nt:Nat) (S:Nat->AS) (E:Nat->qj) (X:Nat->Prop) (x:AS):Prop where
 T:∀ t,t<nt->wA S (fun s=>s.T t) (fun j=>t∈(E j).ws) X x
 H:wA S (fun s=>(s.H,s.lo)) (fun j=>(E j).wh=true) X x
 G:wA S (fun s=>s.gen) (fun j=>(E j).wg=true) X x
variable {nt n k:Nat}{S:Nat->AS}{E:Nat->qj}{X:Nat->Prop}{x x1:AS}
theorem Ob(hK:zV S E n)(hk:k<n)(hB:K5 nt S E X x)(hX:¬ X k)(h1:∀ j,j<k->conflict (E k) (E j)=true->X j)(h2:∀ j,k<j->conflict (E j) (E k)=true->¬ X j)
  (hr:∀ t,t∈(E k).rs->t<nt):∀ t,t∈(E k).rs->x.T t=(S k).T t:=by
 intro t ht
 refine jZ (fun j=>hK.T t j) (aqS hk) (hB.T t (hr t ht)) (fun j hj hw=>h1 j hj ?_) (fun j hj hw=>?_)
 ·simp only[conflict,lq hw ht,aqO,aqP]
 ·rcases aqo j k with a|a|a
  ·exact a
  ·subst a;exact absurd hj hX
  ·exact absurd hj (h2 j a (by simp only[conflict,lq hw ht,aqO,aqP]))
theorem Oc(hK:zV S E n)(hk:k<n)(hB:K5 nt S E X x)(hX:¬ X k)(h1:∀ j,j<k->conflict (E k) (E j)=true->X j)(h2:∀ j,k<j->conflict (E j) (E k)=true->¬ X j)
  (hr:∀ t,t∈(E k).rs->t<nt):To (E k) (S k) x:=by
 have lt:∀ j,X j->j<k\/k<j:=fun j h=>by
  rcases aqo j k with a|a|a
  ·exact .inl a
  ·subst a;exact absurd h hX
  ·exact .inr a
 refine⟨Ob hK hk hB hX h1 h2 hr,fun hh=>?_,fun hg=>?_⟩
 ·have:=jZ (fun j=>hK.H j) (aqS hk) hB.H (fun j hj hw=>h1 j hj (by
   rcases hh with h|h<;>simp[conflict,hw,h])) (fun j hj hw=>by
   rcases lt j hj with a|a
   ·exact a
   ·exact absurd hj (h2 j a (by rcases hh with h|h<;>simp[conflict,hw,h])))
  simp only[aoS] at this
  exact this
 ·exact jZ (fun j=>hK.G j) (aqS hk) hB.G (fun j hj hw=>h1 j hj (by simp[conflict,hw,hg])) (fun j hj hw=>by
   rcases lt j hj with a|a
   ·exact a
   ·exact absurd hj (h2 j a (by simp[conflict,hw,hg])))
theorem Lj(hB:K5 nt S E X x)(h2:∀ j,k<j->conflict (E j) (E k)=true->¬ X j)(hM:dG (E k) (S (k+1)) x x1){x2:AS}(hT:∀ t,t<nt->x2.T t=x1.T t)(hH:x2.H=x1.H/\x2.lo=x1.lo/\x2.gen=x1.gen) :
  K5 nt S E (fun j=>X j\/j=k) x2:=by
 have le:∀ j,X j->(k<j->conflict (E j) (E k)=true)->j<=k:=fun j h hc=>by
  rcases ap7 k j with a|a
  ·exact absurd h (h2 j a (hc a))
  ·exact a
 refine⟨fun t htn=>?_,?_,?_⟩
 ·by_cases ht:t∈(E k).ws
  ·exact lg ht (fun j hj hw=>le j hj fun _=>by simp only[conflict,lq hw ht,aqO,aqP]) ((hT t htn).trans (hM.T t ht))
  ·exact mQ ht (hB.T t htn) ((hT t htn).trans (hM.T' t ht))
 ·by_cases hh:(E k).wh=true
  ·exact lg hh (fun j hj hw=>le j hj fun _=>by simp[conflict,hw,hh]) (by simp only[hH.1,hH.2.1,hM.H hh])
  ·have:=hM.H' (by simpa using hh)
   exact mQ hh hB.H (by simp only[hH.1,hH.2.1,this])
 ·by_cases hg:(E k).wg=true
  ·exact lg hg (fun j hj hw=>le j hj fun _=>by simp[conflict,hw,hg]) (hH.2.2.trans (hM.G hg))
  ·exact mQ hg hB.G (hH.2.2.trans (hM.G' (by simpa using hg)))
theorem Ao{L:List Nat}{ops:List aj} : ∀ {l:List aj} {es:List qj},An L ops l=some es->es.length=l.length/\∀ (i:Nat) (o:aj),l[i]?=some o->H6 L ops o=some (es.getD i default)
 | [],es,h=>by simp[An] at h;subst h;exact⟨rfl,fun i o hi=>by simp at hi⟩
 | o :: l,es,h=>by
  simp only[An,aoP,aoO] at h
  obtain⟨e,he,tX,h',rfl⟩:=h
  obtain⟨h1,h2⟩:=Ao h'
  refine⟨by simp[h1],fun i o' hi=>?_⟩
  cases i with
  | zero=>simp only[ao4,aoQ] at hi;subst hi;simpa using he
  | succ i=>simpa using h2 i o' (by simpa using hi)
theorem Fh{L:List Nat}{ops:List aj}{o:aj}{e:qj}(h:H6 L ops o=some e):∃ e0,vO false false ops L o=some e0/\e.rs=e0.rs/\e.ws=e0.ws/\e.wh=e0.wh/\e.wg=e0.wg/\(jt L ops o=none->e=e0):=by
 simp only[H6,aoO] at h
 obtain⟨e0,h1,h2⟩:=h
 refine⟨e0,h1,?_⟩
 split at h2
 ·rename_i q hq
  subst h2
  exact⟨rfl,rfl,rfl,rfl,fun h=>by rw[hq] at h;cases h⟩
 ·subst h2
  exact⟨rfl,rfl,rfl,rfl,fun _=>rfl⟩
theorem dG.congr{e e0:qj}{s1 x x1:AS}(h1:e.ws=e0.ws)(h2:e.wh=e0.wh)(h3:e.wg=e0.wg)(h:dG e0 s1 x x1):dG e s1 x x1 :=
 ⟨fun t ht=>h.T t (by rw[<- h1];exact ht),fun t ht=>h.T' t (by rw[<- h1];exact ht),fun a=>h.H (by rw[<- h2];exact a),fun a=>h.H' (by rw[<- h2];exact a),fun a=>h.G (by rw[<- h3];exact a),fun a=>h.G' (by rw[<- h3];exact a)⟩
theorem ady{L:List Nat}{ops:List aj}{o:aj}{q:Bool × Nat × Nat × an}{e:qj}(hq:jt L ops o=some q)(he:H6 L ops o=some e) :
  e.ws=[q.2.2.1]/\e.wh=false/\e.wg=false/\(∀ t,t∈q.2.2.2.tmps->t∈e.rs)/\e.rh=false:=by
 obtain⟨rfl,hc,_⟩:=y6 hq
 unfold H6 at he
 rw[hq] at he
 simp only[vO,qk,hc,xE,Option.map_some,aoQ,vl,gb] at he
 subst he
 simp
theorem Yg{o:aj}{q:Bool × Nat × Nat × an}{s s1:AS}(ho:o=⟨some q.2.2.1,none,.load false q.1 q.2.1 q.2.2.2⟩)(hc:fG .heap (q.2.2.2.addr G s.T)=true)(h:bt G cf false s o=some s1) :
  ∃ z,cM s false q.1 q.2.1 (q.2.2.2.addr G s.T)=some (z,none)/\s1=s.bM (some q.2.2.1) z:=by
 subst ho
 simp only[bt,aq,aoP] at h
 obtain⟨⟨z,so⟩,h1,h2⟩:=h
 obtain⟨h3,rfl⟩:=rV hc rfl h1
 refine⟨z,h3,?_⟩
 simpa using h2.symm
theorem adz{o:aj}{q:Bool × Nat × Nat × an}{x:AS}{z:AV}(ho:o=⟨some q.2.2.1,none,.load false q.1 q.2.1 q.2.2.2⟩)(h:cM x false q.1 q.2.1 (q.2.2.2.addr G x.T)=some (z,none)) :
  bt G cf false x o=some (x.bM (some q.2.2.1) z):=by
 subst ho
 simp[bt,aq,h]
theorem xj{s:AS}{t:Nat}(h:t<nt):(j5 nt s).T t=s.T t:=w4 h
theorem z8{x s:AS}(h1:∀ t,t<nt->x.T t=s.T t)(h2:∀ t,nt<=t->x.T t=.undef)(h3:x.H=s.H/\x.lo=s.lo/\x.gen=s.gen):x=j5 nt s:=by
 obtain⟨T,H,lo,gen⟩:=x
 obtain⟨T',H',lo',gen'⟩:=s
 simp only at h3
 obtain⟨rfl,rfl,rfl⟩:=h3
 have:T=(j5 nt ⟨T',H,lo,gen⟩).T:=funext fun t=>by
  rcases ap7 t nt with h|h
  ·rw[xj h];exact h1 t h
  ·rw[show (j5 nt ⟨T',H,lo,gen⟩).T t=.undef from wZ h];exact h2 t h
 simp only[j5,AS.mk.injEq,aqe]
 exact this
theorem Ta{L:List Nat}{ops:List aj}{pre cl:List (List Nat)}{es:List qj}{ord:List Nat}(qS:An L ops ops=some es)(oD:okS nt L ops pre cl es ord=true)
  {s s' : AS} (he:bK G cf false (Bk L ops cl es [] ord) s=some s') {Q:AS->Prop} (hQ:Q (j5 nt s')):DA G cf nt ops pre ops.length (Array.replicate ops.length false) (j5 nt s) Q:=by
 obtain⟨mf,PC,nP,aU,ko,ig,pn,PG⟩:=okP oD
 obtain⟨S,h0,hn,hS⟩:=wy ord [] s s' aU he
 rw[PC] at hn
 obtain⟨afl,UE⟩:=Ao qS
 let π:Nat->Nat:=fun p=>ord.getD p 0
 let E:Nat->qj:=fun p=>es.getD (π p) default
 have hπ:∀ p,p<ops.length->ord[p]?=some (π p):=fun p hp=>by
  have:p<ord.length:=by omega
  simp[π,this]
 have hπl:∀ p,p<ops.length->π p<ops.length:=fun p hp=>aU _ (ao0 (hπ p hp))
 have hπi:∀ p q,p<ops.length->q<ops.length->π p=π q->p=q:=fun p q hp hq h=>by
  have a:=hπ p hp
  have b:=hπ q hq
  obtain⟨a1,a2⟩:=aoR.1 a
  obtain⟨b1,b2⟩:=aoR.1 b
  exact (List.getElem_inj nP).1 (by rw[a2,b2,h])
 have zE:∀ i,i<ops.length->∃ p,p<ops.length/\π p=i:=fun i hi=>by
  have hm:i∈ord:=by
   cases hc:ord.contains i with
   | true=>simpa using hc
   | false =>
    have hni:i∉ord:=by simpa using hc
    have:=mV ops.length (i :: ord) (ap5.2 ⟨hni,nP⟩) (fun j hj=>by
     rcases ao8.1 hj with rfl|hj
     ·exact hi
     ·exact aU j hj)
    simp at this;omega
  obtain⟨p,hp,e⟩:=List.mem_iff_getElem.1 hm
  refine⟨p,by omega,?_⟩
  simp[π,hp,e]
 have hSp:∀ p,p<ops.length->∃ o,ops[π p]?=some o/\H6 L ops o=some (E p) /\
   (∀ c y,qk false ops L o.op=some (c,y)->(∀ g w,o.guard=some (g,w)->(S p).T g=.bool w)->fG c (y.addr G (S p).T)=true) /\
   bt G cf false (S p) (iB false o)=some (S (p+1)) /\
   ((E p).wh=true->∀ j,j∈ord.take p->(cl.getD (π p) []).contains j=false->∀ q,(ops[j]?).bind (jt L ops)=some q->vF G (S (p+1)) q):=fun p hp=>by
  obtain⟨o,a,b,c,d⟩:=hS p (π p) (hπ p hp)
  exact⟨o,a,UE _ o a,b,c,fun hw j hj=>d hw j (by simpa using hj)⟩
 have xc:∀ (e:qj) (q:AS),To e q q:=fun e q=>⟨fun _ _=>rfl,fun _=>⟨rfl,rfl⟩,fun _=>rfl⟩
 have hK:zV S E ops.length:=by
  have mv:∀ j,j<ops.length->dG (E j) (S (j+1)) (S j) (S (j+1)):=by
   intro j hj
   obtain⟨o,ho,hx,hc,bc,_⟩:=hSp j hj
   obtain⟨e0,he0,_,e2,e3,e4,_⟩:=Fh hx
   obtain⟨x1,h1,h2,_⟩:=pS he0 hc bc (xc _ (S j))
   rw[qa bc] at h1
   injection h1 with h1
   rw[<- h1] at h2
   exact h2.congr e2 e3 e4
  refine⟨fun t j hj hw=>(mv j hj).T' t hw,fun j hj hw=>?_,fun j hj hw=>(mv j hj).G' (by simpa using hw)⟩
  have:=(mv j hj).H' (by simpa using hw)
  simp only[this]
 have FO:∀ p q,p<q->q<ops.length->conflict (E q) (E p)=true->π p∈cl.getD (π q) []:=by
  intro p q hpq hq hc
  have:=PG q hq p hpq
  simp only[yJ,Bool.and_eq_true] at this
  have h1:=this.1.1
  simp only[E,π] at hc
  rw[hc] at h1
  simpa [π] using h1
 have main:∀ (n:Nat) (B:Array Bool) (x:AS),B.size=ops.length->(∀ l:List Nat,l.Nodup->(∀ i,i∈l->i<ops.length/\B.getD i true=false)->l.length<=n) ->
   (∀ k,k<ops.length->B.getD k false=true->∀ e,e∈pre.getD k []->B.getD e false=true) ->
   K5 nt S E (fun p=>p<ops.length/\B.getD (π p) false=true) x->(∀ t,nt<=t->x.T t=.undef)->DA G cf nt ops pre n B x Q:=by
  intro n
  have fin:∀ (B:Array Bool) (x:AS),(∀ i,i<ops.length->B.getD i false=true)->K5 nt S E (fun p=>p<ops.length/\B.getD (π p) false=true) x->(∀ t,nt<=t->x.T t=.undef)->Q x:=by
   intro B x dq hB zF
   have hX:∀ j,(j<ops.length/\B.getD (π j) false=true)↔j<ops.length:=fun j=>⟨fun h=>h.1,fun h=>⟨h,dq _ (hπl j h)⟩⟩
   have:x=j5 nt s':=by
    rw[<- hn]
    refine z8 (fun t ht=>?_) zF ?_
    ·exact jZ (fun j=>hK.T t j) (aoU _) (hB.T t ht) (fun j hj _=>(hX j).2 hj) (fun j hj _=>(hX j).1 hj)
    ·have h1:=jZ (fun j=>hK.H j) (aoU _) hB.H (fun j hj _=>(hX j).2 hj) (fun j hj _=>(hX j).1 hj)
     have h2:=jZ (fun j=>hK.G j) (aoU _) hB.G (fun j hj _=>(hX j).2 hj) (fun j hj _=>(hX j).1 hj)
     simp only[aoS] at h1
     exact⟨h1.1,h1.2,h2⟩
   rw[this];exact hQ
  have mem_ready:∀ (B:Array Bool) (i:Nat),i∈nE pre B↔i<ops.length/\B.getD i true=false/\∀ e,e∈pre.getD i []->B.getD e false=true:=by
   intro B i
   unfold nE
   rw[apK,List.mem_range,mf]
   simp only[Bool.and_eq_true,apB,aoV]
  induction n with
  | zero =>
   intro B x Tu ta fD hB zF
   have dq:∀ i,i<ops.length->B.getD i false=true:=by
    intro i hi
    cases hb:B.getD i true with
    | true =>
     have:i<B.size:=by omega
     simpa [this] using hb
    | false =>
     have:=ta [i] (by simp) (fun j hj=>by simp at hj;subst hj;exact⟨hi,hb⟩)
     simp at this
   refine⟨?_,fin B x dq hB zF⟩
   cases hr:nE pre B with
   | nil=>rfl
   | cons i r =>
    obtain⟨h1,h2,_⟩:=(mem_ready B i).1 (by rw[hr];exact ao9)
    have:=dq i h1
    have gW:i<B.size:=by omega
    simp[gW] at this h2
    rw[this] at h2
    cases h2
  | succ n ih =>
   intro B x Tu ta fD hB zF
   refine⟨fun lk=>fin B x ?_ hB zF,fun i hi=>?_⟩
   ·intro i
    induction i using Nat.strongRecOn with
    | _ i AN =>
     intro oL
     have gW:i<B.size:=by omega
     cases hb:B.getD i true with
     | true=>simpa [gW] using hb
     | false =>
      exfalso
      have:i∈nE pre B:=(mem_ready B i).2 ⟨oL,hb,fun e he=>AN e (ko i oL e he) (by have:=ko i oL e he;omega)⟩
      rw[lk] at this
      cases this
   ·obtain⟨oL,aaS,me⟩:=(mem_ready B i).1 hi
    have gW:i<B.size:=by omega
    obtain⟨p,hp,rfl⟩:=zE i oL
    obtain⟨o,ho,hx,hc,bc,Dm⟩:=hSp p hp
    have qu:¬ (B.getD (π p) false=true):=by
     simp[gW] at aaS ⊢
     exact aaS
    have ready:∀ j,j∈cl.getD (π p) []->B.getD j false=true:=by
     intro j hj
     obtain⟨e,h1,h2⟩:=ig (π p) oL j hj
     have:=me e h1
     rcases h2 with rfl|h2
     ·exact this
     ·exact Ad (X:=fun i=>B.getD i false=true) ko ig fD e (by have:=ko _ oL e h1;omega) this j h2
    have closed:∀ r,r<ops.length->B.getD (π r) false=true->π p∉cl.getD (π r) []:=fun r hr hb hm =>
     qu (Ad (X:=fun i=>B.getD i false=true) ko ig fD (π r) (hπl r hr) hb (π p) hm)
    have later:∀ j,p<j->conflict (E j) (E p)=true->¬ (j<ops.length/\B.getD (π j) false=true):=fun j hpj hcj hj=>closed j hj.1 hj.2 (FO p j hpj hj.1 hcj)
    have J6:∀ j,j<p->conflict (E p) (E j)=true->(j<ops.length/\B.getD (π j) false=true):=fun j hj hcj=>⟨by omega,ready _ (FO j p hj hp hcj)⟩
    have hX:¬ (p<ops.length/\B.getD (π p) false=true):=fun h=>qu h.2
    have step:∃ x1,bt G cf false x o=some x1/\dG (E p) (S (p+1)) x x1/\∀ t,nt<=t->x1.T t=.undef:=by
     have out:∀ x1,dG (E p) (S (p+1)) x x1->∀ t,nt<=t->x1.T t=.undef:=fun x1 hM t ht=>by
      rw[hM.T' t (fun h=>by have:=(pn (π p) oL).2 t h;omega)]
      exact zF t ht
     cases uT:jt L ops o with
     | none =>
      obtain⟨e0,he0,_,_,_,_,e5⟩:=Fh hx
      have hA:To (E p) (S p) x:=Oc hK hp hB hX J6 later (pn (π p) oL).1
      have e5' : E p=e0:=e5 uT
      rw[e5'] at hA
      obtain⟨x1,h1,h2,_⟩:=pS he0 hc bc hA
      rw[<- e5'] at h2
      exact⟨x1,h1,h2,out x1 h2⟩
     | some q =>
      obtain⟨hoq,aiN,ajn⟩:=y6 uT
      obtain⟨f1,f2,f3,f4,f5⟩:=ady uT hx
      have hTr:=Ob hK hp hB hX J6 later (pn (π p) oL).1
      have hck:fG .heap (q.2.2.2.addr G (S p).T)=true:=by
       refine hc .heap q.2.2.2 ?_ (fun g w h=>by rw[hoq] at h;cases h)
       rw[hoq];simp only[qk,aiN]
      obtain⟨z,hz1,hz2⟩:=Yg hoq hck (qa bc)
      have hzd:(S (p+1)).T q.2.2.1=z:=by rw[hz2];simp[AS.bM,dE]
      have had:q.2.2.2.addr G x.T=q.2.2.2.addr G (S p).T:=xb (s:=S p) (x:=x) (e:=E p) hTr f4
      have Px:cM x false q.1 q.2.1 (q.2.2.2.addr G x.T)=some (z,none):=by
       rw[had]
       have Co:∀ a b,a<=b->b<=ops.length->(∀ j,a<=j->j<b->¬ ((E j).wh=true))->(S b).H=(S a).H:=fun a b h1 h2 h3=>by
        have:=pA (f:=fun s:AS=>(s.H,s.lo)) (w:=fun j=>(E j).wh=true) (fun j=>hK.H j) b h1 h2 h3
        simp only[aoS] at this
        exact this.1
       have wl:∀ j,j<p->(E j).wh=true->(j<ops.length/\B.getD (π j) false=true):=by
        intro j hj hw
        refine⟨by omega,ready _ ?_⟩
        have:=PG p hp j hj
        simp only[yJ,Bool.and_eq_true] at this
        have h1:=this.1.2
        have h2:MC L ops (ord.getD p 0)=true:=by simp only[MC];rw[show ops[ord.getD p 0]?=some o from ho];simp[uT]
        have h3:(es.getD (ord.getD j 0) default).wh=true:=hw
        rw[h2,h3] at h1
        simpa [π] using h1
       rcases hB.H with ⟨i,hXi,Y3,ajm,hHe⟩|⟨jg,hHe⟩
       ·simp only[aoS] at hHe
        rcases aqo i p with hip|hip|hip
        ·have:(S p).H=(S (i+1)).H:=Co (i+1) p (by omega) (by omega) (fun j h1 h2 hw=>by
          have:=ajm j (wl j h2 hw) hw
          omega)
         exact (rV hck (by rw[hHe.1,this]) hz1).1
        ·subst hip
         have:(E i).wh=false:=f2
         rw[this] at Y3;cases Y3
        ·
         have hpi:=PG i hXi.1 p hip
         simp only[yJ,Bool.and_eq_true] at hpi
         have h1:=hpi.2
         have h2:MC L ops (ord.getD p 0)=true:=by simp only[MC];rw[show ops[ord.getD p 0]?=some o from ho];simp[uT]
         have h3:(es.getD (ord.getD i 0) default).wh=true:=Y3
         have h4:(cl.getD (ord.getD i 0) []).contains (ord.getD p 0)=false:=by
          have:=closed i hXi.1 hXi.2
          simpa [π] using this
         rw[h2,h3,h4] at h1
         simp only[Bool.and_self,aq1,aq',aoV,List.mem_range,aqi,Nat.ble_eq,apB] at h1
         have ajG:stT L ops (ord.getD p 0)=q.2.2.1 :: q.2.2.2.tmps:=by
          simp only[stT];rw[show ops[ord.getD p 0]?=some o from ho];simp[uT]
         have AE:∀ t,t∈q.2.2.1 :: q.2.2.2.tmps->(S (i+1)).T t=(S (p+1)).T t:=by
          intro t ht
          refine pA (f:=fun s:AS=>s.T t) (w:=fun j=>t∈(E j).ws) (fun j=>hK.T t j) (i+1) (by omega) (by omega) (fun j j1 j2 hw=>?_)
          rcases h1 j j2 with h|h
          ·omega
          ·rw[ajG] at h
           have:=lq (x:=(E j).ws) hw ht
           rw[show meets (E j).ws (q.2.2.1 :: q.2.2.2.tmps)=false from h] at this
           cases this
         obtain⟨_,_,_,_,_,aiC⟩:=hSp i hXi.1
         have Py:π p∈ord.take i:=by
          refine ao0 (i:=p) ?_
          rw[apa,if_pos hip];exact hπ p hp
         have hA:=aiC Y3 (π p) Py h4 q (by rw[ho];exact uT)
         unfold vF at hA
         have hpT:∀ t,t∈q.2.2.2.tmps->(S (p+1)).T t=(S p).T t:=fun t ht=>by
          rw[hz2]
          simp only[AS.bM,dE]
          rw[if_neg (fun h=>ajn (by rw[<- h];exact ht))]
         have aiB:q.2.2.2.addr G (S (i+1)).T=q.2.2.2.addr G (S p).T :=
          xb (s:=S p) (x:=S (i+1)) (e:=⟨q.2.2.2.tmps,[],false,false,false⟩) (fun t ht=>(AE t (apd _ ht)).trans (hpT t ht)) (fun t ht=>ht)
         rw[aiB,AE _ ao9,hzd] at hA
         exact (rV hck hHe.1 hA).1
       ·simp only[aoS] at hHe
        have:(S p).H=(S 0).H:=Co 0 p (by omega) (by omega) (fun j _ h2 hw=>jg j (wl j h2 hw) hw)
        exact (rV hck (by rw[hHe.1,this]) hz1).1
      have hM:dG (E p) (S (p+1)) x (x.bM (some q.2.2.1) z):=by
       refine⟨fun t ht=>?_,fun t ht=>?_,fun h=>?_,fun _=>⟨rfl,rfl⟩,fun h=>?_,fun _=>rfl⟩
       ·rw[f1] at ht
        rw[ao3.1 ht,hzd];simp[AS.bM,dE]
       ·rw[f1] at ht
        have:t≠q.2.2.1:=by simpa using ht
        simp[AS.bM,dE,this]
       ·rw[show (E p).wh=false from f2] at h;cases h
       ·rw[show (E p).wg=false from f3] at h;cases h
      exact⟨_,adz hoq Px,hM,out _ hM⟩
    obtain⟨x1,qZ,hM,anA⟩:=step
    refine⟨o,x1,ho,qZ,?_⟩
    have dB:∀ j,(B.setIfInBounds (π p) true).getD j false=true↔(B.getD j false=true\/j=π p):=by
     intro j
     by_cases hJ:π p=j
     ·subst hJ
      simp[gW]
     ·rw[getD_set_ne false hJ]
      simp[ap3 hJ]
    have hB':=Lj hB later hM (x2:=j5 nt x1) (fun t ht=>xj ht) ⟨rfl,rfl,rfl⟩
    have x5:∀ j,((j<ops.length/\B.getD (π j) false=true)\/j=p)↔(j<ops.length/\(B.setIfInBounds (π p) true).getD (π j) false=true):=by
     intro j
     rw[dB]
     constructor
     ·rintro (⟨h1,h2⟩|rfl)
      ·exact⟨h1,.inl h2⟩
      ·exact⟨hp,.inr rfl⟩
     ·rintro ⟨h1,h2|h2⟩
      ·exact .inl ⟨h1,h2⟩
      ·exact .inr (hπi j p h1 hp h2)
    refine ih (B.setIfInBounds (π p) true) _ (by simpa using Tu) (fun l nP hl=>?_) (fun j hj hjb e he=>?_) ⟨fun t ht=>lf x5 (hB'.T t ht),lf x5 hB'.H,lf x5 hB'.G⟩ (fun t ht=>wZ ht)
    ·have afw:π p∉l:=by
      intro hm
      have:=(hl _ hm).2
      simp[gW] at this
     have:=ta (π p :: l) (ap5.2 ⟨afw,nP⟩) (fun j hj=>by
      rcases ao8.1 hj with rfl|hj
      ·exact⟨oL,aaS⟩
      ·have h1:=hl j hj
       have hJ:π p≠j:=by rintro rfl;exact afw hj
       rw[getD_set_ne true hJ] at h1
       exact h1)
     simp at this
     omega
    ·rcases (dB j).1 hjb with h|rfl
     ·exact (dB _).2 (.inl (fD j hj h e he))
     ·exact (dB _).2 (.inl (me e he))
 have jg:∀ i,¬ ((Array.replicate ops.length false).getD i false=true):=by
  intro i h
  have:(Array.replicate ops.length false).getD i false=false:=by
   by_cases h:i<ops.length<;>simp[h]
  rw[this] at h
  cases h
 refine main ops.length _ _ (by simp) (fun l nP hl=>mV ops.length l nP (fun i hi=>(hl i hi).1)) (fun j _ h=>absurd h (jg j)) ?_ (fun t ht=>wZ ht)
 exact⟨fun t ht=>.inr ⟨fun j h=>absurd h.2 (jg _),by rw[h0];exact xj ht⟩,.inr ⟨fun j h=>absurd h.2 (jg _),by rw[h0];rfl⟩,.inr ⟨fun j h=>absurd h.2 (jg _),by rw[h0];rfl⟩⟩
end
end
section
def U(nt:Nat)(T:aw):Prop:=∀ t,nt<=t->T t=.undef
def PU(nt:Nat)(r:Option (AV × Option AS)):Prop:=∀ z s',r=some (z,some s')->U nt s'.T
section
variable {nt:Nat}{G:Nat->List AV}{cf:cu}{s:AS}{α:Type}
theorem PU.none:PU nt none:=fun _ _ h=>by cases h
theorem PU.stay{z:AV} : PU nt (some (z,Option.none)):=fun _ _ h=>by cases h
theorem PU.c{b:Bool}{z:AV}{s' : AS}(h:U nt s'.T):PU nt (some (z,bif b then some s' else Option.none)):=fun _ _ e=>by cases b<;>cases e;exact h
theorem PU.ok{z:AV}{s' : AS}(h:U nt s'.T):PU nt (some (z,some s')):=fun _ _ e=>by cases e;exact h
theorem PU.cond{b:Bool}{x y:Option (AV × Option AS)}(h1:PU nt x)(h2:PU nt y):PU nt (bif b then x else y):=by cases b<;>assumption
theorem PU.bind{x:Option α}{f:α->Option (AV × Option AS)}(h:∀ a,PU nt (f a)):PU nt (x.bind f):=by
 cases x with
 | none=>exact PU.none
 | some a=>exact h a
theorem PU.map{x:Option α}{f:α->AV × Option AS}(h:∀ a,PU nt (some (f a))):PU nt (x.map f):=by
 cases x with
 | none=>exact PU.none
 | some a=>exact h a
theorem U.put{T:aw}{t:Nat}{v Y:AV}(h:U nt T)(hT:T t=Y)(hY:Y≠.undef):U nt (T.put t v):=fun k hk=>by
 rw[db]
 split
 ·rename_i e
  subst e
  rw[h k hk] at hT
  exact absurd hT.symm hY
 ·exact h k hk
theorem U.bD(h:U nt s.T)(y:an):U nt (s.bD y).T:=by
 unfold AS.bD
 split
 ·split
  ·rename_i hT;exact h.put hT (by simp[AV.undef])
  ·exact h
 ·exact h
theorem As{sz:Nat}{a v:AV}{s1:AS}(he:gl s sz a v=some s1)(h:U nt s.T):U nt s1.T:=by
 unfold gl at he
 split at he
 ·cases he
 obtain⟨_,he⟩:=ab he
 split at he
 ·split at he
  ·obtain⟨_,he⟩:=ab he
   injection he with he
   rw[<- he];exact h
  ·obtain⟨_,he⟩:=ab he
   injection he with he
   rw[<- he];exact h
  ·cases he
 ·split at he
  ·rename_i hT
   obtain⟨_,he⟩:=ab he
   injection he with he
   rw[<- he];exact h.put hT (by simp[AV.undef])
  ·cases he
 ·split at he
  ·rename_i hT
   obtain⟨_,he⟩:=ab he
   simp only[aoP] at he
   obtain⟨r,_,he⟩:=he
   obtain⟨_,he⟩:=ab he
   injection he with he
   rw[<- he];exact h.put hT (by simp[AV.undef])
  ·cases he
 ·cases he
theorem Kf{y:an}{v:AV}{s1:AS}(he:Ax s y=some (v,s1))(h:U nt s.T):U nt s1.T:=by
 unfold Ax at he
 split at he
 ·split at he
  ·rename_i hT
   simp only[aoQ,aoS] at he
   rw[<- he.2];exact h.put hT (by simp[AV.undef])
  ·cases he
 ·split at he
  ·simp only[aoQ,aoS] at he
   rw[<- he.2];exact h
  ·cases he
 ·cases he
theorem ZR(h:U nt s.T)(o:fc):PU nt (aq G cf s o):=by
 have set:∀ {t:Nat} {v Y:AV},s.T t=Y->Y≠.undef->U nt (s.T.put t v):=fun a b=>h.put a b
 cases o with
 | store sz x y =>
  intro z s' he
  simp only[aq,aoO,aoS,aoQ] at he
  obtain⟨s1,he,_,rfl⟩:=he
  exact (As he h).bD _
 | oB sz x y =>
  intro z s' he
  simp only[aq,aoO,aoS,aoQ] at he
  obtain⟨s1,he,_,rfl⟩:=he
  exact (As he (by rw[(KO s _).1];exact h)).bD _
 | wJ kz ka va vz ks m k v =>
  intro z s' he
  simp only[aq,aoO,aoS,aoQ] at he
  obtain⟨s1,he,_,rfl⟩:=he
  have h1:U nt s1.T:=by
   unfold nj at he
   split at he
   ·split at he
    ·simp only[aoP] at he
     obtain⟨_,_,_,_,he⟩:=he
     obtain⟨_,he⟩:=ab he
     simp only[aoO] at he
     obtain⟨_,_,he⟩:=he
     rw[<- he];exact h
    ·cases he
   ·cases he
  exact h1.bD _
 | call f args =>
  intro z s' he
  simp only[aq] at he
  split at he
  ·obtain⟨_,he⟩:=ab he
   simp only[aoO,aoS] at he
   obtain⟨⟨r,c⟩,hr,_,he⟩:=he
   simp only[aoO] at he
   obtain⟨c',rfl,rfl⟩:=he
   exact h
  ·cases he
 | tK f pre x post =>
  intro z s' he
  simp only[aq] at he
  obtain⟨_,he⟩:=ab he
  simp only[aoP,aoO,aoS,aoQ] at he
  obtain⟨⟨xv,s1⟩,hx,⟨r,c⟩,hr,_,rfl⟩:=he
  cases c with
  | none=>exact Kf hx h
  | some c'=>exact Kf (s1:=s1) hx h
 | _ =>
  simp only[aq,kV,fe,cM,il,gU,pF,pG,sX,rO]
  repeat' first
   | exact PU.none
   | exact PU.stay
   | exact PU.ok h
   | exact PU.c h
   | exact PU.c (set (by assumption) (by simp[AV.undef]))
   | exact PU.ok (set (by assumption) (by simp[AV.undef]))
   | refine PU.cond ?_ ?_
   | refine PU.bind fun _=>?_
   | refine PU.map fun _=>?_
   | split
def C8(nt:Nat)(is:List aj):Bool:=is.all fun o=>match o.dst with|some d=>Nat.blt d nt|none=>true
theorem C6{s:AS}{d:Option Nat}{v:AV}(h:U nt s.T)(hd:∀ k,d=some k->k<nt):U nt (s.bM d v).T:=by
 cases d with
 | none=>exact h
 | some k =>
  intro t ht
  show (s.T.put k v) t=.undef
  rw[db,if_neg (by have:=hd k rfl;omega)]
  exact h t ht
theorem OR{draw:Bool}{o:aj}{s s' : AS}(h:U nt s.T)(hd:∀ k,o.dst=some k->k<nt)(he:bt G cf draw s o=some s'):U nt s'.T:=by
 have run:((aq G cf s o.op).bind fun r=>match r.2 with
   | none=>cond (draw&&(aO r.1).isSome) none (some (s.bM o.dst r.1))
   | some s'=>cond draw none (some (s'.bM o.dst r.1)))=some s'->U nt s'.T:=by
  intro he
  simp only[aoP] at he
  obtain⟨⟨z,so⟩,h1,h2⟩:=he
  cases so with
  | none =>
   simp only at h2
   cases hb:(draw&&(aO z).isSome) with
   | true=>rw[hb] at h2;cases h2
   | false=>rw[hb] at h2;injection h2 with h2;rw[<- h2];exact C6 h hd
  | some s1 =>
   simp only at h2
   cases draw with
   | true=>cases h2
   | false=>injection h2 with h2;rw[<- h2];exact C6 (ZR h o.op z s1 h1) hd
 unfold bt at he
 cases hg:o.guard with
 | none=>simp only[hg] at he;exact run he
 | some gw =>
  obtain⟨g,w⟩:=gw
  simp only[hg] at he
  generalize s.T g=Y at he
  cases Y with
  | bool b =>
   simp only at he
   cases hb:(b==w) with
   | true=>rw[hb] at he;exact run he
   | false=>rw[hb] at he;simp only[aoZ,aoQ] at he;rw[<- he];exact C6 h hd
  | tuple vs=>cases vs with
   | nil=>simp only[aoQ] at he;rw[<- he];exact C6 h hd
   | cons v vs=>cases he
  | _=>cases he
theorem B'{draw:Bool} : ∀ (l:List aj) (s s' : AS),C8 nt l=true->U nt s.T->bK G cf draw l s=some s'->U nt s'.T
 | [],s,s',_,h,he=>by simp only[bK,aoQ] at he;rw[<- he];exact h
 | o :: l,s,s',hp,h,he=>by
  simp only[bK,aoP] at he
  obtain⟨s1,h1,h2⟩:=he
  simp only[C8,List.all_cons,Bool.and_eq_true] at hp
  refine B' l s1 s' hp.2 (OR h (fun k hk=>?_) h1) h2
  have:=hp.1
  rw[hk] at this
  simpa [api] using this
def rF(nt:Nat)(L:List Nat):bJ->Option bJ
 | .tG nt' ops pre=>cond (Nat.beq nt' nt) ((Ze nt L ops pre).bind fun l=>cond (C8 nt l) (some (.region false l)) none) none
 | .region d ops=>cond (C8 nt ops) (some (.region d ops)) none
 | .seq a b=>(rF nt L a).bind fun x=>(rF nt L b).map (.seq x ·)
 | .cond c a b=>(rF nt L a).bind fun x=>(rF nt L b).map (.cond c x ·)
 | .block i a=>(rF nt L a).map (.block i ·)
 | .loop a=>(rF nt L a).map .loop
 | .skip=>some .skip
 | .exit i=>some (.exit i)
 | .ret=>some .ret
def Yl(fn:ax):Option ax:=(rF fn.nt fn.locals fn.body).map fun b=>{ fn with body:=b }
theorem Hb:∀ (l:List aj) (s s' : AS) {Q:AS->Prop},bK G cf false l s=some s'->Q s'->kZ G cf l s Q
 | [],s,s',Q,he,hq=>by simp only[bK,aoQ] at he;rw[<- he] at hq;exact hq
 | o :: l,s,s',Q,he,hq=>by
  simp only[bK,aoP] at he
  obtain⟨s1,h1,h2⟩:=he
  unfold kZ
  cases hn:iX o with
  | none=>exact⟨s1,h1,Hb l s1 s' h2 hq⟩
  | some t =>
   exfalso
   obtain⟨ho,hg⟩:=yE hn
   unfold bt at h1
   rw[hg,ho] at h1
   simp[aq] at h1
theorem TD{s:AS}(h:U nt s.T):j5 nt s=s:=(z8 (fun _ _=>rfl) h ⟨rfl,rfl,rfl⟩).symm
theorem R2{f:AS->Option (bp × AS)}{F:AS->(bp->AS->Prop)->Prop}(h:∀ s e s' (Q:bp->AS->Prop),U nt s.T->f s=some (e,s')->U nt s'.T/\(Q e s'->F s Q)) :
  ∀ (n:Nat) (s:AS) (e:bp) (s' : AS) (Q:bp->AS->Prop),U nt s.T->iter f n s=some (e,s')->U nt s'.T/\(Q e s'->wc F n s Q)
 | 0,_,_,_,_,_,he=>by cases he
 | n+1,s,e,s',Q,hU,he=>by
  simp only[iter,aoP] at he
  obtain⟨⟨e1,s1⟩,h1,h2⟩:=he
  cases e1 with
  | normal =>
   simp only at h2
   have YH:=(h s .normal s1 (fun _ _=>True) hU h1).1
   obtain⟨k1,k2⟩:=R2 h n s1 e s' Q YH h2
   exact⟨k1,fun hq=>(h s .normal s1 _ hU h1).2 (k2 hq)⟩
  | exit i =>
   simp only[aoQ,aoS] at h2
   obtain⟨rfl,rfl⟩:=h2
   exact⟨(h s _ _ (fun _ _=>True) hU h1).1,fun hq=>(h s _ _ _ hU h1).2 hq⟩
  | ret =>
   simp only[aoQ,aoS] at h2
   obtain⟨rfl,rfl⟩:=h2
   exact⟨(h s _ _ (fun _ _=>True) hU h1).1,fun hq=>(h s _ _ _ hU h1).2 hq⟩
theorem lF{L:List Nat}(n:Nat):∀ (c c' : bJ),rF nt L c=some c'->∀ (s:AS) (e:bp) (s' : AS) (Q:bp->AS->Prop),U nt s.T->im G cf n c' s=some (e,s') ->
  U nt s'.T/\(Q e s'->WN G cf c s Q)
 | .skip,c',hc,s,e,s',Q,hU,he=>by
  simp only[rF,aoQ] at hc
  subst hc
  simp only[im,aoQ,aoS] at he
  obtain⟨rfl,rfl⟩:=he
  exact⟨hU,fun h=>h⟩
 | .exit i,c',hc,s,e,s',Q,hU,he=>by
  simp only[rF,aoQ] at hc
  subst hc
  simp only[im,aoQ,aoS] at he
  obtain⟨rfl,rfl⟩:=he
  exact⟨hU,fun h=>h⟩
 | .ret,c',hc,s,e,s',Q,hU,he=>by
  simp only[rF,aoQ] at hc
  subst hc
  simp only[im,aoQ,aoS] at he
  obtain⟨rfl,rfl⟩:=he
  exact⟨hU,fun h=>h⟩
 | .region d ops,c',hc,s,e,s',Q,hU,he=>by
  simp only[rF] at hc
  obtain⟨hp,hc⟩:=ab hc
  injection hc with hc
  subst hc
  simp only[im,aoO,aoS] at he
  obtain⟨s1,h1,rfl,rfl⟩:=he
  refine⟨B' ops s _ hp hU h1,fun hq=>?_⟩
  cases d with
  | false=>exact Hb ops s _ h1 hq
  | true=>exact⟨_,h1,hq⟩
 | .tG nt' ops pre,c',hc,s,e,s',Q,hU,he=>by
  simp only[rF] at hc
  obtain⟨PA,hc⟩:=ab hc
  have PA:=apQ PA
  subst PA
  simp only[aoP] at hc
  obtain⟨l,hl,hc⟩:=hc
  obtain⟨hp,hc⟩:=ab hc
  injection hc with hc
  subst hc
  simp only[im,aoO,aoS] at he
  obtain⟨s1,h1,rfl,rfl⟩:=he
  have YH:=B' l s _ hp hU h1
  refine⟨YH,fun hq=>?_⟩
  simp only[Ze,aoP] at hl
  obtain⟨es,qS,hl⟩:=hl
  obtain⟨oD,hl⟩:=ab hl
  injection hl with hl
  subst hl
  exact Ta qS oD h1 (by rw[TD YH];exact hq)
 | .seq a b,c',hc,s,e,s',Q,hU,he=>by
  simp only[rF,aoP,aoO] at hc
  obtain⟨a',ha,b',hb,rfl⟩:=hc
  simp only[im,aoP] at he
  obtain⟨⟨e1,s1⟩,h1,h2⟩:=he
  cases e1 with
  | normal =>
   simp only at h2
   have YH:=(lF n a a' ha s .normal s1 (fun _ _=>True) hU h1).1
   obtain⟨k1,k2⟩:=lF n b b' hb s1 e s' Q YH h2
   exact⟨k1,fun hq=>(lF n a a' ha s .normal s1 (andThen (fun s'=>WN G cf b s' Q) Q) hU h1).2 (k2 hq)⟩
  | exit i =>
   simp only[aoQ,aoS] at h2
   obtain⟨rfl,rfl⟩:=h2
   have:=lF n a a' ha s (.exit i) s1 (andThen (fun s'=>WN G cf b s' Q) Q) hU h1
   exact⟨this.1,this.2⟩
  | ret =>
   simp only[aoQ,aoS] at h2
   obtain⟨rfl,rfl⟩:=h2
   have:=lF n a a' ha s .ret s1 (andThen (fun s'=>WN G cf b s' Q) Q) hU h1
   exact⟨this.1,this.2⟩
 | .cond c a b,c',hc,s,e,s',Q,hU,he=>by
  simp only[rF,aoP,aoO] at hc
  obtain⟨a',ha,b',hb,rfl⟩:=hc
  simp only[im] at he
  split at he
  ·rename_i t ht
   cases t with
   | true =>
    have:=lF n a a' ha s e s' Q hU he
    exact⟨this.1,fun hq=>⟨true,ht,fun _=>this.2 hq,fun h=>by cases h⟩⟩
   | false =>
    have:=lF n b b' hb s e s' Q hU he
    exact⟨this.1,fun hq=>⟨false,ht,fun h=>(by cases h),fun _=>this.2 hq⟩⟩
  ·cases he
 | .block i a,c',hc,s,e,s',Q,hU,he=>by
  simp only[rF,aoO] at hc
  obtain⟨a',ha,rfl⟩:=hc
  simp only[im,aoO] at he
  obtain⟨⟨e1,s1⟩,h1,h2⟩:=he
  have hs:=lF n a a' ha s e1 s1 (leave i Q) hU h1
  cases e1 with
  | normal =>
   simp only[aoS] at h2
   obtain⟨rfl,rfl⟩:=h2
   exact⟨hs.1,hs.2⟩
  | ret =>
   simp only[aoS] at h2
   obtain⟨rfl,rfl⟩:=h2
   exact⟨hs.1,hs.2⟩
  | exit j =>
   simp only[aoS] at h2
   obtain⟨h2,rfl⟩:=h2
   refine⟨hs.1,fun hq=>hs.2 ?_⟩
   unfold leave
   simp only
   rw[<- h2] at hq
   cases hb:Nat.beq j i<;>rw[hb] at hq<;>exact hq
 | .loop a,c',hc,s,e,s',Q,hU,he=>by
  simp only[rF,aoO] at hc
  obtain⟨a',ha,rfl⟩:=hc
  simp only[im] at he
  have:=R2 (F:=WN G cf a) (fun s e s' Q hU he=>lF n a a' ha s e s' Q hU he) n s e s' Q hU he
  exact⟨this.1,fun hq=>⟨n,this.2 hq⟩⟩
end
section
variable {P:Program}{G:Nat->List AV}{H:ah}
theorem JI{cf:cu}(iu:cP P G cf)(hm:P.follows .mixedOrders=true){f:FuncId}{fn:Func}(sq:P.funcs[f]?=some fn){bF locals muts:List Nat}{kK v:ax}(hc:kU P bF locals muts fn=some kK)(hv:Yl kK=some v)
  {n:Nat} {args:List AV} {r:AV} {c:Option fQ} (he:tv G cf n v args H=some (r,c)) :
  (fn.body.isSome=true/\fn.name≠ "runtime.NumGoroutine")/\jI H c /\
  ∀ (base:Nat) (gh:Gh) (w:World) (vs:Array Value),aK G base H gh w->clean gh->vs.size=args.length->(∀ (j:Nat) (v:Value) (x:AV),vs[j]?=some v->args[j]?=some x->CR gh H.length w (.par j) v x) ->
   Calls P f vs w fun e w'=>∃ v aH,e=.returned v/\lG G base H gh w r c v aH w':=by
 simp only[kU,aoP] at hc
 obtain⟨code,lN,b,hb,rs,x6,hc⟩:=hc
 obtain⟨h0,hc⟩:=ab hc
 injection hc with hc
 subst hc
 simp only[Yl,aoO] at hv
 obtain⟨b',fP,rfl⟩:=hv
 simp only[Bool.and_eq_true,Nat.ble_eq,bne_iff_ne,ne_eq] at h0
 simp only[tv] at he
 obtain⟨h1,he⟩:=ab he
 have Md:args.length=fn.params.size+fn.nfree:=by simpa [dR] using h1
 simp only[aoP] at he
 obtain⟨⟨ex,s'⟩,bc,he⟩:=he
 have pN:jI H c:=by
  have qn:=qO (H:=H) (fun f args H r c h=>(iu f args H r c h).2.1) n b' _ s' ex bc ⟨aoU _,aoU _,fun _ _=>rfl⟩
  cases ex with
  | normal=>exact j7 qn he
  | exit id=>cases he
  | ret=>exact j7 qn he
 refine⟨⟨by rw[lN];rfl,h0.2⟩,pN,fun base gh w vs hW ig po cr=>?_⟩
 refine calls_of_wp sq lN ?_
 have gA:vs.size<=fn.ntmps:=by omega
 have hI:=um (locals:=locals) (muts:=muts) hW po gA cr
 have hU:U fn.ntmps (gn args):=fun t ht=>by
  unfold gn
  rw[apg,aqc (by omega)];rfl
 have hwn:=(lF (G:=G) (cf:=cf) n b b' fP _ ex s' (fun e s1=>e=ex/\s1=s') hU bc).2 ⟨rfl,rfl⟩
 refine jY iu hm code b hb _ gh.taken w _ _ _ hI hwn (fun e s1 a' aH w' hr iG=>?_)
 obtain⟨rfl,rfl⟩:=hr
 cases e with
 | exit i=>cases he
 | normal =>
  obtain⟨_,v,Cl,hv,hR⟩:=lu (P:=P) hW ig iG x6 he
  exact⟨iG.F.defers,v,hv,v,Cl,rfl,hR⟩
 | ret =>
  obtain⟨_,v,Cl,hv,hR⟩:=lu (P:=P) hW ig iG x6 he
  exact⟨iG.F.defers,v,hv,v,Cl,rfl,hR⟩
structure NX (P:Program) (A:AP):Prop where
 mixed:P.follows .mixedOrders=true
 fns:∀ f v,A.fns f=some v->∃ fn bF locals muts kK,P.funcs[f]?=some fn/\kU P bF locals muts fn=some kK/\(v=kK\/Yl kK=some v)
 ov:∀ f g,A.ov f=some g->jb P A.aN f g
theorem vd{A:AP}(h:NX P A):∀ n,cP P A.aN (zd A n)
 | 0=>fun f args H r c he=>by cases he
 | n+1=>fun f args H r c he=>by
  simp only[zd] at he
  split at he
  ·rename_i g hg
   obtain⟨h0,he⟩:=ab he
   obtain⟨k1,k2,k3⟩:=h.ov f g hg args H r c he
   refine⟨k1,k2,fun base gh w vs hW ig po cr=>k3 base gh w vs hW ig po (fun j v x hv hx=>?_)⟩
   rcases cr j v x hv hx with h|⟨e,rfl,_⟩
   ·exact h
   ·have:=aoV.1 h0 _ (ao0 hx)
    simp[pV] at this
  ·split at he
   ·cases he
   ·rename_i v hf
    obtain⟨fn,bF,locals,muts,kK,sq,hc,hv⟩:=h.fns f v hf
    rcases hv with rfl|hv
    ·obtain⟨⟨h1,h2⟩,h3,h4⟩:=yV (vd h n) h.mixed sq hc he
     exact⟨⟨fn,sq,h1,h2⟩,h3,h4⟩
    ·obtain⟨⟨h1,h2⟩,h3,h4⟩:=JI (vd h n) h.mixed sq hc hv he
     exact⟨⟨fn,sq,h1,h2⟩,h3,h4⟩
theorem Ok{A:AP}(h:NX P A){f:FuncId} : jb P A.aN f (aE A f):=by
 intro args H r c he
 obtain⟨n,hn⟩:=lJ.1 he
 obtain⟨k1,k2,k3⟩:=vd h n f args H r c hn
 exact⟨k1,k2,fun base gh w vs hW ig po cr=>k3 base gh w vs hW ig po fun j v x hv hx=>.inl (cr j v x hv hx)⟩
end
end
end Go.Abs
namespace Go.Proofs.YthbncinhhdogpaaGreatDoor
open Go Go.Abs Go.Proofs
def iz:ax:=⟨[3,4,5,6,7,8,9,10,11,13,14,15,118,186,17,22,47,98,152,700002,700012],[2,12,49,100,23,999998,999999],[500018],264,1,[.cell 2 true 2],cR [oO 2 (.allocL [.ae,.ae])] (cR [af 16 0,oO 17 (.build [.ae,.ae,.ae,.int .i64 0,.int .i64 0,.int .i64 0,.int .i64 0] [(2,1,.tmp 16)]),oO 18 (.BB (aT 17)),ai 3 18] (cR [af 19 3,af 20 3,dN 21 16 20,oO 22 (.build [.int .i64 0,.int .i64 0,.int .i64 0,.str [],.ae,.ae] [(0,3,.tmp 21),(3,1,.cg (.str [99,111,114,101]))]),oO 23 (.lS 6 [[.int .i64 0,.int .i64 0,.int .i64 0,.str [],.slice [] false,.slice [] false]] [(0,.tmp 22)]),jo 24 19,cd 25 0 24,cd 26 0 25,fK 1 26 23] (.seq (cR [af 27 3,fb 28 17 [aT 27,aI 2],aM 29 .eql 28 1] (cY 29 (.region false [af 30 3,af 31 3,dF 31,jo 32 31,dF 32,cd 33 0 32,dF 33,cd 34 0 33,dF 34,aP 35 1 34,af 36 3,af 38 3,dF 38,jo 39 38,dF 39,cd 40 0 39,dF 40,cd 41 0 40,dF 41,aP 42 1 41,dF 42,oIx 43 6 (aT 42) (aI 0),dF 43,cd 44 0 43,dF 44,az 45 3 44,oO 46 (nN 3 [[.int .i64 0,.int .i64 0,.int .i64 0]] [(0,.tmp 45)]),dN 37 16 36,oN (.same false 1 35 (aT 34)),oN (.same false 1 42 (aT 41)),oN (.same true 3 45 (aT 44)),oO 47 (.build [.int .i64 0,.int .i64 0,.int .i64 0,.str [],.ae,.ae] [(0,3,.tmp 37),(3,1,.cg (.str [109,105,108,108])),(4,1,.tmp 46)]),oO 48 (nN 6 [[.int .i64 0,.int .i64 0,.int .i64 0,.str [],.slice [] false,.slice [] false]] [(0,.tmp 47)]),oO 49 (.appendO 6 88 (aT 35) (aT 48)),dF 30,jo 50 30,dF 50,cd 51 0 50,dF 51,cd 52 0 51,dF 52,fK 1 52 49]) .skip)) (cR [af 53 3,fb 54 17 [aT 53,aI 5],sv 55 .add (aI 4) (aT 54),ai 4 55] (cR [oO 56 (nN 1 [[.int .i64 0],[.int .i64 0],[.int .i64 0],[.int .i64 0],[.int .i64 0],[.int .i64 0],[.int .i64 0],[.int .i64 0]] [(0,.cg (.int .i64 0)),(1,.cg (.int .i64 1)),(2,.cg (.int .i64 2)),(3,.cg (.int .i64 2)),(4,.cg (.int .i64 4)),(5,.cg (.int .i64 5)),(6,.cg (.int .i64 3)),(7,.cg (.int .i64 0))]),ai 5 56] (cR [oO 57 (nN 1 [[.str []],[.str []],[.str []],[.str []],[.str []],[.str []],[.str []],[.str []]] [(0,.cg (.str [80,111,105,110,116])),(1,.cg (.str [69,118,101,110,116])),(2,.cg (.str [102])),(3,.cg (.str [103])),(4,.cg (.str [116])),(5,.cg (.str [99])),(6,.cg (.str [115,116,101,112])),(7,.cg (.str [83,116,97,116,101]))]),ai 6 57] (.seq (cR [aQ 7 (aI 0)] (.block 0 (.loop (.seq (cR [af 58 7,af 59 4,bC 60 .lss 58 59] (cY 60 .skip (.exit 0))) (.seq (.block 1 (cR [aQ 8 (aI 0)] (.seq (cR [af 63 7,aM 64 .gtr 63 1] (cY 64 (.region false [af 65 3,af 66 3,jo 67 66,cd 68 0 67,cd 69 0 68,aP 70 1 69,cU 71 .sl 70,dv 72 17 65 71,ai 8 72]) .skip)) (cR [af 73 3,af 74 3,dF 74,jo 75 74,dF 75,cd 76 0 75,dF 76,cd 77 1 76,dF 77,aP 78 1 77,af 79 3,af 81 5,af 82 7,dF 81,da 83 1 81 82,dF 83,aP 84 1 83,af 85 3,dF 85,jo 86 85,dF 86,cd 87 0 86,dF 87,cd 88 0 87,dF 88,aP 89 1 88,af 90 8,dF 89,da 91 6 89 90,dF 91,cd 92 0 91,dF 92,az 93 3 92,af 94 6,af 95 7,dF 94,da 96 1 94 95,dF 96,aP 97 1 96,dN 80 16 79,oN (.same false 1 78 (aT 77)),oN (.same false 1 84 (aT 83)),oN (.same false 1 89 (aT 88)),oN (.same true 3 93 (aT 92)),oN (.same false 1 97 (aT 96)),oO 98 (.build [.int .i64 0,.int .i64 0,.int .i64 0,.int .i64 0,.int .i64 0,.int .i64 0,.int .i64 0,.str [],.ae,.int .i64 0,.int .i64 0,.int .i64 0,.int .i64 0,.ae,.int .i64 0,.int .i64 0,.int .i64 0,.int .i64 0,.int .i64 0,.int .i64 0,.int .i64 0,.int .i64 0,.int .i64 0,.int .i64 0,.int .i64 0,.int .i64 0,.ae,.ae,.ae,.int .i64 0,.ae] [(0,3,.tmp 80),(3,1,.tmp 84),(4,3,.tmp 93),(7,1,.tmp 97)]),oO 99 (nN 31 [[.int .i64 0,.int .i64 0,.int .i64 0,.int .i64 0,.int .i64 0,.int .i64 0,.int .i64 0,.str [],.slice [] false,.int .i64 0,.int .i64 0,.int .i64 0,.int .i64 0,.slice [] false,.int .i64 0,.int .i64 0,.int .i64 0,.int .i64 0,.int .i64 0,.int .i64 0,.int .i64 0,.int .i64 0,.int .i64 0,.int .i64 0,.int .i64 0,.int .i64 0,.slice [] false,.slice [] false,.slice [] false,.int .i64 0,.slice [] false]] [(0,.tmp 98)]),oO 100 (.appendO 31 352 (aT 78) (aT 99)),dF 73,jo 101 73,dF 101,cd 102 0 101,dF 102,cd 103 1 102,dF 103,fK 1 103 100] (.region false [af 104 3,dF 104,jo 105 104,dF 105,cd 106 0 105,dF 106,cd 107 0 106,dF 107,aP 108 1 107,af 109 8,af 110 3,dF 110,jo 111 110,dF 111,cd 112 0 111,dF 112,cd 113 0 112,dF 113,aP 114 1 113,af 115 8,dF 114,da 116 6 114 115,dF 116,cd 117 5 116,af 119 3,dF 119,jo 120 119,dF 120,cd 121 0 120,dF 121,cd 122 1 121,dF 122,aP 123 1 122,af 124 7,dF 123,da 125 31 123 124,dF 125,cd 126 0 125,dF 126,az 127 3 126,oO 128 (nN 3 [[.int .i64 0,.int .i64 0,.int .i64 0]] [(0,.tmp 127)]),dF 117,oO 118 (.load true false 1 (aT 117)),oN (.same false 1 108 (aT 107)),oN (.same false 1 123 (aT 122)),oN (.same true 3 127 (aT 126)),lT 129 3 24 118 128,dF 108,da 130 6 108 109,dF 130,cd 131 5 130,dF 131,fK 1 131 129]))))) (.region false [af 61 7,aM 62 .add 61 1,ai 7 62])))))) (.seq (cR [aQ 9 (aI 0)] (.block 2 (.loop (.seq (cR [af 132 9,af 133 4,bC 134 .lss 132 133] (cY 134 .skip (.exit 2))) (.seq (.block 3 (cR [af 137 3,fb 138 17 [aT 137,aI 3],sv 139 .add (aI 1) (aT 138),ai 10 139] (cR [aQ 11 (aI 0)] (.block 4 (.loop (.seq (cR [af 140 11,af 141 10,bC 142 .lss 140 141] (cY 142 .skip (.exit 4))) (.seq (.block 5 (cR [af 145 3,dN 146 16 145,oO 147 (nN 1 [[.str []],[.str []],[.str []]] [(0,.cg (.str [97])),(1,.cg (.str [98])),(2,.cg (.str [100]))]),af 148 11,dF 147,da 149 1 147 148,oN (.jR .TA (aT 149)),aP 150 1 149,af 151 11,oO 152 (.build [.int .i64 0,.int .i64 0,.int .i64 0,.str [],.int .i64 0,.int .i64 0,.int .i64 0,.int .i64 0,.ae,.int .i64 0,.int .i64 0] [(0,3,.tmp 146),(3,1,.tmp 150),(10,1,.tmp 151)]),oO 12 (.allocL [.int .i64 0,.int .i64 0,.int .i64 0,.str [],.int .i64 0,.int .i64 0,.int .i64 0,.int .i64 0,.ae,.int .i64 0,.int .i64 0]),kb 12 12,fK 11 12 152] (.seq (cR [af 153 9,aM 154 .gtr 153 1] (cY 154 (.region false [af 155 3,dN 156 18 155,cd 157 4 12,fK 5 157 156]) (cR [af 158 3,fb 159 17 [aT 158,aI 2],aM 160 .eql 159 1] (cY 160 (.region false [oO 161 (.build [.int .i64 0,.int .i64 0,.int .i64 0,.int .i64 0,.slice [] true] [(0,1,.cg (.int .i64 1))]),dN 162 19 161,cd 163 4 12,fK 5 163 162]) .skip)))) (.seq (cR [af 164 5,af 165 9,da 166 1 164 165,aP 167 1 166,aM 168 .eql 167 4] (cY 168 (.region false [af 169 3,fb 170 17 [aT 169,aI 5],cd 171 9 12,fK 1 171 170]) .skip)) (.region false [af 172 3,dF 172,jo 173 172,dF 173,cd 174 0 173,dF 174,cd 175 1 174,dF 175,aP 176 1 175,af 177 9,af 178 3,dF 178,jo 179 178,dF 179,cd 180 0 179,dF 180,cd 181 1 180,dF 181,aP 182 1 181,af 183 9,dF 182,da 184 31 182 183,dF 184,cd 185 8 184,kb 12 12,az 187 11 12,oO 188 (nN 11 [[.int .i64 0,.int .i64 0,.int .i64 0,.str [],.int .i64 0,.int .i64 0,.int .i64 0,.int .i64 0,.slice [] false,.int .i64 0,.int .i64 0]] [(0,.tmp 187)]),dF 185,oO 186 (.load true false 1 (aT 185)),oN (.same false 1 176 (aT 175)),lT 189 11 112 186 188,dF 176,da 190 31 176 177,dF 190,cd 191 8 190,dF 191,fK 1 191 189]))))) (.region false [af 143 11,aM 144 .add 143 1,ai 11 144])))))))) (.region false [af 135 9,aM 136 .add 135 1,ai 9 136])))))) (.seq (cR [aQ 13 (aI 0)] (.block 6 (.loop (.seq (cR [af 192 13,af 193 4,bC 194 .lss 192 193] (cY 194 .skip (.exit 6))) (.seq (.block 7 (.seq (cR [af 197 5,af 198 13,da 199 1 197 198,aP 200 1 199,dN 201 20 200,oO 202 (.un .not (aT 201))] (cY 202 (.exit 7) .skip)) (cR [aQ 14 (.cg (.slice [] true))] (.seq (cR [aQ 15 (aI 0)] (.block 8 (.loop (.seq (cR [af 203 15,af 204 3,jo 205 204,cd 206 0 205,cd 207 1 206,aP 208 1 207,af 209 13,da 210 31 208 209,cd 211 8 210,aP 212 1 211,cU 213 .sl 212,bC 214 .lss 203 213] (cY 214 .skip (.exit 8))) (.seq (.block 9 (.region false [af 217 14,af 218 3,jo 219 218,cd 220 0 219,cd 221 1 220,aP 222 1 221,af 223 13,da 224 31 222 223,cd 225 8 224,aP 226 1 225,af 227 15,da 228 11 226 227,cd 229 0 228,az 230 3 229,fb 231 21 [aT 217,aS [],aT 230,aI 0],ai 14 231])) (.region false [af 215 15,aM 216 .add 215 1,ai 15 216])))))) (cR [af 232 3,af 233 13,jo 234 232,cd 235 6 234,fK 1 235 233] (cR [af 236 3,jo 237 236,cd 238 5 237,oN (.store 1 (aT 238) (aI 22))] (cR [af 239 3,dF 239,jo 240 239,dF 240,cd 241 0 240,dF 241,cd 242 1 241,dF 242,aP 243 1 242,af 244 13,af 245 3,dN 246 18 245,oN (.same false 1 243 (aT 242)),dF 243,da 247 31 243 244,dF 247,cd 248 9 247,dF 248,fK 5 248 246] (.region false [af 249 3,dF 249,jo 250 249,dF 250,cd 251 0 250,dF 251,cd 252 1 251,dF 252,aP 253 1 252,af 254 13,af 255 3,af 256 14,fb 257 22 [aT 255,aT 256,aI 5],oN (.same false 1 253 (aT 252)),dF 253,da 258 31 253 254,dF 258,cd 259 14 258,dF 259,fK 15 259 257])))))))) (.region false [af 195 13,aM 196 .add 195 1,ai 13 196])))))) (cR [af 260 3,jo 261 260,cd 262 0 261,az 263 2 262,fK 2 2 263] .ret))))))))))⟩
theorem MB:Yl ir6=some iz:=by kernel_rfl
noncomputable def abi:ax:=cD [2,5] [999999] [] Tryz.f57
theorem VN:bq Tryz.f57 abi=some abi:=by kernel_rfl
def RS:ax:=⟨[8,9,40,46,58,77,700006,700010],[6,10],[],78,3,[.cell 6 true 31,.tmp 7],cR [oO 6 (.allocL [.int .i64 0,.int .i64 0,.int .i64 0,.int .i64 0,.int .i64 0,.int .i64 0,.int .i64 0,.str [],.ae,.int .i64 0,.int .i64 0,.int .i64 0,.int .i64 0,.ae,.int .i64 0,.int .i64 0,.int .i64 0,.int .i64 0,.int .i64 0,.int .i64 0,.int .i64 0,.int .i64 0,.int .i64 0,.int .i64 0,.int .i64 0,.int .i64 0,.ae,.ae,.ae,.int .i64 0,.ae]),dw 7 qB] (cR [af 11 0,fb 12 17 [aT 11,aI 8],ai 8 12] (.seq (cR [aQ 9 (aI 0)] (.block 0 (.loop (.seq (cR [af 13 9,af 14 0,jo 15 14,cd 16 6 15,aP 17 1 16,bC 18 .lss 13 17] (cY 18 .skip (.exit 0))) (.seq (.block 1 (cR [af 21 0,dF 21,jo 22 21,dF 22,cd 23 0 22,dF 23,cd 24 1 23,dF 24,aP 25 1 24,af 26 9,af 27 8,bC 28 .add 26 27,af 29 0,dF 29,jo 30 29,dF 30,cd 31 6 30,dF 31,aP 32 1 31,bC 33 .rem 28 32,dF 25,da 34 31 25 33,dF 34,az 35 31 34,oO 10 (.allocL [.int .i64 0,.int .i64 0,.int .i64 0,.int .i64 0,.int .i64 0,.int .i64 0,.int .i64 0,.str [],.ae,.int .i64 0,.int .i64 0,.int .i64 0,.int .i64 0,.ae,.int .i64 0,.int .i64 0,.int .i64 0,.int .i64 0,.int .i64 0,.int .i64 0,.int .i64 0,.int .i64 0,.int .i64 0,.int .i64 0,.int .i64 0,.int .i64 0,.ae,.ae,.ae,.int .i64 0,.ae]),kb 10 10,fK 31 10 35] (cR [kb 10 10,cd 36 3 10,kb 10 36,aP 37 1 36,af 38 1,bC 39 .eql 37 38,ai 40 39,mJ 40 (.jR (.frame 10) (aT 10)),gQ 41 40 (r7 3 10),mJ 40 (.jR (.frame 10) (aT 41)),gQ 42 40 (jM 1 41),gQ 43 40 (dI 2),gQ 44 40 (iZ .eql (aT 42) (aT 43)),St 45 40 44,ai 46 45,yI 46 (.jR (.frame 10) (aT 10)),dD 47 46 (r7 4 10),yI 46 (.jR (.frame 10) (aT 47)),dD 48 46 (iK 3 47),dD 49 46 (dI 0),yI 46 (nZ 49),dD 50 46 (.nilCheck (aT 49)),yI 46 (nZ 50),dD 51 46 (r7 0 50),yI 46 (nZ 51),dD 52 46 (r7 0 51),yI 46 (nZ 52),dD 53 46 (jM 1 52),yI 46 (nZ 53),dD 54 46 (.ixSl 6 (aT 53) (aI 0)),yI 46 (nZ 54),dD 55 46 (r7 0 54),yI 46 (nZ 55),dD 56 46 (iK 3 55),dD 57 46 (.bin .eql (.flat [.i,.i,.i]) (aT 48) (aT 56)),dD 58 46 (Gz 57),mJ 58 (.jR (.frame 10) (aT 10)),gQ 59 58 (r7 4 10),mJ 58 (.jR (.frame 10) (aT 59)),gQ 60 58 (iK 3 59),gQ 61 58 (dI 0),mJ 58 (nZ 61),gQ 62 58 (.nilCheck (aT 61)),mJ 58 (nZ 62),gQ 63 58 (r7 0 62),mJ 58 (nZ 63),gQ 64 58 (r7 1 63),mJ 58 (nZ 64),gQ 65 58 (jM 1 64),gQ 66 58 (dI 0),mJ 58 (nZ 66),gQ 67 58 (.nilCheck (aT 66)),mJ 58 (nZ 67),gQ 68 58 (r7 6 67),mJ 58 (nZ 68),gQ 69 58 (jM 1 68),mJ 58 (nZ 65),gQ 70 58 (.ixSl 31 (aT 65) (aT 69)),mJ 58 (nZ 70),gQ 71 58 (r7 4 70),mJ 58 (nZ 71),gQ 72 58 (iK 3 71),gQ 73 58 (.bin .eql (.flat [.i,.i,.i]) (aT 60) (aT 72)),dD 74 46 (.pick (aT 58) Bp (aT 73)),kS 75 46 74] (cY 75 (cR [az 76 31 10,fK 31 6 76,dw 7 Bp] .ret) .skip)))) (.region false [af 19 9,aM 20 .add 19 1,ai 9 20])))))) (cR [oO 77 (.build [.int .i64 0,.int .i64 0,.int .i64 0,.int .i64 0,.int .i64 0,.int .i64 0,.int .i64 0,.str [],.ae,.int .i64 0,.int .i64 0,.int .i64 0,.int .i64 0,.ae,.int .i64 0,.int .i64 0,.int .i64 0,.int .i64 0,.int .i64 0,.int .i64 0,.int .i64 0,.int .i64 0,.int .i64 0,.int .i64 0,.int .i64 0,.int .i64 0,.ae,.ae,.ae,.int .i64 0,.ae] []),fK 31 6 77,dw 7 qB] .ret)))⟩
theorem VO:bq Tryz.f58 RS=some RS:=by kernel_rfl
def yh:ax:=⟨[],[],[],9,1,[.tmp 2],cR [dw 2 (aI 0)] (.seq (cR [af 3 0,aM 4 .eql 3 3] (cY 4 (cR [dw 2 (aI 0)] .ret) .skip)) (.seq (cR [af 5 0,aM 6 .eql 5 7] (cY 6 (cR [dw 2 (aI 1)] .ret) .skip)) (.seq (cR [af 7 0,aM 8 .eql 7 8] (cY 8 (cR [dw 2 (aI 2)] .ret) .skip)) (cR [dw 2 (aI 3)] .ret))))⟩
theorem VP:bq Tryz.f59 yh=some yh:=by kernel_rfl
def RT:ax:=⟨[4,5,6,7,8,9,10,11,12,13,16,19,24,31,36,40,84,102,121,128],[999999],[],143,2,[.tmp 4],cR [aQ 4 (aI 0)] (cR [af 14 1,cU 15 .str 14,ai 5 15] (.seq (.block 0 (cR [af 17 5,aM 18 .eql 17 0,ai 19 18,gQ 20 19 (dI 1),gQ 21 19 (dI 0),gQ 22 19 (iZ .eql (aT 20) (aT 21)),St 23 19 22,ai 16 23] (cY 16 (cR [aQ 4 (aI 0)] .ret) (cR [af 25 5,aM 26 .eql 25 1,ai 24 26] (cY 24 (cR [af 27 0,af 28 1,oO 29 (.indexStr (aT 28) (aI 0)),dv 30 84 27 29,ai 4 30] .ret) (cR [af 32 5,af 33 0,cU 34 .str 33,bC 35 .geq 32 34,ai 31 35] (cY 31 (cR [aQ 4 (aI (-1))] .ret) (cR [af 37 5,oO 38 (.load false false 1 (.aN 1)),bC 39 .leq 37 38,ai 40 39,dD 41 40 (dI 0),dD 42 40 (.len .str (aT 41)),dD 43 40 (iZ .leq (aT 42) (aI 64)),kS 44 40 43,ai 36 44] (cY 36 (cR [af 45 0,af 46 1,dv 47 85 45 46,ai 4 47] .ret) .skip))))))))) (cR [af 48 1,oO 49 (.indexStr (aT 48) (aI 0)),ai 6 49] (cR [af 50 1,oO 51 (.indexStr (aT 50) (aI 1)),ai 7 51] (cR [aQ 8 (aI 0)] (cR [af 52 0,cU 53 .str 52,af 54 5,bC 55 .sub 53 54,aM 56 .add 55 1,ai 9 56] (cR [aQ 10 (aI 0)] (.seq (.block 1 (.loop (.seq (cR [af 57 8,af 58 9,bC 59 .lss 57 58] (cY 59 .skip (.exit 1))) (.block 2 (.seq (cR [af 60 0,af 61 8,oO 62 (.indexStr (aT 60) (aT 61)),af 63 6,bC 64 .neq 62 63] (cY 64 (cR [af 65 0,af 66 8,aM 67 .add 66 1,af 68 9,oO 69 (.slice .str (aT 65) (some (aT 67)) (some (aT 68)) none),af 70 6,dv 71 84 69 70,ai 11 71] (.seq (cR [af 72 11,aM 73 .lss 72 0] (cY 73 (cR [aQ 4 (aI (-1))] .ret) .skip)) (.region false [af 74 8,af 75 11,aM 76 .add 75 1,bC 77 .add 74 76,ai 8 77]))) .skip)) (.seq (cR [af 78 0,af 79 8,aM 80 .add 79 1,oO 81 (.indexStr (aT 78) (aT 80)),af 82 7,bC 83 .eql 81 82,ai 84 83,dD 85 84 (dI 0),dD 86 84 (dI 8),dD 87 84 (dI 8),dD 88 84 (dI 5),dD 89 84 (iZ .add (aT 87) (aT 88)),dD 90 84 (.slice .str (aT 85) (some (aT 86)) (some (aT 89)) none),dD 91 84 (dI 1),dD 92 84 (iZ .eql (aT 90) (aT 91)),kS 93 84 92] (cY 93 (cR [af 94 8,ai 4 94] .ret) .skip)) (cR [af 95 8,aM 96 .add 95 1,ai 8 96] (cR [af 97 10,aM 98 .add 97 1,ai 10 98] (cR [af 99 5,oO 100 (.load false false 1 (.aN 1)),bC 101 .leq 99 100,ai 102 101,dD 103 102 (dI 10),dD 104 102 (dI 8),dD 105 102 (A7 86 [aT 104]),dD 106 102 (iZ .gtr (aT 103) (aT 105)),kS 107 102 106] (cY 107 (cR [af 108 0,af 109 8,oO 110 (.slice .str (aT 108) (some (aT 109)) none none),af 111 1,dv 112 85 110 111,ai 12 112] (.seq (cR [af 113 12,aM 114 .geq 113 0] (cY 114 (cR [af 115 12,af 116 8,bC 117 .add 115 116,ai 4 117] .ret) .skip)) (cR [aQ 4 (aI (-1))] .ret))) (cR [af 118 5,oO 119 (.load false false 1 (.aN 1)),bC 120 .gtr 118 119,ai 121 120,dD 122 121 (dI 10),dD 123 121 (dI 8),dD 124 121 (iZ .shr (aT 123) (.cg (.int IntKind.u64 4))),dD 125 121 (iZ .add (aI 4) (aT 124)),dD 126 121 (iZ .geq (aT 122) (aT 125)),kS 127 121 126,ai 128 127,dD 129 128 (dI 8),dD 130 128 (dI 9),dD 131 128 (iZ .lss (aT 129) (aT 130)),kS 132 128 131] (cY 132 (cR [af 133 0,af 134 8,oO 135 (.slice .str (aT 133) (some (aT 134)) none none),af 136 1,dv 137 87 135 136,ai 13 137] (.seq (cR [af 138 13,aM 139 .lss 138 0] (cY 139 (cR [aQ 4 (aI (-1))] .ret) .skip)) (cR [af 140 8,af 141 13,bC 142 .add 140 141,ai 4 142] .ret))) .skip)))))))))))) (cR [aQ 4 (aI (-1))] .ret)))))))))⟩
theorem VQ:bq Tryz.f60 RT=some RT:=by kernel_rfl
def RU:ax:=⟨[4,5,8],[999999],[],19,2,[.tmp 4],cR [oO 3 (.box 31 (aT 1)),aQ 4 (aI 0)] (.seq (cR [af 6 0,cU 7 .sl 6,aQ 8 (aI 0)] (.block 0 (.loop (cR [bC 9 .lss 8 7] (.seq (cY 9 .skip (.exit 0)) (.seq (.block 1 (cR [af 10 8,ai 5 10] (.seq (.region true [az 11 3 3,af 12 0,af 13 5,da 14 3 12 13,az 15 3 14,oO 16 (.bin .eql (.flat [.i,.i,.i]) (aT 11) (aT 15))]) (cY 16 (cR [af 17 5,ai 4 17] .ret) .skip)))) (.region false [aM 18 .add 8 1,ai 8 18]))))))) (cR [aQ 4 (aI (-1))] .ret))⟩
theorem VS:bq Tryz.f61 RU=some RU:=by kernel_rfl
def I5:ax:=⟨[1,2,3,10,11,12,13,14,15,16,17,18,19,20,47,69,72,83,105],[999999],[],148,5,[],cR [aQ 10 Bp] (cR [aQ 11 Bp] (.block 0 (.loop (.block 1 (cR [af 21 2,af 22 1,bC 23 .sub 21 22,ai 12 23] (.seq (cR [af 24 12,aM 25 .leq 24 12] (cY 25 (cR [af 26 0,af 27 1,af 28 2,af 29 4,nC 30 88 26 27 28 29] .ret) .skip)) (.seq (cR [af 31 3,aM 32 .eql 31 0] (cY 32 (cR [af 33 0,af 34 1,af 35 2,af 36 4,nC 37 89 33 34 35 36] .ret) .skip)) (.seq (cR [af 38 10,oO 39 (.un .not (aT 38))] (cY 39 (cR [af 40 0,af 41 1,af 42 2,af 43 4,nC 44 90 40 41 42 43] (.region false [af 45 3,aM 46 .sub 45 1,ai 3 46])) .skip)) (cR [af 48 0,af 49 1,af 50 2,af 51 4,nC 52 91 48 49 50 51,ai 47 52,ia 53 47 0,ia 54 47 1,ai 13 53,ai 14 54] (.seq (cR [af 55 14,aM 56 .eql 55 2] (cY 56 (cR [af 57 0,af 58 1,af 59 2,af 60 4,nC 61 92 57 58 59 60] (cR [af 62 2,aM 63 .sub 62 1,af 64 13,af 65 1,bC 66 .sub 64 65,bC 67 .sub 63 66,ai 13 67] (.region false [aQ 14 (aI 1)]))) .skip)) (.seq (cR [af 68 10,ai 69 68,dD 70 69 (dI 11),kS 71 69 70,ai 72 71,dD 73 72 (dI 14),dD 74 72 (iZ .eql (aT 73) (aI 1)),kS 75 72 74] (cY 75 (cR [af 76 0,af 77 1,af 78 2,af 79 4,nC 80 93 76 77 78 79] (cY 80 .ret .skip)) .skip)) (.seq (cR [af 81 1,aM 82 .gtr 81 0,ai 83 82,dD 84 83 (dI 4),dD 85 83 (dI 0),dD 86 83 (dI 1),dD 87 83 (iZ .sub (aT 86) (aI 1)),yI 83 (nZ 85),dD 88 83 (.ixSl 3 (aT 85) (aT 87)),yI 83 (nZ 88),dD 89 83 (iK 3 88),dD 90 83 (dI 0),dD 91 83 (dI 13),yI 83 (nZ 90),dD 92 83 (.ixSl 3 (aT 90) (aT 91)),yI 83 (nZ 92),dD 93 83 (iK 3 92),dD 94 83 (.call (aT 84) [aT 89,aT 93]),dD 95 83 (iZ .lss (aT 94) (aI 0)),dD 96 83 (.un .not (aT 95)),kS 97 83 96] (cY 97 (cR [af 98 0,af 99 1,af 100 2,af 101 13,af 102 4,fb 103 94 [aT 98,aT 99,aT 100,aT 101,aT 102],ai 15 103] (cR [af 104 15,ai 1 104] (.exit 1))) .skip)) (cR [af 106 0,af 107 1,af 108 2,af 109 13,af 110 4,fb 111 95 [aT 106,aT 107,aT 108,aT 109,aT 110],ai 105 111,ia 112 105 0,ia 113 105 1,ai 16 112,ai 17 113] (cR [af 114 17,ai 11 114] (cR [af 115 16,af 116 1,bC 117 .sub 115 116,af 118 2,af 119 16,bC 120 .sub 118 119,ai 18 117,ai 19 120] (cR [af 121 12,aM 122 .quo 121 8,ai 20 122] (cR [af 123 18,af 124 19,bC 125 .lss 123 124] (cY 125 (cR [af 126 18,af 127 20,bC 128 .geq 126 127,ai 10 128] (cR [af 129 0,af 130 1,af 131 16,af 132 3,af 133 4,fb 134 62 [aT 129,aT 130,aT 131,aT 132,aT 133]] (.region false [af 135 16,aM 136 .add 135 1,ai 1 136]))) (cR [af 137 19,af 138 20,bC 139 .geq 137 138,ai 10 139] (cR [af 140 0,af 141 16,aM 142 .add 141 1,af 143 2,af 144 3,af 145 4,fb 146 62 [aT 140,aT 142,aT 143,aT 144,aT 145]] (.region false [af 147 16,ai 2 147])))))))))))))))))))))⟩
theorem VT:bq Tryz.f62 I5=some I5:=by kernel_rfl
def RV:ax:=⟨[2],[999999],[],8,1,[.tmp 2],cR [aQ 2 (aI 0)] (.seq (.cond (.cg (.bool false)) (cR [af 3 0,oO 4 (.conv (.toInt IntKind.u32) (aT 3)),dN 5 96 4,ai 2 5] .ret) .skip) (cR [af 6 0,dN 7 97 6,ai 2 7] .ret))⟩
theorem VU:bq Tryz.f63 RV=some RV:=by kernel_rfl
def RW:ax:=⟨[2,5,8],[999999],[],18,1,[.tmp 2],cR [aQ 2 (aI 0)] (cR [dw 3 (aI 0)] (.seq (cR [af 6 0,cU 7 .sl 6,aQ 8 (aI 0)] (.block 0 (.loop (cR [bC 9 .lss 8 7] (.seq (cY 9 .skip (.exit 0)) (.seq (.block 1 (cR [da 10 1 6 8,aP 11 1 10,ai 5 11] (cR [af 12 5,af 13 3,bC 14 .neq 12 13] (cY 14 (cR [af 15 5,ai 2 15] .ret) .skip)))) (.region false [aM 16 .add 8 1,ai 8 16]))))))) (cR [af 17 3,ai 2 17] .ret)))⟩
theorem VV:bq Tryz.f64 RW=some RW:=by kernel_rfl
def RX:ax:=⟨[5,6],[999999],[],20,2,[.tmp 4],cR [dw 4 (aI 0)] (cR [af 7 0,dN 8 98 7,ai 5 8] (cR [af 9 1,dN 10 98 9,ai 6 10] (.seq (cR [af 11 5] (cY 11 (.seq (cR [af 12 6] (cY 12 (cR [dw 4 (aI 0)] .ret) .skip)) (cR [dw 4 (aI (-1))] .ret)) .skip)) (.seq (cR [af 13 6] (cY 13 (cR [dw 4 (aI 1)] .ret) .skip)) (.seq (cR [af 14 0,af 15 1,bC 16 .lss 14 15] (cY 16 (cR [dw 4 (aI (-1))] .ret) .skip)) (.seq (cR [af 17 0,af 18 1,bC 19 .gtr 17 18] (cY 19 (cR [dw 4 (aI 1)] .ret) .skip)) (cR [dw 4 (aI 0)] .ret)))))))⟩
theorem VW:bq Tryz.f65 RX=some RX:=by kernel_rfl
noncomputable def abk:ax:=cD [] [999999] [] Tryz.f66
theorem VX:bq Tryz.f66 abk=some abk:=by kernel_rfl
noncomputable def abl:ax:=cD [4,5] [3,999999] [] Tryz.f67
theorem VY:bq Tryz.f67 abl=some abl:=by kernel_rfl
noncomputable def abm:ax:=cD [5,6,8,14,19,24,29,34,38,44,49,54,65,70,75,81,86,89,101,112,121,130,137,142,16,31,46,59,62,78,83,88,109,700004,700007] [3,4,7,999999] [] Tryz.f68
theorem VZ:bq Tryz.f68 abm=some abm:=by kernel_rfl
noncomputable def abn:ax:=cD [2,5,7,9] [1,999999] [] Tryz.f69
theorem V0:bq Tryz.f69 abn=some abn:=by kernel_rfl
noncomputable def abp:ax:=cD [4,5,9,14,18,23,27] [2,999999] [] Tryz.f70
theorem V1:bq Tryz.f70 abp=some abp:=by kernel_rfl
noncomputable def abq:ax:=cD [4,19,15,700006] [2,6,999999] [] Tryz.f71
theorem V2:bq Tryz.f71 abq=some abq:=by kernel_rfl
noncomputable def abr:ax:=cD [4,5,6,7] [999999] [] Tryz.f72
theorem V3:bq Tryz.f72 abr=some abr:=by kernel_rfl
noncomputable def abt:ax:=cD [8] [999999] [] Tryz.f73
theorem V4:bq Tryz.f73 abt=some abt:=by kernel_rfl
noncomputable def abu:ax:=cD [] [999999] [] Tryz.f74
theorem V5:bq Tryz.f74 abu=some abu:=by kernel_rfl
noncomputable def abv:ax:=cD [16,30] [999999] [] Tryz.f75
theorem V6:bq Tryz.f75 abv=some abv:=by kernel_rfl
noncomputable def abw:ax:=cD [9] [999999] [] Tryz.f76
theorem V7:bq Tryz.f76 abw=some abw:=by kernel_rfl
noncomputable def abx:ax:=cD [2] [999999] [] Tryz.f77
theorem V8:bq Tryz.f77 abx=some abx:=by kernel_rfl
noncomputable def aby:ax:=cD [2,4,13,18,21,27,30,36,39,44,53,56,63,66,700003] [999999] [] Tryz.f78
theorem V9:bq Tryz.f78 aby=some aby:=by kernel_rfl
noncomputable def abz:ax:=cD [18,24,43,49,62,68,85,90,100,119,158,179] [999999,999996] [] Tryz.f79
theorem V':bq Tryz.f79 abz=some abz:=by kernel_rfl
noncomputable def abB:ax:=cD [2,3,4,5,6,7,8,9,38,46] [999999] [] Tryz.f80
theorem Wb:bq Tryz.f80 abB=some abB:=by kernel_rfl
noncomputable def abC:ax:=cD [4,10,700005,700007] [7,999999] [] Tryz.f81
theorem Wc:bq Tryz.f81 abC=some abC:=by kernel_rfl
noncomputable def abD:ax:=cD [5,13] [999999] [] Tryz.f82
theorem Wd:bq Tryz.f82 abD=some abD:=by kernel_rfl
noncomputable def abE:ax:=cD [2] [999999] [] Tryz.f86
theorem We:bq Tryz.f86 abE=some abE:=by kernel_rfl
noncomputable def abF:ax:=cD [4,5,6,7,8,9,10,11,33,68] [999999] [] Tryz.f87
theorem Wf:bq Tryz.f87 abF=some abF:=by kernel_rfl
def I6:ax:=⟨[8,9,21],[999999],[],53,4,[],cR [af 10 1,aM 11 .add 10 1,ai 8 11] (.block 0 (.loop (.seq (cR [af 12 8,af 13 2,bC 14 .lss 12 13] (cY 14 .skip (.exit 0))) (.seq (.block 1 (cR [af 17 8,ai 9 17] (.block 2 (.loop (.seq (cR [af 18 9,af 19 1,bC 20 .gtr 18 19,ai 21 20,dD 22 21 (dI 3),dD 23 21 (dI 0),dD 24 21 (dI 9),yI 21 (nZ 23),dD 25 21 (.ixSl 3 (aT 23) (aT 24)),yI 21 (nZ 25),dD 26 21 (iK 3 25),dD 27 21 (dI 0),dD 28 21 (dI 9),dD 29 21 (iZ .sub (aT 28) (aI 1)),yI 21 (nZ 27),dD 30 21 (.ixSl 3 (aT 27) (aT 29)),yI 21 (nZ 30),dD 31 21 (iK 3 30),dD 32 21 (.call (aT 22) [aT 26,aT 31]),dD 33 21 (iZ .lss (aT 32) (aI 0)),kS 34 21 33] (cY 34 .skip (.exit 2))) (.seq (.block 3 (.region false [af 37 0,af 38 9,af 39 0,af 40 9,aM 41 .sub 40 1,af 42 0,af 43 9,aM 44 .sub 43 1,dF 42,da 45 3 42 44,dF 45,az 46 3 45,af 47 0,af 48 9,dF 47,da 49 3 47 48,dF 49,az 50 3 49,dF 37,da 51 3 37 38,dF 51,fK 3 51 46,dF 39,da 52 3 39 41,dF 52,fK 3 52 50])) (.region false [af 35 9,aM 36 .sub 35 1,ai 9 36]))))))) (.region false [af 15 8,aM 16 .add 15 1,ai 8 16])))))⟩
theorem Wg:bq Tryz.f88 I6=some I6:=by kernel_rfl
noncomputable def abG:ax:=cD [8,10,11,12] [999999] [] Tryz.f89
theorem Wh:bq Tryz.f89 abG=some abG:=by kernel_rfl
noncomputable def abI:ax:=cD [8,10,11,12,700009] [999999] [] Tryz.f90
theorem Wi:bq Tryz.f90 abI=some abI:=by kernel_rfl
noncomputable def abJ:ax:=cD [8,10,12,13,14,57,60,700011] [999999] [] Tryz.f91
theorem Wj:bq Tryz.f91 abJ=some abJ:=by kernel_rfl
noncomputable def abK:ax:=cD [8,9] [999999] [] Tryz.f92
theorem Wk:bq Tryz.f92 abK=some abK:=by kernel_rfl
noncomputable def abL:ax:=cD [9,10,11,12,22] [999999] [] Tryz.f93
theorem Wl:bq Tryz.f93 abL=some abL:=by kernel_rfl
noncomputable def abM:ax:=cD [10,11,12,34,53] [999999] [] Tryz.f94
theorem Wm:bq Tryz.f94 abM=some abM:=by kernel_rfl
noncomputable def abN:ax:=cD [10,12,13,35,53,108,126] [999999] [] Tryz.f95
theorem Wn:bq Tryz.f95 abN=some abN:=by kernel_rfl
noncomputable def abO:ax:=cD [0,2] [999999] [] Tryz.f96
theorem Wo:bq Tryz.f96 abO=some abO:=by kernel_rfl
def RY:ax:=⟨[0,2],[999999],[],25,1,[.tmp 2],cR [aQ 2 (aI 0)] (.seq (cR [af 3 0,sv 4 .geq (aT 3) (.cg (.int IntKind.u64 4294967296))] (cY 4 (cR [af 5 0,sv 6 .shr (aT 5) (.cg (.int IntKind.u64 32)),ai 0 6] (.region false [aQ 2 (aI 32)])) .skip)) (.seq (cR [af 7 0,sv 8 .geq (aT 7) (.cg (.int IntKind.u64 65536))] (cY 8 (cR [af 9 0,sv 10 .shr (aT 9) (.cg (.int IntKind.u64 16)),ai 0 10] (.region false [af 11 2,aM 12 .add 11 16,ai 2 12])) .skip)) (.seq (cR [af 13 0,sv 14 .geq (aT 13) (.cg (.int IntKind.u64 256))] (cY 14 (cR [af 15 0,sv 16 .shr (aT 15) (.cg (.int IntKind.u64 8)),ai 0 16] (.region false [af 17 2,aM 18 .add 17 8,ai 2 18])) .skip)) (cR [af 19 2,af 20 0,oO 21 (.conv (.toInt IntKind.u8) (aT 20)),oO 22 (.indexStr (aS [0,1,2,2,3,3,3,3,4,4,4,4,4,4,4,4,5,5,5,5,5,5,5,5,5,5,5,5,5,5,5,5,6,6,6,6,6,6,6,6,6,6,6,6,6,6,6,6,6,6,6,6,6,6,6,6,6,6,6,6,6,6,6,6,7,7,7,7,7,7,7,7,7,7,7,7,7,7,7,7,7,7,7,7,7,7,7,7,7,7,7,7,7,7,7,7,7,7,7,7,7,7,7,7,7,7,7,7,7,7,7,7,7,7,7,7,7,7,7,7,7,7,7,7,7,7,7,7,8,8,8,8,8,8,8,8,8,8,8,8,8,8,8,8,8,8,8,8,8,8,8,8,8,8,8,8,8,8,8,8,8,8,8,8,8,8,8,8,8,8,8,8,8,8,8,8,8,8,8,8,8,8,8,8,8,8,8,8,8,8,8,8,8,8,8,8,8,8,8,8,8,8,8,8,8,8,8,8,8,8,8,8,8,8,8,8,8,8,8,8,8,8,8,8,8,8,8,8,8,8,8,8,8,8,8,8,8,8,8,8,8,8,8,8,8,8,8,8,8,8,8,8,8,8,8,8]) (aT 21)),oO 23 (.conv (.toInt .i64) (aT 22)),bC 24 .add 19 23,ai 2 24] .ret))))⟩
theorem Wp:bq Tryz.f97 RY=some RY:=by kernel_rfl
def RZ:ax:=⟨[2],[999999],[],6,1,[.tmp 2],cR [aQ 2 qB] (cR [af 3 0,af 4 0,bC 5 .neq 3 4,ai 2 5] .ret)⟩
theorem Wq:bq Tryz.f98 RZ=some RZ:=by kernel_rfl
noncomputable def abP:ax:=cD [4,6,10,14,19] [999999] [] Tryz.f99
theorem Wr:bq Tryz.f99 abP=some abP:=by kernel_rfl
noncomputable def PV:ax:=cD [2,5,10,17] [999999] [] Tryz.f100
theorem PW:bq Tryz.f100 PV=some PV:=by kernel_rfl
noncomputable def PX:ax:=cD [] [999999] [] Tryz.f101
theorem PY:bq Tryz.f101 PX=some PX:=by kernel_rfl
noncomputable def PZ:ax:=cD [4,5,6,7] [999999] [] Tryz.f102
theorem P0:bq Tryz.f102 PZ=some PZ:=by kernel_rfl
noncomputable def P1:ax:=cD [2] [999999] [] Tryz.f103
theorem P2:bq Tryz.f103 P1=some P1:=by kernel_rfl
noncomputable def P3:ax:=cD [3] [999999] [] Tryz.f104
theorem P4:bq Tryz.f104 P3=some P3:=by kernel_rfl
noncomputable def P5:ax:=cD [4] [999999] [] Tryz.f105
theorem P6:bq Tryz.f105 P5=some P5:=by kernel_rfl
noncomputable def P7:ax:=cD [] [999999] [] Tryz.f106
theorem P8:bq Tryz.f106 P7=some P7:=by kernel_rfl
noncomputable def P9:ax:=cD [4] [999999] [] Tryz.f107
theorem Qa:bq Tryz.f107 P9=some P9:=by kernel_rfl
noncomputable def Qb:ax:=cD [2] [999999] [] Tryz.f108
theorem Qc:bq Tryz.f108 Qb=some Qb:=by kernel_rfl
noncomputable def Qd:ax:=cD [6,10,700007] [7,999999] [] Tryz.f109
theorem Qe:bq Tryz.f109 Qd=some Qd:=by kernel_rfl
noncomputable def Qf:ax:=cD [4,5,6,7] [999999] [] Tryz.f110
theorem Qg:bq Tryz.f110 Qf=some Qf:=by kernel_rfl
noncomputable def Qh:ax:=cD [8,15] [999999] [] Tryz.f111
theorem Qi:bq Tryz.f111 Qh=some Qh:=by kernel_rfl
noncomputable def Qj:ax:=cD [6,10,700007] [7,999999] [] Tryz.f112
theorem Qk:bq Tryz.f112 Qj=some Qj:=by kernel_rfl
noncomputable def Ql:ax:=cD [4] [999999,999996] [] Tryz.f113
theorem Qm:bq Tryz.f113 Ql=some Ql:=by kernel_rfl
noncomputable def Qn:ax:=cD [2,3,4,13,18] [999999] [] Tryz.f114
theorem Qo:bq Tryz.f114 Qn=some Qn:=by kernel_rfl
noncomputable def Qp:ax:=cD [2,5,7,9,22,37,700004] [4,999999] [] Tryz.f115
theorem Qq:bq Tryz.f115 Qp=some Qp:=by kernel_rfl
noncomputable def Qr:ax:=cD [4,12] [999999] [] Tryz.f116
theorem Qs:bq Tryz.f116 Qr=some Qr:=by kernel_rfl
noncomputable def Qt:ax:=cD [2,3,4,5,6,7,8] [999999] [] Tryz.f119
theorem Qu:bq Tryz.f119 Qt=some Qt:=by kernel_rfl
noncomputable def Qv:ax:=cD [10,11,23] [999999] [] Tryz.f120
theorem Qw:bq Tryz.f120 Qv=some Qv:=by kernel_rfl
noncomputable def Qx:ax:=cD [2] [999999] [] Tryz.f121
theorem Qy:bq Tryz.f121 Qx=some Qx:=by kernel_rfl
noncomputable def Qz:ax:=cD [2] [999999] [] Tryz.f122
theorem QA:bq Tryz.f122 Qz=some Qz:=by kernel_rfl
noncomputable def QB:ax:=cD [8] [999999] [] Tryz.f123
theorem QC:bq Tryz.f123 QB=some QB:=by kernel_rfl
noncomputable def QD:ax:=cD [1,2,3,12,13,22,31] [999999] [] Tryz.f124
theorem QE:bq Tryz.f124 QD=some QD:=by kernel_rfl
noncomputable def QF:ax:=cD [2,5,9,12] [999999] [] Tryz.f125
theorem QG:bq Tryz.f125 QF=some QF:=by kernel_rfl
noncomputable def QH:ax:=cD [4] [999999] [] Tryz.f126
theorem QI:bq Tryz.f126 QH=some QH:=by kernel_rfl
noncomputable def QJ:ax:=cD [4,6,7,8,9,14,44,700005] [999999] [] Tryz.f127
theorem QK:bq Tryz.f127 QJ=some QJ:=by kernel_rfl
noncomputable def QL:ax:=cD [4] [999999] [] Tryz.f128
theorem QM:bq Tryz.f128 QL=some QL:=by kernel_rfl
noncomputable def QN:ax:=cD [4] [999999] [] Tryz.f129
theorem QO:bq Tryz.f129 QN=some QN:=by kernel_rfl
noncomputable def QP:ax:=cD [] [999999] [] Tryz.f130
theorem QQ:bq Tryz.f130 QP=some QP:=by kernel_rfl
def ye:ax:=⟨[2,3,4,700005],[5,999999],[7],24,1,[.tmp 2,.tmp 3],cR [aQ 2 (aS []),aQ 3 (aI 0)] (.seq (cR [oO 6 (.load false false 1 (.aN 5)),oO 7 (.rng 1 false true (aT 6))] (.block 0 (.loop (cR [oO 8 (.next (aT 7)),ia 9 8 0] (.seq (cY 9 .skip (.exit 0)) (.block 1 (cR [oO 10 (.T5 (aT 7)),ia 11 10 0,ia 12 10 1,oO 5 (.allocL [.int .i64 0,.int .i64 0]),ai 4 11,fK 2 5 12] (cR [cd 13 0 5,aP 14 1 13,af 15 0,bC 16 .eql 14 15] (cY 16 (cR [af 17 4,kb 5 5,cd 18 1 5,kb 5 18,aP 19 1 18,ai 2 17,ai 3 19] .ret) .skip))))))))) (cR [oO 20 (.uA 1 false false),oN (.wJ 1 false false 1 [.i] (aT 20) (aI 9) (aS [110,111,116])),oN (.wJ 1 false false 1 [.i] (aT 20) (aI 11) (aS [108,101,110])),af 21 20,af 22 0,oO 23 (.look false 1 false false [.i] [.str []] (aT 21) (aT 22)),ai 2 23,aQ 3 (aI 7)] .ret))⟩
theorem F3:bq Tryz.f131 ye=some ye:=by kernel_rfl
noncomputable def QR:ax:=cD [] [999999] [] Tryz.f132
theorem QS:bq Tryz.f132 QR=some QR:=by kernel_rfl
noncomputable def QT:ax:=cD [] [999999,999996] [] Tryz.f133
theorem QU:bq Tryz.f133 QT=some QT:=by kernel_rfl
noncomputable def QV:ax:=cD [] [999999,999996] [] Tryz.f134
theorem QW:bq Tryz.f134 QV=some QV:=by kernel_rfl
noncomputable def QX:ax:=cD [4] [999999] [] Tryz.f135
theorem QY:bq Tryz.f135 QX=some QX:=by kernel_rfl
noncomputable def QZ:ax:=cD [10,11] [999999] [] Tryz.f137
theorem Q0:bq Tryz.f137 QZ=some QZ:=by kernel_rfl
noncomputable def Q1:ax:=cD [4,5,8] [999999] [] Tryz.f138
theorem Q2:bq Tryz.f138 Q1=some Q1:=by kernel_rfl
noncomputable def Q3:ax:=cD [2] [999999] [] Tryz.f139
theorem Q4:bq Tryz.f139 Q3=some Q3:=by kernel_rfl
noncomputable def Q6:ax:=cD [2,3] [999999] [] Tryz.f140
theorem Q7:bq Tryz.f140 Q6=some Q6:=by kernel_rfl
noncomputable def Q8:ax:=cD [1,4,5,6,7,8,9,10,11,12,13,14,15,16] [999999] [] Tryz.f141
theorem Q9:bq Tryz.f141 Q8=some Q8:=by kernel_rfl
noncomputable def Ra:ax:=cD [4,10] [999999] [] Tryz.f143
theorem Rb:bq Tryz.f143 Ra=some Ra:=by kernel_rfl
noncomputable def Rc:ax:=cD [2,3,4,7,11,13] [999999] [] Tryz.f144
theorem Rd:bq Tryz.f144 Rc=some Rc:=by kernel_rfl
noncomputable def Re:ax:=cD [2] [999999] [] Tryz.f146
theorem Rf:bq Tryz.f146 Re=some Re:=by kernel_rfl
noncomputable def Rg:ax:=cD [] [999999] [] Tryz.f147
theorem Rh:bq Tryz.f147 Rg=some Rg:=by kernel_rfl
noncomputable def Ri:ax:=cD [2] [999999] [] Tryz.f148
theorem Rj:bq Tryz.f148 Ri=some Ri:=by kernel_rfl
noncomputable def Rk:ax:=cD [2] [999999] [] Tryz.f149
theorem Rl:bq Tryz.f149 Rk=some Rk:=by kernel_rfl
noncomputable def Rn:ax:=cD [2] [999999] [] Tryz.f150
theorem Ro:bq Tryz.f150 Rn=some Rn:=by kernel_rfl
noncomputable def Rp:ax:=cD [2] [999999] [] Tryz.f151
theorem Rq:bq Tryz.f151 Rp=some Rp:=by kernel_rfl
noncomputable def Rr:ax:=cD [2,5] [999999] [] Tryz.f169
theorem Rs:bq Tryz.f169 Rr=some Rr:=by kernel_rfl
noncomputable def Ru:ax:=cD [2,5] [999999] [] Tryz.f170
theorem Rv:bq Tryz.f170 Ru=some Ru:=by kernel_rfl
noncomputable def Rw:ax:=cD [0,1,2,3,4,5,6,7,10,12,14,16,18,20,22,24,26,28] [999999] [] Tryz.f183
theorem Rx:bq Tryz.f183 Rw=some Rw:=by kernel_rfl
def mg(c:Int):Nat->List UInt8->Int
 | _,[]=>-1
 | k,b :: r=>cond (decide ((b.toNat:Int)=c)) k (mg c (k+1) r)
def gR(args:List AV)(_:ah):Option (AV × Option fQ) :=
 match args with
 | [.str l,.int .u8 c]=>cond (decide (0<=c)&&decide (c<256)) (some (.int .i64 (mg c 0 l),none)) none
 | _=>none
def adq:List (List UInt8):=[[43],[45],[42],[47],[37],[60],[61,61],[97,110,100],[111,114],[110,111,116],[106,111,105,110],[108,101,110]]
def Wy:List Int:=[5,5,6,6,6,3,3,2,1,7,4,7]
def ahd(n:Int):List UInt8 × Int:=if n<0\/11<n then ([],0) else (adq.getD n.toNat [],Wy.getD n.toNat 0)
def rz(n:Int):List UInt8 × Int:=if n<0\/11<n then ([],7) else ahd n
def rZ(args:List AV)(_:ah):Option (AV × Option fQ) :=
 match args with
 | [.int .i64 n]=>some (.tuple [.str (rz n).1,.int .i64 (rz n).2],none)
 | _=>none
def ov0:FuncId->Option (List AV->ah->Option (AV × Option fQ))
 | 83=>some gR
 | 84=>some gR
 | _=>none
def ov1:FuncId->Option (List AV->ah->Option (AV × Option fQ))
 | 131=>some rZ
 | 83=>some gR
 | 84=>some gR
 | _=>none
noncomputable def Pc:FuncId->Option ax
 | 3=>some ir3
 | 4=>some ir4
 | 5=>some TB
 | 7=>some ir7
 | 8=>some Wa
 | 9=>some ir9
 | 10=>some I0
 | 11=>some aa1
 | 12=>some aa2
 | 13=>some I1
 | 14=>some Q5
 | 15=>some Rm
 | 16=>some I2
 | 17=>some Rt
 | 18=>some tf
 | 19=>some Ry
 | 20=>some Rz
 | 21=>some RA
 | 22=>some gX
 | 23=>some RB
 | 24=>some RC
 | 25=>some RD
 | 26=>some RE
 | 27=>some RF
 | 28=>some RG
 | 29=>some aa3
 | 30=>some aa4
 | 31=>some aa5
 | 32=>some aa6
 | 33=>some aa7
 | 34=>some RH
 | 35=>some RI
 | 36=>some aa8
 | 37=>some aa9
 | 38=>some aa'
 | 39=>some aba
 | 40=>some abb
 | 41=>some RL
 | 42=>some RM
 | 43=>some I3
 | 44=>some yg
 | 45=>some Cv
 | 46=>some RN
 | 47=>some RO
 | 48=>some I4
 | 49=>some RP
 | 50=>some RR
 | 51=>some abc
 | 52=>some abd
 | 53=>some abe
 | 54=>some abf
 | 55=>some abg
 | 56=>some abh
 | 57=>some abi
 | 58=>some RS
 | 59=>some yh
 | 60=>some RT
 | 61=>some RU
 | 62=>some I5
 | 63=>some RV
 | 64=>some RW
 | 65=>some RX
 | 66=>some abk
 | 67=>some abl
 | 68=>some abm
 | 69=>some abn
 | 70=>some abp
 | 71=>some abq
 | 72=>some abr
 | 73=>some abt
 | 74=>some abu
 | 75=>some abv
 | 76=>some abw
 | 77=>some abx
 | 78=>some aby
 | 79=>some abz
 | 80=>some abB
 | 81=>some abC
 | 82=>some abD
 | 86=>some abE
 | 87=>some abF
 | 88=>some I6
 | 89=>some abG
 | 90=>some abI
 | 91=>some abJ
 | 92=>some abK
 | 93=>some abL
 | 94=>some abM
 | 95=>some abN
 | 96=>some abO
 | 97=>some RY
 | 98=>some RZ
 | 99=>some abP
 | 100=>some PV
 | 101=>some PX
 | 102=>some PZ
 | 103=>some P1
 | 104=>some P3
 | 105=>some P5
 | 106=>some P7
 | 107=>some P9
 | 108=>some Qb
 | 109=>some Qd
 | 110=>some Qf
 | 111=>some Qh
 | 112=>some Qj
 | 113=>some Ql
 | 114=>some Qn
 | 115=>some Qp
 | 116=>some Qr
 | 119=>some Qt
 | 120=>some Qv
 | 121=>some Qx
 | 122=>some Qz
 | 123=>some QB
 | 124=>some QD
 | 125=>some QF
 | 126=>some QH
 | 127=>some QJ
 | 128=>some QL
 | 129=>some QN
 | 130=>some QP
 | 131=>some ye
 | 132=>some QR
 | 133=>some QT
 | 134=>some QV
 | 135=>some QX
 | 137=>some QZ
 | 138=>some Q1
 | 139=>some Q3
 | 140=>some Q6
 | 141=>some Q8
 | 143=>some Ra
 | 144=>some Rc
 | 146=>some Re
 | 147=>some Rg
 | 148=>some Ri
 | 149=>some Rk
 | 150=>some Rn
 | 151=>some Rp
 | 169=>some Rr
 | 170=>some Ru
 | 183=>some Rw
 | _=>none
noncomputable def fns:FuncId->Option ax
 | 6=>some iz
 | f=>Pc f
def AR:List (List UInt8):=[[109,111,100,117,108,101],[117,115,101],[114,101,99],[99,97,115,101],[102,117,110],[111,110],[116,101,115,116],[99,111,110,118],[116,114,117,101],[102,97,108,115,101],[110,111,116],[97,110,100],[111,114],[105,102],[116,104,101,110],[101,108,115,101],[108,101,116],[105,110],[109,97,116,99,104],[102,111,108,100],[111,118,101,114],[100,111],[108,101,110],[106,111,105,110],[76,105,115,116],[73,110,116],[66,111,111,108]]
def S2:List (List UInt8):=[[61,61],[45,62],[40],[41],[123],[125],[91],[93],[44],[58],[46],[61],[43],[45],[42],[47],[37],[60]]
def R6:List (List UInt8):=[[114,101,99],[99,97,115,101],[102,117,110],[111,110],[116,101,115,116],[99,111,110,118]]
def oX:List (List AV):=[[.str [37],.int .i64 4,.int .i64 6],[.str [42],.int .i64 2,.int .i64 6],[.str [43],.int .i64 0,.int .i64 5],[.str [45],.int .i64 1,.int .i64 5],[.str [47],.int .i64 3,.int .i64 6],[.str [60],.int .i64 5,.int .i64 3],[.str [61,61],.int .i64 6,.int .i64 3],[.str [97,110,100],.int .i64 7,.int .i64 2],[.str [106,111,105,110],.int .i64 10,.int .i64 4],[.str [111,114],.int .i64 8,.int .i64 1]]
def K1:Nat->List AV
 | 0=>[.slice (R6.map fun s=>[.str s]) false]
 | 2=>AR.map .str
 | 3=>[.func (.func 125) [] [],.func (.func 169) [] [],.func (.func 170) [] [],.func (.func 170) [] []]
 | 4=>S2.map .str
 | 5=>[.mF 1 false true oX]
 | _=>[]
noncomputable def A0:AP:={ fns:=Pc,ov:=ov0,aN:=K1 }
noncomputable def A1:AP:={ fns:=Pc,ov:=ov1,aN:=K1 }
noncomputable def A:AP:={ fns,ov:=ov0,aN:=K1 }
end Go.Proofs.YthbncinhhdogpaaGreatDoor
namespace Go.Proofs
open Go.Shelf
def YthbncinhhdogpaaGreatDoor.Cw:Go.Shelf.Ren:=⟨fun|137=>83|217=>84|266=>118|n=>n,fun|9=>9|5=>5|3=>3|n=>n,fun|n=>n⟩
theorem YthbncinhhdogpaaGreatDoor.R9:Go.Proofs.Lays.n137 Tryz.prog YthbncinhhdogpaaGreatDoor.Cw:={
 mixed:=by kernel_rfl
 f137:=tk Tryz.func83 (by kernel_rfl)
 f217:=tk Tryz.func84 (by kernel_rfl)
 f266:=tk Tryz.func118 (by kernel_rfl)
 t3:=Tryz.underlying3
 a3:=Tryz.isAgg3
 z3:=Tryz.sizeOf3
 v3:=Tryz.zeroValue3
 t5:=Tryz.underlying5
 a5:=Tryz.isAgg5
 z5:=Tryz.sizeOf5
 v5:=Tryz.zeroValue5
 t9:=Tryz.underlying9
 a9:=Tryz.isAgg9
 z9:=Tryz.sizeOf9
 v9:=Tryz.zeroValue9 }
def YthbncinhhdogpaaGreatDoor.zI:Go.Shelf.Ren:=⟨fun|217=>84|266=>118|n=>n,fun|9=>9|5=>5|3=>3|n=>n,fun|n=>n⟩
theorem YthbncinhhdogpaaGreatDoor.MI:Go.Proofs.Lays.n217 Tryz.prog YthbncinhhdogpaaGreatDoor.zI:={
 mixed:=by kernel_rfl
 f217:=tk Tryz.func84 (by kernel_rfl)
 f266:=tk Tryz.func118 (by kernel_rfl)
 t3:=Tryz.underlying3
 a3:=Tryz.isAgg3
 z3:=Tryz.sizeOf3
 v3:=Tryz.zeroValue3
 t5:=Tryz.underlying5
 a5:=Tryz.isAgg5
 z5:=Tryz.sizeOf5
 v5:=Tryz.zeroValue5
 t9:=Tryz.underlying9
 a9:=Tryz.isAgg9
 z9:=Tryz.sizeOf9
 v9:=Tryz.zeroValue9 }
end Go.Proofs
namespace Go.Proofs.YthbncinhhdogpaaGreatDoor
open Go Go.Abs Go.Proofs Go.Shelf RowKit
section
theorem PS(s:ByteArray)(c:Int)(w:World):Calls Tryz.prog 83 #[.string s,.int .u8 c] w fun e w'=>e=.returned (.int .i64 (Lib.indexByte s.data.toList c.toNat.toUInt8))/\w'=w:=Any.strings_IndexByte R9 s c w
theorem My(s:ByteArray)(c:Int)(w:World):Calls Tryz.prog 84 #[.string s,.int .u8 c] w fun e w'=>e=.returned (.int .i64 (Lib.indexByte s.data.toList c.toNat.toUInt8))/\w'=w:=Any.stringslite_IndexByte MI s c w
section
variable {G:Nat->List AV}{base:Nat}{gh:Gh}{w w' : World}{H:ah}
theorem y7(hW:aK G base H gh w)(hb:Below w.heap.size w w')(n:Nat):Step (fun _=>False) n gh w gh w':=by
 refine⟨fun _ _ h=>h,fun b o h=>cell_of_heap (hb.block b (hW.mX b o h)),hb.size,hb.os,hb.tape,hb.output,fun b aU _=>⟨.inl (hb.block b aU),rfl,fun _ h=>h⟩,fun b fP=>hW.bG b fP,fun _ _=>rfl,fun b ty m hm=>?_,fun b E ck hs h0=>(hb.block b (hW.mX b 0 hs)).trans h0⟩
 obtain⟨C,fr,h1,h2⟩:=hm
 exact⟨C,fr,by rw[hb.block b (aoY.1 h1).1];exact h1,h2⟩
theorem Bd(hW:aK G base H gh w)(hb:Below w.heap.size w w'){v:Value}{r:AV}(hv:VR gh H.length w' v r):lG G base H gh w r none v gh w' :=
 ⟨aoU _,hW.step (y7 hW hb H.length) (fun l=>⟨id,fun _=>id⟩) (fun b o h=>aqk (hW.mX b o h) hb.size) (fun b h=>⟨(hW.ow b h).1,aqk (hW.ow b h).2 hb.size⟩) (fun _ _ _ h=>.inl h),
  (y7 hW hb H.length).mono (fun _ h=>h.elim),fun _ h=>h,.inl hv⟩
theorem DU:jI H none:=⟨aoU _,fun c h=>by cases h⟩
theorem Yu{vs:Array Value}{x y:AV}(hs:vs.size=[x,y].length)(h:∀ (j:Nat) (v:Value) (z:AV),vs[j]?=some v->[x,y][j]?=some z->VR gh H.length w v z):∃ u v,vs=#[u,v]/\VR gh H.length w u x/\VR gh H.length w v y:=by
 obtain⟨l⟩:=vs
 match l,hs with
 | [u,v],_=>exact⟨u,v,rfl,h 0 u x rfl rfl,h 1 v y rfl rfl⟩
end
theorem vj(c:Int)(h0:0<=c)(h1:c<256):∀ (l:List UInt8) (k:Nat),mg c k l=if Lib.indexByte l c.toNat.toUInt8=-1 then -1 else Lib.indexByte l c.toNat.toUInt8+k
 | [],k=>by simp[mg,Lib.indexByte]
 | b :: r,k=>by
  have hc:(c.toNat.toUInt8).toNat=c.toNat:=by simp;omega
  have hb:(b==c.toNat.toUInt8)=decide ((b.toNat:Int)=c):=by
   by_cases h:(b.toNat:Int)=c
   ·have:b=c.toNat.toUInt8:=UInt8.toNat_inj.1 (by rw[hc];omega)
    rw[decide_eq_true h];simpa using this
   ·have:b≠c.toNat.toUInt8:=fun e=>h (by rw[e,hc];omega)
    rw[apS h];simpa using this
  have hge:∀ l:List UInt8, -1<=Lib.indexByte l c.toNat.toUInt8:=by
   intro l
   induction l with
   | nil=>simp[Lib.indexByte]
   | cons x l ih =>
    simp only[Lib.indexByte]
    split
    ·omega
    ·split
     ·omega
     ·rename_i h;simp at h;omega
  unfold mg Lib.indexByte
  rw[hb]
  by_cases h:(b.toNat:Int)=c
  ·simp[h]
  ·have:=hge r
   simp only[h,decide_false,aoZ,ap2,apC]
   rw[vj c h0 h1 r (k+1)]
   by_cases hr:Lib.indexByte r c.toNat.toUInt8=-1
   ·simp[hr]
   ·simp only[ap1,hr,ap2]
    rw[if_neg (by omega)]
    push_cast
    omega
theorem ae0(f:FuncId)(fn:Func)(h:Tryz.prog.funcs[f]?=some fn)(hb:fn.body.isSome=true)(hn:fn.name≠ "runtime.NumGoroutine"):∃ fn,Tryz.prog.funcs[f]?=some fn/\fn.body.isSome=true/\fn.name≠ "runtime.NumGoroutine":=⟨fn,h,hb,hn⟩
theorem v8{G:Nat->List AV} : jb Tryz.prog G 83 gR:=by
 intro args H r c he
 refine⟨ae0 83 _ Tryz.func83 (by kernel_rfl) (by decide),?_⟩
 unfold gR at he
 split at he
 ·rename_i l c'
  obtain⟨h0,he⟩:=ab he
  simp only[Bool.and_eq_true,apc] at h0
  simp only[aoQ,aoS] at he
  obtain⟨rfl,rfl⟩:=he
  refine⟨DU,fun base gh w vs hW _ hs cr=>?_⟩
  obtain⟨u,v,rfl,hu,hv⟩:=Yu hs cr
  obtain⟨s,rfl,hl⟩:=hu.jF
  rw[hv.jE]
  refine (PS s c' w).mono ?_
  rintro e w' ⟨rfl,rfl⟩
  refine⟨_,gh,rfl,Bd hW (Below.refl _ _) ?_⟩
  rw[vj c' h0.1 h0.2 l 0,hl]
  have:(if Lib.indexByte l c'.toNat.toUInt8=-1 then (-1:Int) else Lib.indexByte l c'.toNat.toUInt8+(0:Nat))=Lib.indexByte l c'.toNat.toUInt8:=by split<;>simp_all
  rw[this]
  exact .plain _ _ (.int _ _)
 ·cases he
theorem uk{G:Nat->List AV} : jb Tryz.prog G 84 gR:=by
 intro args H r c he
 refine⟨ae0 84 _ Tryz.func84 (by kernel_rfl) (by decide),?_⟩
 unfold gR at he
 split at he
 ·rename_i l c'
  obtain⟨h0,he⟩:=ab he
  simp only[Bool.and_eq_true,apc] at h0
  simp only[aoQ,aoS] at he
  obtain⟨rfl,rfl⟩:=he
  refine⟨DU,fun base gh w vs hW _ hs cr=>?_⟩
  obtain⟨u,v,rfl,hu,hv⟩:=Yu hs cr
  obtain⟨s,rfl,hl⟩:=hu.jF
  rw[hv.jE]
  refine (My s c' w).mono ?_
  rintro e w' ⟨rfl,rfl⟩
  refine⟨_,gh,rfl,Bd hW (Below.refl _ _) ?_⟩
  rw[vj c' h0.1 h0.2 l 0,hl]
  have:(if Lib.indexByte l c'.toNat.toUInt8=-1 then (-1:Int) else Lib.indexByte l c'.toNat.toUInt8+(0:Nat))=Lib.indexByte l c'.toNat.toUInt8:=by split<;>simp_all
  rw[this]
  exact .plain _ _ (.int _ _)
 ·cases he
end
end Go.Proofs.YthbncinhhdogpaaGreatDoor
