/-
  A part of the proof of ScopeFinds: AbsAll, AbsStab, AbsVar, AbsIrV, AbsProgV, AbsLaidV, AbsLibV.
-/
import Derived.Test.YthbncinhhdogpaaGreatDoorProg
import Derived.KernelRfl
import Derived.Shelf.Small.Strs
import Derived.Shelf.Strings.Search1
import Derived.Ground.NamesProg
import Derived.Test.YthbncinhhdogpaaGreatDoorChecked
import Derived.Shelf.Lay
import Derived.Test.YthbncinhhdogpaaGreatDoorP08
set_option linter.unusedSimpArgs false
set_option linter.unusedVariables false
set_option linter.defProp false
set_option maxRecDepth 100000
namespace Go.Abs
section
def yN{α:Type}(x:α):List α->List (List α)
 | []=>[[x]]
 | y :: l=>(x :: y :: l) :: (yN x l).map (y :: ·)
def perms{α:Type} : List α->List (List α)
 | []=>[[]]
 | x :: l=>(perms l).flatMap (yN x)
theorem y8{α:Type}(x:α):∀ (a b:List α),a++x :: b∈yN x (a++b)
 | [],b=>by cases b<;>simp[yN]
 | y :: a,b=>by
  simp only[ap2,yN,apO,ap9]
  exact .inr ⟨_,y8 x a b,rfl⟩
theorem Bu{α:Type} : ∀ {l m:List α},l.Perm m->m∈perms l
 | [],m,h=>by
  have:m=[]:=List.Perm.eq_nil h.symm
  rw[this];simp[perms]
 | x :: l,m,h=>by
  have hx:x∈m:=h.mem_iff.1 apP
  obtain⟨a,b,rfl⟩:=List.append_of_mem hx
  have h2:l.Perm (a++b):=(h.trans List.perm_middle).cons_inv
  simp only[perms,aqz]
  exact⟨_,Bu h2,y8 x a b⟩
def collect{α β:Type}(f:α->Option (List β)):List α->Option (List β)
 | []=>some []
 | x :: l=>(f x).bind fun a=>(collect f l).map (a++·)
theorem kB{α β:Type}{f:α->Option (List β)} : ∀ {xs:List α} {l:List β},collect f xs=some l->∀ x∈xs,∃ a,f x=some a/\∀ y∈a,y∈l
 | [],_,_,x,hx=>by cases hx
 | z :: xs,l,h,x,hx=>by
  simp only[collect,apu,apt] at h
  obtain⟨a,ha,b,hb,rfl⟩:=h
  rcases apO.1 hx with rfl|hx
  ·exact⟨a,ha,fun y hy=>aq4 _ hy⟩
  ·obtain⟨c,hc,hm⟩:=kB hb x hx
   exact⟨c,hc,fun y hy=>arC _ (hm y hy)⟩
theorem jK{α β:Type}{f:α->Option (List β)} : ∀ {xs:List α} {l:List β},collect f xs=some l->∀ y∈l,∃ x∈xs,∃ a,f x=some a/\y∈a
 | [],_,h,y,hy=>by simp only[collect,apv] at h;rw[<- h] at hy;cases hy
 | z :: xs,l,h,y,hy=>by
  simp only[collect,apu,apt] at h
  obtain⟨a,ha,b,hb,rfl⟩:=h
  rcases apC.1 hy with hy|hy
  ·exact⟨z,apP,a,ha,hy⟩
  ·obtain⟨x,hx,c,hc,hm⟩:=jK hb y hy
   exact⟨x,apU _ hx,c,hc,hm⟩
mutual
theorem vA:∀ (a b:AV),n6 a b=true->a=b
 | .bool a,b,h=>by cases b<;>simp_all [n6]
 | .int k a,b,h=>by cases b<;>simp_all [n6]
 | .str a,b,h=>by cases b<;>simp_all [n6]
 | .any,b,h=>by cases b<;>simp_all [n6]
 | .dh,b,h=>by cases b<;>simp_all [n6]
 | .cN,b,h=>by cases b<;>simp_all [n6]
 | .cz,b,h=>by cases b<;>simp_all [n6]
 | .bV,b,h=>by cases b<;>simp_all [n6]
 | .ae,b,h=>by cases b<;>simp_all [n6]
 | .slice e o,b,h=>by
  cases b<;>simp[n6] at h
  rename_i f q
  rw[oq e f h.1,h.2]
 | .ref l o,b,h=>by cases b<;>simp_all [n6]
 | .sref l o n z,b,h=>by cases b<;>simp_all [n6]
 | .mref l,b,h=>by cases b<;>simp_all [n6]
 | .agg a,b,h=>by
  cases b<;>simp[n6] at h
  rename_i f
  rw[mE a f h]
 | .tuple a,b,h=>by
  cases b<;>simp[n6] at h
  rename_i f
  rw[mE a f h]
 | .iface t a,b,h=>by
  cases b<;>simp[n6] at h
  rename_i t' f
  rw[vA a f h.2,h.1]
 | .eptr a,b,h=>by
  cases b<;>simp[n6] at h
  rename_i f
  rw[mE a f h]
 | .lbox g a,b,h=>by
  cases b<;>simp[n6] at h
  rename_i g' f
  rw[h.1,mE a f h.2]
 | .lref s g o,b,h=>by cases b<;>simp_all [n6]
 | .lsl g e,b,h=>by
  cases b<;>simp[n6] at h
  rename_i g' f
  rw[h.1,oq e f h.2]
 | .lsr s g,b,h=>by cases b<;>simp_all [n6]
 | .eref s g i z o,b,h=>by cases b<;>simp_all [n6]
 | .dR kz ka va e,b,h=>by
  cases b<;>simp[n6] at h
  rename_i me mb mU f
  rw[h.1.1.1,h.1.1.2,h.1.2,oq e f h.2]
 | .mX kz ka va e,b,h=>by
  cases b<;>simp[n6] at h
  rename_i me mb mU f
  rw[h.1.1.1,h.1.1.2,h.1.2,oq e f h.2]
 | .iter g kz ka va c e,b,h=>by
  cases b<;>simp[n6] at h
  rename_i g' me mb mU c' f
  rw[h.1.1.1.1.1,h.1.1.1.1.2,h.1.1.1.2,h.1.1.2,mE c c' h.1.2,oq e f h.2]
 | .func f a c,b,h=>by
  cases b<;>simp[n6] at h
  rename_i f' b d
  rw[h.1.1,mE a b h.1.2,mE c d h.2]
theorem mE:∀ (a b:List AV),CE a b=true->a=b
 | [],b,h=>by cases b<;>simp_all [CE]
 | x :: l,b,h=>by
  cases b with
  | nil=>simp[CE] at h
  | cons y m =>
   simp[CE] at h
   rw[vA x y h.1,mE l m h.2]
theorem oq:∀ (a b:List (List AV)),uy a b=true->a=b
 | [],b,h=>by cases b<;>simp_all [uy]
 | x :: l,b,h=>by
  cases b with
  | nil=>simp[uy] at h
  | cons y m =>
   simp[uy] at h
   rw[mE x y h.1,oq l m h.2]
end
mutual
theorem x9:∀ a:AV,n6 a a=true
 | .bool _|.int _ _|.str _|.any|.dh|.cN|.cz|.bV|.ae|.ref _ _|.sref _ _ _ _|.mref _|.lref _ _ _|.lsr _ _|.eref _ _ _ _ _=>by simp[n6]
 | .slice e o=>by simp[n6,nu e]
 | .agg a=>by simp[n6,kW a]
 | .tuple a=>by simp[n6,kW a]
 | .iface t a=>by simp[n6,x9 a]
 | .eptr a=>by simp[n6,kW a]
 | .lbox g a=>by simp[n6,kW a]
 | .lsl g e=>by simp[n6,nu e]
 | .dR kz ka va e=>by simp[n6,nu e]
 | .mX kz ka va e=>by simp[n6,nu e]
 | .iter g kz ka va c e=>by simp[n6,kW c,nu e]
 | .func f a c=>by simp[n6,kW a,kW c]
theorem kW:∀ l:List AV,CE l l=true
 | []=>rfl
 | a :: l=>by simp[CE,x9 a,kW l]
theorem nu:∀ l:List (List AV),uy l l=true
 | []=>rfl
 | a :: l=>by simp[uy,kW a,nu l]
end
def eqO:ct->ct->Bool
 | .box t a,.box t' b=>t==t'&&CE a b
 | .map kz ka va e,.map me mb mU f=>kz==me&&ka==mb&&va==mU&&uy e f
 | .dR kz ka va e,.dR me mb mU f=>kz==me&&ka==mb&&va==mU&&uy e f
 | .I6 a,.I6 b=>CE a b
 | .cj a,.cj b=>CE a b
 | .dead,.dead=>true
 | _,_=>false
def Zs:ag->ag->Bool
 | [],[]=>true
 | a :: l,b :: m=>eqO a b&&Zs l m
 | _,_=>false
def eqR(a b:AV × Option gk):Bool :=
 n6 a.1 b.1&&match a.2,b.2 with
  | none,none=>true
  | some c,some d=>Zs c.heap d.heap&&c.lo==d.lo
  | _,_=>false
theorem aaF{a b:ct}(h:eqO a b=true):a=b:=by
 cases a<;>cases b<;>simp[eqO] at h
 ·rw[h.1,mE _ _ h.2]
 ·rw[h.1.1.1,h.1.1.2,h.1.2,oq _ _ h.2]
 ·rw[h.1.1.1,h.1.1.2,h.1.2,oq _ _ h.2]
 ·rw[mE _ _ h]
 ·rw[mE _ _ h]
 ·rfl
theorem IV:∀ {a b:ag},Zs a b=true->a=b
 | [],[],_=>rfl
 | [],_ :: _,h=>by simp[Zs] at h
 | _ :: _,[],h=>by simp[Zs] at h
 | x :: l,y :: m,h=>by
  simp only[Zs,Bool.and_eq_true] at h
  rw[aaF h.1,IV h.2]
theorem Pp{a b:AV × Option gk}(h:eqR a b=true):a=b:=by
 obtain⟨v,c⟩:=a
 obtain⟨w,d⟩:=b
 simp only[eqR,Bool.and_eq_true] at h
 obtain⟨h1,h2⟩:=h
 rw[vA v w h1]
 cases c<;>cases d<;>simp at h2
 ·rfl
 ·rename_i c d
  obtain⟨c1,c2⟩:=c
  obtain⟨d1,d2⟩:=d
  simp only at h2
  rw[IV h2.1,h2.2]
structure CS where
 nt:Nat
 sS:BT
 H:ag
 lo:Nat
 gen:Nat
def CS.HN(c:CS):AS:=⟨HL c.nt c.sS,c.H,c.lo,c.gen⟩
def CS.ahe(nt:Nat)(s:AS):CS:=⟨nt,BT.of s.T (FA nt) 0,s.H,s.lo,s.gen⟩
def eqB:BT->BT->Bool
 | .leaf v,y=>match y with|.leaf u=>n6 v u|_=>false
 | .node l r,y=>match y with|.node l' r'=>eqB l l'&&eqB r r'|_=>false
theorem IU:∀ {a b:BT},eqB a b=true->a=b
 | .leaf v,.leaf u,h=>by rw[vA v u h]
 | .leaf _,.node _ _,h=>by simp[eqB] at h
 | .node _ _,.leaf _,h=>by simp[eqB] at h
 | .node l r,.node l' r',h=>by
  simp only[eqB,Bool.and_eq_true] at h
  rw[IU h.1,IU h.2]
def eqC(c d:CS):Bool:=c.nt==d.nt&&c.lo==d.lo&&c.gen==d.gen&&eqB c.sS d.sS&&Zs c.H d.H
theorem aaE{c d:CS}(h:eqC c d=true):c=d:=by
 obtain⟨n1,v1,h1,l1,g1⟩:=c
 obtain⟨n2,v2,h2,l2,g2⟩:=d
 simp only[eqC,Bool.and_eq_true,aqI] at h
 obtain⟨⟨⟨⟨k0,k1⟩,k2⟩,k3⟩,k4⟩:=h
 rw[k0,k1,k2,IU k3,IV k4]
def eqP(x y:Array Bool × CS):Bool:=x.1.toList==y.1.toList&&eqC x.2 y.2
theorem aaG{x y:Array Bool × CS}(h:eqP x y=true):x=y:=by
 obtain⟨L,c⟩:=x
 obtain⟨M,d⟩:=y
 simp only[eqP,Bool.and_eq_true,aqI] at h
 rw[Array.toList_inj.1 h.1,aaE h.2]
def dedup:List (Array Bool × CS)->List (Array Bool × CS)
 | []=>[]
 | x :: l=>cond (l.any (eqP x)) (dedup l) (x :: dedup l)
theorem sC:∀ {l:List (Array Bool × CS)} {x:Array Bool × CS},x∈l->x∈dedup l
 | y :: l,x,h=>by
  simp only[dedup]
  cases hb:l.any (eqP y) with
  | true =>
   simp only[cond_true]
   rcases apO.1 h with rfl|h
   ·obtain⟨z,hz,he⟩:=List.any_eq_true.1 hb
    rw[aaG he];exact sC hz
   ·exact sC h
  | false =>
   simp only[apE]
   rcases apO.1 h with rfl|h
   ·exact apP
   ·exact apU _ (sC h)
theorem vu:∀ {l:List (Array Bool × CS)} {x:Array Bool × CS},x∈dedup l->x∈l
 | y :: l,x,h=>by
  simp only[dedup] at h
  cases hb:l.any (eqP y) with
  | true=>rw[hb,cond_true] at h;exact apU _ (vu h)
  | false =>
   rw[hb,apE] at h
   rcases apO.1 h with rfl|h
   ·exact apP
   ·exact apU _ (vu h)
section
variable (G:Nat->List AV)(cf:cA)(nt:Nat)(ops:List aj)(pre:List (List Nat))
def DN(x:Array Bool × CS):Option (List (Array Bool × CS)) :=
 match nW pre x.1 with
 | []=>none
 | i :: r=>collect (fun i=>(ops[i]?).bind fun o=>(bA G cf false x.2.HN o).map fun s'=>[(x.1.setIfInBounds i true,CS.ahe nt s')]) (i :: r)
def rV:Nat->List (Array Bool × CS)->Option (List CS)
 | 0,lv=>cond (lv.all fun x=>(nW pre x.1).isEmpty) (some (lv.map (·.2))) none
 | n+1,lv=>(collect (DN G cf nt ops pre) lv).bind fun l=>rV n (dedup l)
end
theorem HB{G:Nat->List AV}{cf:cA}{nt:Nat}{ops:List aj}{pre:List (List Nat)}{Q:AS->Prop} : ∀ (n:Nat) (lv:List (Array Bool × CS)) (res:List CS),rV G cf nt ops pre n lv=some res->(∀ c∈res,Q c.HN) ->
  ∀ x∈lv,Fa G cf nt ops pre n x.1 x.2.HN Q
 | 0,lv,res,h,hQ,x,hx=>by
  simp only[rV] at h
  obtain⟨h0,h⟩:=ab h
  injection h with h
  subst h
  have:=apA.1 h0 x hx
  exact⟨List.isEmpty_iff.1 this,hQ _ (ap9.2 ⟨x,hx,rfl⟩)⟩
 | n+1,lv,res,h,hQ,x,hx=>by
  simp only[rV,apu] at h
  obtain⟨l,h1,h2⟩:=h
  obtain⟨a,ha,hm⟩:=kB h1 x hx
  unfold DN at ha
  split at ha
  ·cases ha
  ·rename_i j r hr
   refine⟨(fun e=>by rw[hr] at e;cases e),fun i hi=>?_⟩
   rw[hr] at hi
   obtain⟨b,hb,hmb⟩:=kB ha i hi
   simp only[apu,apt] at hb
   obtain⟨o,ho,s',hs,rfl⟩:=hb
   refine⟨o,s',ho,hs,?_⟩
   exact HB n _ res h2 hQ _ (sC (hm _ (hmb _ apP)))
section
variable (G:Nat->List AV)(cf:cA)
def T7(s:AS)(t:Nat)(d:Option Nat)(g kz:Nat)(ka va:Bool)(q:List AV)(rest:List (List AV)):AS :=
 (s.bu t (.iter g kz ka va q rest)).bR d (.tuple [.bool true,oM ka (q.take kz),oM va (q.drop kz)])
def oJ:List aj->AS->Option (List AS)
 | [],s=>some [s]
 | o :: r,s=>match jg o with
  | some t=>match s.T t with
   | .iter g kz ka va _ todo=>match todo with
    | []=>oJ r (s.bR o.dst (.tuple [.bool false]))
    | _ :: _=>collect (fun m=>match m with
     | q :: rest=>oJ r (T7 s t o.dst g kz ka va q rest)
     | []=>some []) (perms todo)
   | _=>none
  | none=>(bA G cf false s o).bind (oJ r)
def sw(F:AS->Option (List (bq × AS))):Nat->AS->Option (List (bq × AS))
 | 0,_=>none
 | n+1,s=>(F s).bind (collect fun x=>match x.1 with
  | .normal=>sw F n x.2
  | _=>some [x])
def lC(n:Nat):bO->AS->Option (List (bq × AS))
 | .skip,s=>some [(.normal,s)]
 | .region false ops,s=>(oJ G cf ops s).map fun l=>l.map fun s'=>(.normal,s')
 | .region true ops,s=>(bP G cf true ops s).map fun s'=>[(.normal,s')]
 | .seq a b,s=>(lC n a s).bind (collect fun x=>match x.1 with
  | .normal=>lC n b x.2
  | _=>some [x])
 | .cond c a b,s=>match c.eval G s.T with
  | .bool true=>lC n a s
  | .bool false=>lC n b s
  | _=>none
 | .block id a,s=>(lC n a s).map fun l=>l.map fun x=>match x.1 with
  | .exit i=>(cond (Nat.beq i id) .normal (.exit i),x.2)
  | _=>x
 | .loop a,s=>sw (lC n a) n s
 | .exit id,s=>some [(.exit id,s)]
 | .ret,s=>some [(.ret,s)]
 | .ub nt ops pre,s=>(rV G cf nt ops pre ops.length [(Array.replicate ops.length false,CS.ahe nt s)]).map fun l=>l.map fun c=>(.normal,c.HN)
end
section
variable {G:Nat->List AV}{cf:cA}
theorem se:∀ (is:List aj) (s:AS) (l:List AS) (Q:AS->Prop),oJ G cf is s=some l->(∀ x∈l,Q x)->lz G cf is s Q
 | [],s,l,Q,h,hQ=>by
  simp only[oJ,apv] at h
  exact hQ s (by rw[<- h];exact apP)
 | o :: r,s,l,Q,h,hQ=>by
  unfold oJ at h
  unfold lz
  cases hn:jg o with
  | none =>
   rw[hn] at h
   simp only[apu] at h
   obtain⟨s',h1,h2⟩:=h
   exact⟨s',h1,se r s' l Q h2 hQ⟩
  | some t =>
   rw[hn] at h
   simp only at h ⊢
   split at h
   ·rename_i g kz ka va cur todo hT
    refine⟨g,kz,ka,va,cur,todo,hT,fun h0=>?_,fun q rest hp=>?_⟩
    ·subst h0
     exact se r _ l Q h hQ
    ·cases todo with
     | nil=>exact absurd (List.Perm.nil_eq hp) (by simp)
     | cons z zs =>
      simp only at h
      obtain⟨a,ha,hm⟩:=kB h _ (Bu hp)
      exact se r _ a Q ha fun x hx=>hQ x (hm x hx)
   ·cases h
theorem yU{F:AS->Option (List (bq × AS))}{W:AS->(bq->AS->Prop)->Prop}(hF:∀ s l Q,F s=some l->(∀ x∈l,Q x.1 x.2)->W s Q) :
  ∀ (n:Nat) (s:AS) (l:List (bq × AS)) (Q:bq->AS->Prop),sw F n s=some l->(∀ x∈l,Q x.1 x.2)->wN W n s Q
 | 0,_,_,_,h,_=>by cases h
 | n+1,s,l,Q,h,hQ=>by
  simp only[sw,apu] at h
  obtain⟨l1,h1,h2⟩:=h
  refine hF s l1 _ h1 fun x hx=>?_
  obtain⟨a,ha,hm⟩:=kB h2 x hx
  obtain⟨e,s1⟩:=x
  cases e with
  | normal=>exact yU hF n s1 a Q ha fun y hy=>hQ y (hm y hy)
  | exit i=>injection ha with ha;subst ha;exact hQ _ (hm _ apP)
  | ret=>injection ha with ha;subst ha;exact hQ _ (hm _ apP)
theorem pZ(n:Nat):∀ (c:bO) (s:AS) (l:List (bq × AS)) (R:bq->AS->Prop),lC G cf n c s=some l->(∀ x∈l,R x.1 x.2)->WN G cf c s R
 | .skip,s,l,R,h,hR=>by
  simp only[lC,apv] at h
  exact hR (.normal,s) (by rw[<- h];exact apP)
 | .region false ops,s,l,R,h,hR=>by
  simp only[lC,apt] at h
  obtain⟨l1,h1,rfl⟩:=h
  exact se ops s l1 _ h1 fun x hx=>hR (.normal,x) (ap9.2 ⟨x,hx,rfl⟩)
 | .region true ops,s,l,R,h,hR=>by
  simp only[lC,apt] at h
  obtain⟨s1,h1,rfl⟩:=h
  exact⟨s1,h1,hR (.normal,s1) apP⟩
 | .seq a b,s,l,R,h,hR=>by
  simp only[lC,apu] at h
  obtain⟨l1,h1,h2⟩:=h
  refine pZ n a s l1 _ h1 fun x hx=>?_
  obtain⟨d,hd,hm⟩:=kB h2 x hx
  obtain⟨e,s1⟩:=x
  cases e with
  | normal=>exact pZ n b s1 d R hd fun y hy=>hR y (hm y hy)
  | exit i=>injection hd with hd;subst hd;exact hR _ (hm _ apP)
  | ret=>injection hd with hd;subst hd;exact hR _ (hm _ apP)
 | .cond c a b,s,l,R,h,hR=>by
  simp only[lC] at h
  split at h
  ·rename_i ht
   exact⟨true,ht,(fun _=>pZ n a s l R h hR),(fun e=>by cases e)⟩
  ·rename_i ht
   exact⟨false,ht,(fun e=>by cases e),(fun _=>pZ n b s l R h hR)⟩
  ·cases h
 | .block id a,s,l,R,h,hR=>by
  simp only[lC,apt] at h
  obtain⟨l1,h1,rfl⟩:=h
  refine pZ n a s l1 _ h1 fun x hx=>?_
  have:=hR _ (ap9.2 ⟨x,hx,rfl⟩)
  obtain⟨e,s1⟩:=x
  cases e<;>exact this
 | .loop a,s,l,R,h,hR=>⟨n,yU (fun s l Q h1 h2=>pZ n a s l Q h1 h2) n s l R h hR⟩
 | .exit id,s,l,R,h,hR=>by
  simp only[lC,apv] at h
  exact hR (.exit id,s) (by rw[<- h];exact apP)
 | .ret,s,l,R,h,hR=>by
  simp only[lC,apv] at h
  exact hR (.ret,s) (by rw[<- h];exact apP)
 | .ub nt ops pre,s,l,R,h,hR=>by
  simp only[lC,apt] at h
  obtain⟨l1,h1,rfl⟩:=h
  exact HB ops.length _ l1 h1 (fun c hc=>hR (.normal,c.HN) (ap9.2 ⟨c,hc,rfl⟩)) _ apP
end
section
variable {G:Nat->List AV}{cf:cA}{H:ag}(iI:∀ f args H r c,cf f args H=some (r,c)->jW H c)
include iI
theorem sd:∀ (is:List aj) (s:AS) (l:List AS),oJ G cf is s=some l->dZ H s->∀ x∈l,dZ H x
 | [],s,l,h,hI,x,hx=>by
  simp only[oJ,apv] at h
  rw[<- h] at hx
  rw[apI.1 hx];exact hI
 | o :: r,s,l,h,hI,x,hx=>by
  unfold oJ at h
  cases hn:jg o with
  | none =>
   rw[hn] at h
   simp only[apu] at h
   obtain⟨s',h1,h2⟩:=h
   have h3:bP G cf false [o] s=some s':=by simp only[bP,h1,apB]
   exact sd r s' l h2 (ry iI [o] s s' h3 hI) x hx
  | some t =>
   rw[hn] at h
   simp only at h
   split at h
   ·rename_i g kz ka va cur todo hT
    cases todo with
    | nil=>exact sd r _ l h (hI.dY (gS _ _ _).1 (gS _ _ _).2.2) x hx
    | cons z zs =>
     simp only at h
     obtain⟨m,_,a,ha,VO⟩:=jK h x hx
     cases m with
     | nil=>injection ha with ha;subst ha;cases VO
     | cons q rest =>
      refine sd r _ a ha ?_ x VO
      unfold T7
      exact (hI.dY (s':=s.bu t (.iter g kz ka va q rest)) rfl rfl).dY (gS _ _ _).1 (gS _ _ _).2.2
   ·cases h
omit iI in
theorem yT{F:AS->Option (List (bq × AS))}(hF:∀ s l,F s=some l->dZ H s->∀ x∈l,dZ H x.2):∀ (n:Nat) (s:AS) (l:List (bq × AS)),sw F n s=some l->dZ H s->∀ x∈l,dZ H x.2
 | 0,_,_,h,_,_,_=>by cases h
 | n+1,s,l,h,hI,x,hx=>by
  simp only[sw,apu] at h
  obtain⟨l1,h1,h2⟩:=h
  obtain⟨y,hy,a,ha,VO⟩:=jK h2 x hx
  have hyI:=hF s l1 h1 hI y hy
  obtain⟨e,s1⟩:=y
  cases e with
  | normal=>exact yT hF n s1 a ha hyI x VO
  | exit i=>injection ha with ha;subst ha;rw[apI.1 VO];exact hyI
  | ret=>injection ha with ha;subst ha;rw[apI.1 VO];exact hyI
theorem BK{nt:Nat}{ops:List aj}{pre:List (List Nat)} : ∀ (n:Nat) (lv:List (Array Bool × CS)) (res:List CS),rV G cf nt ops pre n lv=some res->(∀ x∈lv,dZ H x.2.HN)->∀ c∈res,dZ H c.HN
 | 0,lv,res,h,hI,c,hc=>by
  simp only[rV] at h
  obtain⟨_,h⟩:=ab h
  injection h with h
  subst h
  obtain⟨x,hx,rfl⟩:=ap9.1 hc
  exact hI x hx
 | n+1,lv,res,h,hI,c,hc=>by
  simp only[rV,apu] at h
  obtain⟨l,h1,h2⟩:=h
  refine BK n _ res h2 (fun y hy=>?_) c hc
  obtain⟨x,hx,a,ha,hya⟩:=jK h1 y (vu hy)
  unfold DN at ha
  split at ha
  ·cases ha
  ·obtain⟨i,_,b,hb,hyb⟩:=jK ha y hya
   simp only[apu,apt] at hb
   obtain⟨o,_,s',hs,rfl⟩:=hb
   rw[apI.1 hyb]
   have h3:bP G cf false [o] x.2.HN=some s':=by simp only[bP,hs,apB]
   exact (ry iI [o] _ s' h3 (hI x hx)).dY rfl rfl
theorem pW(n:Nat):∀ (c:bO) (s:AS) (l:List (bq × AS)),lC G cf n c s=some l->dZ H s->∀ x∈l,dZ H x.2
 | .skip,s,l,h,hI,x,hx=>by
  simp only[lC,apv] at h
  rw[<- h] at hx;rw[apI.1 hx];exact hI
 | .region false ops,s,l,h,hI,x,hx=>by
  simp only[lC,apt] at h
  obtain⟨l1,h1,rfl⟩:=h
  obtain⟨y,hy,rfl⟩:=ap9.1 hx
  exact sd iI ops s l1 h1 hI y hy
 | .region true ops,s,l,h,hI,x,hx=>by
  simp only[lC,apt] at h
  obtain⟨s1,h1,rfl⟩:=h
  rw[apI.1 hx];exact ry iI ops s s1 h1 hI
 | .seq a b,s,l,h,hI,x,hx=>by
  simp only[lC,apu] at h
  obtain⟨l1,h1,h2⟩:=h
  obtain⟨y,hy,d,hd,hxd⟩:=jK h2 x hx
  have hyI:=pW n a s l1 h1 hI y hy
  obtain⟨e,s1⟩:=y
  cases e with
  | normal=>exact pW n b s1 d hd hyI x hxd
  | exit i=>injection hd with hd;subst hd;rw[apI.1 hxd];exact hyI
  | ret=>injection hd with hd;subst hd;rw[apI.1 hxd];exact hyI
 | .cond c a b,s,l,h,hI,x,hx=>by
  simp only[lC] at h
  split at h
  ·exact pW n a s l h hI x hx
  ·exact pW n b s l h hI x hx
  ·cases h
 | .block id a,s,l,h,hI,x,hx=>by
  simp only[lC,apt] at h
  obtain⟨l1,h1,rfl⟩:=h
  obtain⟨y,hy,rfl⟩:=ap9.1 hx
  have:=pW n a s l1 h1 hI y hy
  obtain⟨e,s1⟩:=y
  cases e<;>exact this
 | .loop a,s,l,h,hI,x,hx=>yT (fun s l h1 h2=>pW n a s l h1 h2) n s l h hI x hx
 | .exit id,s,l,h,hI,x,hx=>by
  simp only[lC,apv] at h
  rw[<- h] at hx;rw[apI.1 hx];exact hI
 | .ret,s,l,h,hI,x,hx=>by
  simp only[lC,apv] at h
  rw[<- h] at hx;rw[apI.1 hx];exact hI
 | .ub nt ops pre,s,l,h,hI,x,hx=>by
  simp only[lC,apt] at h
  obtain⟨l1,h1,rfl⟩:=h
  obtain⟨c,hc,rfl⟩:=ap9.1 hx
  refine BK iI ops.length _ l1 h1 (fun y hy=>?_) c hc
  rw[apI.1 hy]
  exact hI.dY rfl rfl
end
def Lw(base:Nat)(fn:ay)(x:bq × AS):Option (AV × Option gk) :=
 match x.1 with
 | .exit _=>none
 | _=>finish base fn x.2
def oneOf(base:Nat)(fn:ay):List (bq × AS)->Option (AV × Option gk)
 | []=>none
 | x :: l=>(Lw base fn x).bind fun r=>cond (l.all fun y=>match Lw base fn y with
  | some q=>eqR q r
  | none=>false) (some r) none
theorem NL{base:Nat}{fn:ay}{l:List (bq × AS)}{r:AV × Option gk}(h:oneOf base fn l=some r):∀ x∈l,Lw base fn x=some r:=by
 cases l with
 | nil=>cases h
 | cons y l =>
  simp only[oneOf,apu] at h
  obtain⟨q,hq,h⟩:=h
  obtain⟨h0,h⟩:=ab h
  injection h with h
  subst h
  intro x hx
  rcases apO.1 hx with rfl|hx
  ·exact hq
  ·have:=apA.1 h0 x hx
   split at this
   ·rename_i z hz
    rw[hz,Pp this]
   ·cases this
def runN(G:Nat->List AV)(cf:cA)(n:Nat)(fn:ay)(args:List AV)(H:ag):Option (AV × Option gk) :=
 cond (Nat.beq args.length fn.np) ((lC G cf n fn.body { T:=gD args,H,lo:=H.length,gen:=0 }).bind (oneOf H.length fn)) none
def evN(A:AP):Nat->cA
 | 0=>fun _ _ _=>none
 | n+1=>fun f args H=>match A.ov f with
  | some g=>cond (args.all qw) (g args H) none
  | none=>match A.fns f with
   | none=>none
   | some fn=>runN A.aO (evN A n) n fn args H
section
variable {P:Program}{G:Nat->List AV}{H:ag}
theorem Kk{cf:cA}(iI:cU P G cf)(hm:P.follows .mixedOrders=true){f:FuncId}{fn:Func}(sQ:P.funcs[f]?=some fn){bJ locals muts:List Nat}{la:ay}(hc:lq P bJ locals muts fn=some la)
  {n:Nat} {args:List AV} {r:AV} {c:Option gk} (he:runN G cf n la args H=some (r,c)) :
  (fn.body.isSome=true/\fn.name≠ "runtime.NumGoroutine")/\jW H c /\
  ∀ (base:Nat) (gh:Gh) (w:World) (vs:Array Value),aM G base H gh w->clean gh->vs.size=args.length->(∀ (j:Nat) (v:Value) (x:AV),vs[j]?=some v->args[j]?=some x->CR gh H.length w (.par j) v x) ->
   Calls P f vs w fun e w'=>∃ v aK,e=.returned v/\lW G base H gh w r c v aK w':=by
 simp only[lq,apu] at hc
 obtain⟨code,l9,b,hb,rs,yK,hc⟩:=hc
 obtain⟨h0,hc⟩:=ab hc
 injection hc with hc
 subst hc
 simp only[Bool.and_eq_true,Nat.ble_eq,bne_iff_ne,ne_eq] at h0
 simp only[runN] at he
 obtain⟨h1,he⟩:=ab he
 have Ur:args.length=fn.params.size+fn.nfree:=by simpa [dX] using h1
 simp only[apu] at he
 obtain⟨l,bf,he⟩:=he
 have dy:=NL he
 have ql:jW H c:=by
  have qO:=pW (H:=H) (fun f args H r c h=>(iI f args H r c h).2.1) n b _ l bf ⟨apz _,apz _,fun _ _=>rfl⟩
  cases l with
  | nil=>cases he
  | cons x l =>
   have h2:=dy x apP
   have h3:=qO x apP
   obtain⟨ex,s'⟩:=x
   cases ex with
   | normal=>exact kq h3 h2
   | exit id=>cases h2
   | ret=>exact kq h3 h2
 refine⟨⟨by rw[l9];rfl,h0.2⟩,ql,fun base gh w vs hW iw pQ cy=>?_⟩
 refine calls_of_wp sQ l9 ?_
 have gM:vs.size<=fn.ntmps:=by omega
 have hI:=uO (locals:=locals) (muts:=muts) hW pQ gM cy
 refine ke iI hm code b hb _ gh.taken w _ _ _ hI (pZ n b _ l (fun e s=>Lw H.length { bJ,locals,muts,nt:=fn.ntmps,np:=fn.params.size+fn.nfree,results:=rs,body:=b } (e,s)=some (r,c)) bf (fun x hx=>dy x hx)) (fun e s' a' aK w' hr iT=>?_)
 cases e with
 | exit i=>cases hr
 | normal =>
  obtain⟨_,v,CX,hv,hR⟩:=lL (P:=P) hW iw iT yK hr
  exact⟨iT.F.defers,v,hv,v,CX,rfl,hR⟩
 | ret =>
  obtain⟨_,v,CX,hv,hR⟩:=lL (P:=P) hW iw iT yK hr
  exact⟨iT.F.defers,v,hv,v,CX,rfl,hR⟩
theorem AU{A:AP}(h:nD P A):∀ n,cU P A.aO (evN A n)
 | 0=>fun f args H r c he=>by cases he
 | n+1=>fun f args H r c he=>by
  simp only[evN] at he
  split at he
  ·rename_i g hg
   obtain⟨h0,he⟩:=ab he
   obtain⟨k1,k2,k3⟩:=h.ov f g hg args H r c he
   refine⟨k1,k2,fun base gh w vs hW iw pQ cy=>k3 base gh w vs hW iw pQ (fun j v x hv hx=>?_)⟩
   rcases cy j v x hv hx with h|⟨e,rfl,_⟩
   ·exact h
   ·have:=apA.1 h0 _ (apF hx)
    simp[qw] at this
  ·split at he
   ·cases he
   ·rename_i la hf
    obtain⟨fn,bJ,locals,muts,sQ,hc⟩:=h.fns f la hf
    obtain⟨⟨h1,h2⟩,h3,h4⟩:=Kk (AU h n) h.mixed sQ hc he
    exact⟨⟨fn,sQ,h1,h2⟩,h3,h4⟩
theorem aaI{A:AP}(h:nD P A)(n:Nat)(f:FuncId):jk P A.aO f (evN A n f):=by
 intro args H r c he
 obtain⟨k1,k2,k3⟩:=AU h n f args H r c he
 exact⟨k1,k2,fun base gh w vs hW iw pQ cy=>k3 base gh w vs hW iw pQ fun j v x hv hx=>.inl (cy j v x hv hx)⟩
end
end
section
def OZ(pre:List (List Nat)):List (List Nat):=pre.foldl (fun t l=>t++[(l.flatMap fun e=>e :: t.getD e []).eraseDups]) []
def jG(L:List Nat)(ops:List aj)(o:aj):Option (Bool × Nat × Nat × ar) :=
 match o with
 | ⟨some d,none,.load false agg sz x⟩=>cond (vM (Fw false ops L x)&&!(x.tmps.contains d)) (some (agg,sz,d,x)) none
 | _=>none
def IS(L:List Nat)(ops:List aj)(o:aj):Option qK :=
 (wu false false ops L o).map fun e=>match jG L ops o with|some _=>⟨e.rs,e.ws,false,e.wh,e.wg⟩|none=>e
def AR(L:List Nat)(ops:List aj):List aj->Option (List qK)
 | []=>some []
 | o :: r=>(IS L ops o).bind fun e=>(AR L ops r).map (e :: ·)
def LK(pre:List (List Nat))(es:List qK):Nat->List Nat->List Nat->List Nat
 | 0,acc,_=>acc
 | n+1,acc,rest =>
  match rest.find? (fun i=>(pre.getD i []).all acc.contains&&!(es.getD i default).wh) with
  | some i=>LK pre es n (acc++[i]) (rest.erase i)
  | none=>match rest.find? (fun i=>(pre.getD i []).all acc.contains) with
   | some i=>LK pre es n (acc++[i]) (rest.erase i)
   | none=>acc
def Z5(L:List Nat)(ops:List aj)(cl:List (List Nat))(es:List qK)(done:List Nat)(k:Nat):List aj :=
 cond (es.getD k default).wh (done.filterMap fun j=>cond ((cl.getD k []).contains j) none ((ops[j]?).bind fun o=>(jG L ops o).map fun q=>⟨none,none,.same q.1 q.2.1 q.2.2.1 q.2.2.2⟩)) []
def BP(L:List Nat)(ops:List aj)(cl:List (List Nat))(es:List qK):List Nat->List Nat->List aj
 | _,[]=>[]
 | done,k :: r=>(match ops[k]? with|some o=>inter false false ops L [o]|none=>[])++(Z5 L ops cl es done k++BP L ops cl es (done++[k]) r)
def No(L:List Nat)(ops:List aj)(k:Nat):Bool:=((ops[k]?).bind (jG L ops)).isSome
def stT(L:List Nat)(ops:List aj)(k:Nat):List Nat:=match (ops[k]?).bind (jG L ops) with|some q=>q.2.2.1 :: q.2.2.2.tmps|none=>[]
def zh(L:List Nat)(ops:List aj)(cl:List (List Nat))(es:List qK)(ord:List Nat)(p q:Nat):Bool :=
 (!conflict (es.getD (ord.getD q 0) default) (es.getD (ord.getD p 0) default) || (cl.getD (ord.getD q 0) []).contains (ord.getD p 0)) &&
 (!(No L ops (ord.getD q 0)&&(es.getD (ord.getD p 0) default).wh) || (cl.getD (ord.getD q 0) []).contains (ord.getD p 0)) &&
 (!(No L ops (ord.getD p 0)&&(es.getD (ord.getD q 0) default).wh) || (cl.getD (ord.getD q 0) []).contains (ord.getD p 0) ||
  (List.range (q+1)).all fun r=>Nat.ble r p || !(meets (es.getD (ord.getD r 0) default).ws (stT L ops (ord.getD p 0))))
def okS(nt:Nat)(L:List Nat)(ops:List aj)(pre cl:List (List Nat))(es:List qK)(ord:List Nat):Bool :=
 Nat.beq pre.length ops.length&&Nat.beq ord.length ops.length&&J5 ord&&ord.all (fun k=>Nat.blt k ops.length) &&
 (List.range ops.length).all (fun k=>(pre.getD k []).all fun e=>Nat.blt e k) &&
 (List.range ops.length).all (fun k=>(cl.getD k []).all fun j=>(pre.getD k []).any fun e=>Nat.beq j e || (cl.getD e []).contains j) &&
 (List.range ops.length).all (fun k=>(es.getD k default).rs.all (fun t=>Nat.blt t nt)&&(es.getD k default).ws.all (fun t=>Nat.blt t nt)) &&
 (List.range ops.length).all (fun q=>(List.range q).all fun p=>zh L ops cl es ord p q)
def Z6(nt:Nat)(L:List Nat)(ops:List aj)(pre:List (List Nat)):Option (List aj) :=
 (AR L ops ops).bind fun es=>cond (okS nt L ops pre (OZ pre) es (LK pre es ops.length [] (List.range ops.length)))
  (some (BP L ops (OZ pre) es [] (LK pre es ops.length [] (List.range ops.length)))) none
section
variable {G:Nat->List AV}{cf:cA}
theorem AW{d:Bool} : ∀ (a b:List aj) (s:AS),bP G cf d (a++b) s=(bP G cf d a s).bind (bP G cf d b)
 | [],b,s=>by simp[bP]
 | o :: a,b,s=>by
  simp only[ap2,bP]
  cases bA G cf d s o with
  | none=>rfl
  | some s1=>simp only[apB];exact AW a b s1
def wb(G:Nat->List AV)(s:AS)(q:Bool × Nat × Nat × ar):Prop:=cQ s false q.1 q.2.1 (q.2.2.2.addr G s.T)=some (s.T q.2.2.1,none)
theorem U8{agg:Bool}{sz d:Nat}{x:ar}{s s' : AS}(h:bA G cf false s ⟨none,none,.same agg sz d x⟩=some s'):s'=s/\wb G s (agg,sz,d,x):=by
 simp only[bA,au,apu] at h
 obtain⟨⟨z,so⟩,h1,h2⟩:=h
 split at h1
 ·rename_i v hv
  obtain⟨h3,h1⟩:=ab h1
  simp only[apv,apx] at h1
  obtain⟨rfl,rfl⟩:=h1
  simp[AS.bR] at h2
  refine⟨h2.symm,?_⟩
  unfold wb
  rw[hv,vA _ _ h3]
 ·cases h1
theorem sH{L:List Nat}{ops:List aj}{cl:List (List Nat)}{k:Nat} : ∀ (done:List Nat) (s s' : AS),
  bP G cf false (done.filterMap fun j=>cond ((cl.getD k []).contains j) none ((ops[j]?).bind fun o=>(jG L ops o).map fun q=>⟨none,none,.same q.1 q.2.1 q.2.2.1 q.2.2.2⟩)) s=some s' ->
  s'=s/\∀ j,j∈done->(cl.getD k []).contains j=false->∀ q,(ops[j]?).bind (jG L ops)=some q->wb G s q
 | [],s,s',h=>by simp[bP] at h;exact⟨h.symm,fun j hj=>by simp at hj⟩
 | j :: done,s,s',h=>by
  rw[aqY] at h
  cases hc:(cl.getD k []).contains j with
  | true =>
   rw[hc] at h
   simp only[cond_true] at h
   obtain⟨h1,h2⟩:=sH done s s' h
   exact⟨h1,fun i hi jr q hq=>by
    rcases apO.1 hi with rfl|hi
    ·rw[hc] at jr;cases jr
    ·exact h2 i hi jr q hq⟩
  | false =>
   rw[hc] at h
   simp only[apE] at h
   cases ho:(ops[j]?).bind (jG L ops) with
   | none =>
    have:((ops[j]?).bind fun o=>(jG L ops o).map fun q=>(⟨none,none,.same q.1 q.2.1 q.2.2.1 q.2.2.2⟩:aj))=none:=by
     cases hj:ops[j]? with
     | none=>rfl
     | some o=>rw[hj] at ho;simp only[apB] at ho ⊢;rw[ho];rfl
    rw[this] at h
    obtain⟨h1,h2⟩:=sH done s s' h
    exact⟨h1,fun i hi jr q hq=>by
     rcases apO.1 hi with rfl|hi
     ·rw[ho] at hq;cases hq
     ·exact h2 i hi jr q hq⟩
   | some q =>
    have:((ops[j]?).bind fun o=>(jG L ops o).map fun q=>(⟨none,none,.same q.1 q.2.1 q.2.2.1 q.2.2.2⟩:aj))=some ⟨none,none,.same q.1 q.2.1 q.2.2.1 q.2.2.2⟩:=by
     cases hj:ops[j]? with
     | none=>rw[hj] at ho;cases ho
     | some o=>rw[hj] at ho;simp only[apB] at ho ⊢;rw[ho];rfl
    rw[this] at h
    simp only[bP,apu] at h
    obtain⟨s1,h3,h⟩:=h
    obtain⟨rfl,h4⟩:=U8 h3
    obtain⟨h1,h2⟩:=sH done _ s' h
    exact⟨h1,fun i hi jr q' hq=>by
     rcases apO.1 hi with rfl|hi
     ·rw[ho] at hq;cases hq;exact h4
     ·exact h2 i hi jr q' hq⟩
theorem wY{L:List Nat}{ops:List aj}{cl:List (List Nat)}{es:List qK} : ∀ (todo done:List Nat) (s s' : AS),(∀ k,k∈todo->k<ops.length) ->
  bP G cf false (BP L ops cl es done todo) s=some s' ->
  ∃ S:Nat->AS,S 0=s/\S todo.length=s'/\∀ (p k:Nat),todo[p]?=some k->∃ o,ops[k]?=some o /\
   (∀ c y,qL false ops L o.op=some (c,y)->(∀ g w,o.guard=some (g,w)->(S p).T g=.bool w)->fS c (y.addr G (S p).T)=true) /\
   bA G cf false (S p) (iN false o)=some (S (p+1)) /\
   ((es.getD k default).wh=true->∀ j,j∈done++todo.take p->(cl.getD k []).contains j=false->∀ q,(ops[j]?).bind (jG L ops)=some q->wb G (S (p+1)) q)
 | [],done,s,s',aU,h=>by
  simp only[BP,bP,apv] at h
  exact⟨fun _=>s,rfl,h,fun p k hp=>by simp at hp⟩
 | k :: r,done,s,s',aU,h=>by
  obtain⟨o,ho⟩:∃ o,ops[k]?=some o:=⟨_,apy (aU k (by simp))⟩
  simp only[BP,ho,AW,apu] at h
  obtain⟨s1,h1,s2,h2,h3⟩:=h
  obtain⟨S1,a0,a1,a2⟩:=uQ [o] s s1 h1
  obtain⟨b1,b2⟩:=a2 0 o rfl
  simp only[ap3] at a1
  rw[a0] at b1 b2
  rw[a1] at b2
  have hr:s2=s1/\((es.getD k default).wh=true->∀ j,j∈done->(cl.getD k []).contains j=false->∀ q,(ops[j]?).bind (jG L ops)=some q->wb G s1 q):=by
   unfold Z5 at h2
   cases hw:(es.getD k default).wh with
   | false=>rw[hw] at h2;simp only[apE,bP,apv] at h2;exact⟨h2.symm,fun h=>by cases h⟩
   | true =>
    rw[hw] at h2
    obtain⟨c1,c2⟩:=sH done s1 s2 h2
    exact⟨c1,fun _=>c2⟩
  obtain⟨rfl,hre⟩:=hr
  obtain⟨S,d0,d1,d2⟩:=wY r (done++[k]) s2 s' (fun j hj=>aU j (apU _ hj)) h3
  refine⟨fun p=>match p with|0=>s|p+1=>S p,rfl,d1,fun p k' hp=>?_⟩
  cases p with
  | zero =>
   simp only[apH,apv] at hp
   subst hp
   refine⟨o,ho,b1,by rw[b2,<- d0],fun hw j hj=>?_⟩
   simp only[are,aqt] at hj
   show _->∀ q,_->wb G (S 0) q
   rw[d0]
   exact hre hw j hj
  | succ p =>
   obtain⟨o',e1,e2,e3,e4⟩:=d2 p k' (by simpa using hp)
   refine⟨o',e1,e2,e3,fun hw j hj=>e4 hw j ?_⟩
   simpa using hj
theorem zF{L:List Nat}{ops:List aj}{o:aj}{q:Bool × Nat × Nat × ar}(h:jG L ops o=some q):o=⟨some q.2.2.1,none,.load false q.1 q.2.1 q.2.2.2⟩/\Fw false ops L q.2.2.2=.heap/\q.2.2.1∉q.2.2.2.tmps:=by
 unfold jG at h
 split at h
 ·rename_i d agg sz x
  obtain⟨h1,h⟩:=ab h
  injection h with h
  subst h
  simp only[Bool.and_eq_true,aqg,aq3,aqs] at h1
  refine⟨rfl,?_,h1.2⟩
  have h1:=h1.1
  generalize Fw false ops L x=c at h1
  cases c with
  | heap=>rfl
  | _=>cases h1
 ·cases h
theorem sA{s x:AS}{agg:Bool}{sz:Nat}{v z:AV}{r:Option AS}(hc:fS .heap v=true)(hH:x.H=s.H)(h:cQ s false agg sz v=some (z,r)):cQ x false agg sz v=some (z,none)/\r=none:=by
 unfold cQ at h ⊢
 cases v<;>simp only at h ⊢<;>try (cases h;done)
 case eptr cs =>
  simp only[apt,apx] at h ⊢
  obtain⟨w,h1,rfl,rfl⟩:=h
  exact⟨⟨w,h1,rfl,trivial⟩,rfl⟩
 case ref loc off =>
  rw[hH]
  generalize s.H[loc]?=X at h ⊢
  cases X with
  | none=>cases h
  | some ob =>
   cases ob<;>simp only[aqW,apE] at h ⊢<;>try (cases h;done)
   all_goals
    simp only[apt,apx] at h ⊢
    obtain⟨w,h1,rfl,rfl⟩:=h
    exact⟨⟨w,h1,rfl,trivial⟩,rfl⟩
 case lref=>cases hc
 case eref=>cases hc
theorem okP{nt:Nat}{L:List Nat}{ops:List aj}{pre cl:List (List Nat)}{es:List qK}{ord:List Nat}(h:okS nt L ops pre cl es ord=true) :
  pre.length=ops.length/\ord.length=ops.length/\ord.Nodup/\(∀ k,k∈ord->k<ops.length)/\(∀ k,k<ops.length->∀ e,e∈pre.getD k []->e<k) /\
  (∀ k,k<ops.length->∀ j,j∈cl.getD k []->∃ e,e∈pre.getD k []/\(j=e\/j∈cl.getD e [])) /\
  (∀ k,k<ops.length->(∀ t,t∈(es.getD k default).rs->t<nt)/\∀ t,t∈(es.getD k default).ws->t<nt) /\
  (∀ q,q<ops.length->∀ p,p<q->zh L ops cl es ord p q=true):=by
 simp only[okS,Bool.and_eq_true,apA,List.mem_range,List.any_eq_true,aqZ,ap0,dX,apS] at h
 obtain⟨⟨⟨⟨⟨⟨⟨h1,h2⟩,h3⟩,h4⟩,h5⟩,h6⟩,h7⟩,h8⟩:=h
 refine⟨h1,h2,?_,h4,h5,fun k hk j hj=>?_,h7,h8⟩
 ·clear h1 h2 h4 h5 h6 h7 h8
  induction ord with
  | nil=>exact List.nodup_nil
  | cons x l ih =>
   simp only[J5,Bool.and_eq_true,aqg,aq3,aqs] at h3
   exact aqN.2 ⟨h3.1,ih h3.2⟩
 ·obtain⟨e,he,h⟩:=h6 k hk j hj
  exact⟨e,he,by simpa using h⟩
theorem AI{pre cl:List (List Nat)}{n:Nat}{X:Nat->Prop}(kF:∀ k,k<n->∀ e,e∈pre.getD k []->e<k)
  (iw:∀ k,k<n->∀ j,j∈cl.getD k []->∃ e,e∈pre.getD k []/\(j=e\/j∈cl.getD e []))
  (hX:∀ k,k<n->X k->∀ e,e∈pre.getD k []->X e):∀ k,k<n->X k->∀ j,j∈cl.getD k []->X j:=by
 intro k
 induction k using Nat.strongRecOn with
 | _ k ih =>
  intro hk hx j hj
  obtain⟨e,h1,h2⟩:=iw k hk j hj
  have aU:=kF k hk e h1
  have hxe:=hX k hk hx e h1
  rcases h2 with rfl|h2
  ·exact hxe
  ·exact ih e aU (by omega) hxe j h2
structure LN (nt:Nat) (S:Nat->AS) (E:Nat->qK) (X:Nat->Prop) (x:AS):Prop where
 T:∀ t,t<nt->w4 S (fun s=>s.T t) (fun j=>t∈(E j).ws) X x
 H:w4 S (fun s=>(s.H,s.lo)) (fun j=>(E j).wh=true) X x
 G:w4 S (fun s=>s.gen) (fun j=>(E j).wg=true) X x
variable {nt n k:Nat}{S:Nat->AS}{E:Nat->qK}{X:Nat->Prop}{x x1:AS}
theorem OP(hK:Av S E n)(hk:k<n)(hB:LN nt S E X x)(hX:¬ X k)(h1:∀ j,j<k->conflict (E k) (E j)=true->X j)(h2:∀ j,k<j->conflict (E j) (E k)=true->¬ X j)
  (hr:∀ t,t∈(E k).rs->t<nt):∀ t,t∈(E k).rs->x.T t=(S k).T t:=by
 intro t ht
 refine kg (fun j=>hK.T t j) (arD hk) (hB.T t (hr t ht)) (fun j hj hw=>h1 j hj ?_) (fun j hj hw=>?_)
 ·simp only[conflict,lJ hw ht,arz,arA]
 ·rcases aq5 j k with a|a|a
  ·exact a
  ·subst a;exact absurd hj hX
  ·exact absurd hj (h2 j a (by simp only[conflict,lJ hw ht,arz,arA]))
theorem OQ(hK:Av S E n)(hk:k<n)(hB:LN nt S E X x)(hX:¬ X k)(h1:∀ j,j<k->conflict (E k) (E j)=true->X j)(h2:∀ j,k<j->conflict (E j) (E k)=true->¬ X j)
  (hr:∀ t,t∈(E k).rs->t<nt):Ul (E k) (S k) x:=by
 have lt:∀ j,X j->j<k\/k<j:=fun j h=>by
  rcases aq5 j k with a|a|a
  ·exact .inl a
  ·subst a;exact absurd h hX
  ·exact .inr a
 refine⟨OP hK hk hB hX h1 h2 hr,fun hh=>?_,fun hg=>?_⟩
 ·have:=kg (fun j=>hK.H j) (arD hk) hB.H (fun j hj hw=>h1 j hj (by
   rcases hh with h|h<;>simp[conflict,hw,h])) (fun j hj hw=>by
   rcases lt j hj with a|a
   ·exact a
   ·exact absurd hj (h2 j a (by rcases hh with h|h<;>simp[conflict,hw,h])))
  simp only[apx] at this
  exact this
 ·exact kg (fun j=>hK.G j) (arD hk) hB.G (fun j hj hw=>h1 j hj (by simp[conflict,hw,hg])) (fun j hj hw=>by
   rcases lt j hj with a|a
   ·exact a
   ·exact absurd hj (h2 j a (by simp[conflict,hw,hg])))
theorem L2(hB:LN nt S E X x)(h2:∀ j,k<j->conflict (E j) (E k)=true->¬ X j)(hM:dN (E k) (S (k+1)) x x1){x2:AS}(hT:∀ t,t<nt->x2.T t=x1.T t)(hH:x2.H=x1.H/\x2.lo=x1.lo/\x2.gen=x1.gen) :
  LN nt S E (fun j=>X j\/j=k) x2:=by
 have le:∀ j,X j->(k<j->conflict (E j) (E k)=true)->j<=k:=fun j h hc=>by
  rcases aqP k j with a|a
  ·exact absurd h (h2 j a (hc a))
  ·exact a
 refine⟨fun t htn=>?_,?_,?_⟩
 ·by_cases ht:t∈(E k).ws
  ·exact lE ht (fun j hj hw=>le j hj fun _=>by simp only[conflict,lJ hw ht,arz,arA]) ((hT t htn).trans (hM.T t ht))
  ·exact nr ht (hB.T t htn) ((hT t htn).trans (hM.T' t ht))
 ·by_cases hh:(E k).wh=true
  ·exact lE hh (fun j hj hw=>le j hj fun _=>by simp[conflict,hw,hh]) (by simp only[hH.1,hH.2.1,hM.H hh])
  ·have:=hM.H' (by simpa using hh)
   exact nr hh hB.H (by simp only[hH.1,hH.2.1,this])
 ·by_cases hg:(E k).wg=true
  ·exact lE hg (fun j hj hw=>le j hj fun _=>by simp[conflict,hw,hg]) (hH.2.2.trans (hM.G hg))
  ·exact nr hg hB.G (hH.2.2.trans (hM.G' (by simpa using hg)))
theorem AT{L:List Nat}{ops:List aj} : ∀ {l:List aj} {es:List qK},AR L ops l=some es->es.length=l.length/\∀ (i:Nat) (o:aj),l[i]?=some o->IS L ops o=some (es.getD i default)
 | [],es,h=>by simp[AR] at h;subst h;exact⟨rfl,fun i o hi=>by simp at hi⟩
 | o :: l,es,h=>by
  simp only[AR,apu,apt] at h
  obtain⟨e,he,uz,h',rfl⟩:=h
  obtain⟨h1,h2⟩:=AT h'
  refine⟨by simp[h1],fun i o' hi=>?_⟩
  cases i with
  | zero=>simp only[apH,apv] at hi;subst hi;simpa using he
  | succ i=>simpa using h2 i o' (by simpa using hi)
theorem FO{L:List Nat}{ops:List aj}{o:aj}{e:qK}(h:IS L ops o=some e):∃ e0,wu false false ops L o=some e0/\e.rs=e0.rs/\e.ws=e0.ws/\e.wh=e0.wh/\e.wg=e0.wg/\(jG L ops o=none->e=e0):=by
 simp only[IS,apt] at h
 obtain⟨e0,h1,h2⟩:=h
 refine⟨e0,h1,?_⟩
 split at h2
 ·rename_i q hq
  subst h2
  exact⟨rfl,rfl,rfl,rfl,fun h=>by rw[hq] at h;cases h⟩
 ·subst h2
  exact⟨rfl,rfl,rfl,rfl,fun _=>rfl⟩
theorem dN.congr{e e0:qK}{s1 x x1:AS}(h1:e.ws=e0.ws)(h2:e.wh=e0.wh)(h3:e.wg=e0.wg)(h:dN e0 s1 x x1):dN e s1 x x1 :=
 ⟨fun t ht=>h.T t (by rw[<- h1];exact ht),fun t ht=>h.T' t (by rw[<- h1];exact ht),fun a=>h.H (by rw[<- h2];exact a),fun a=>h.H' (by rw[<- h2];exact a),fun a=>h.G (by rw[<- h3];exact a),fun a=>h.G' (by rw[<- h3];exact a)⟩
theorem aeo{L:List Nat}{ops:List aj}{o:aj}{q:Bool × Nat × Nat × ar}{e:qK}(hq:jG L ops o=some q)(he:IS L ops o=some e) :
  e.ws=[q.2.2.1]/\e.wh=false/\e.wg=false/\(∀ t,t∈q.2.2.2.tmps->t∈e.rs)/\e.rh=false:=by
 obtain⟨rfl,hc,_⟩:=zF hq
 unfold IS at he
 rw[hq] at he
 simp only[wu,qL,hc,x7,Option.map_some,apv,vM,gv] at he
 subst he
 simp
theorem Y7{o:aj}{q:Bool × Nat × Nat × ar}{s s1:AS}(ho:o=⟨some q.2.2.1,none,.load false q.1 q.2.1 q.2.2.2⟩)(hc:fS .heap (q.2.2.2.addr G s.T)=true)(h:bA G cf false s o=some s1) :
  ∃ z,cQ s false q.1 q.2.1 (q.2.2.2.addr G s.T)=some (z,none)/\s1=s.bR (some q.2.2.1) z:=by
 subst ho
 simp only[bA,au,apu] at h
 obtain⟨⟨z,so⟩,h1,h2⟩:=h
 obtain⟨h3,rfl⟩:=sA hc rfl h1
 refine⟨z,h3,?_⟩
 simpa using h2.symm
theorem aep{o:aj}{q:Bool × Nat × Nat × ar}{x:AS}{z:AV}(ho:o=⟨some q.2.2.1,none,.load false q.1 q.2.1 q.2.2.2⟩)(h:cQ x false q.1 q.2.1 (q.2.2.2.addr G x.T)=some (z,none)) :
  bA G cf false x o=some (x.bR (some q.2.2.1) z):=by
 subst ho
 simp[bA,au,h]
theorem xM{s:AS}{t:Nat}(h:t<nt):(kn nt s).T t=s.T t:=xz h
theorem AE{x s:AS}(h1:∀ t,t<nt->x.T t=s.T t)(h2:∀ t,nt<=t->x.T t=.undef)(h3:x.H=s.H/\x.lo=s.lo/\x.gen=s.gen):x=kn nt s:=by
 obtain⟨T,H,lo,gen⟩:=x
 obtain⟨T',H',lo',gen'⟩:=s
 simp only at h3
 obtain⟨rfl,rfl,rfl⟩:=h3
 have:T=(kn nt ⟨T',H,lo,gen⟩).T:=funext fun t=>by
  rcases aqP t nt with h|h
  ·rw[xM h];exact h1 t h
  ·rw[show (kn nt ⟨T',H,lo,gen⟩).T t=.undef from xy h];exact h2 t h
 simp only[kn,AS.mk.injEq,aqU]
 exact this
theorem T6{L:List Nat}{ops:List aj}{pre cl:List (List Nat)}{es:List qK}{ord:List Nat}(rB:AR L ops ops=some es)(pa:okS nt L ops pre cl es ord=true)
  {s s' : AS} (he:bP G cf false (BP L ops cl es [] ord) s=some s') {Q:AS->Prop} (hQ:Q (kn nt s')):Fa G cf nt ops pre ops.length (Array.replicate ops.length false) (kn nt s) Q:=by
 obtain⟨mJ,Qn,od,aU,kF,iw,pP,Qr⟩:=okP pa
 obtain⟨S,h0,hn,hS⟩:=wY ord [] s s' aU he
 rw[Qn] at hn
 obtain⟨agc,Vw⟩:=AT rB
 let π:Nat->Nat:=fun p=>ord.getD p 0
 let E:Nat->qK:=fun p=>es.getD (π p) default
 have hπ:∀ p,p<ops.length->ord[p]?=some (π p):=fun p hp=>by
  have:p<ord.length:=by omega
  simp[π,this]
 have hπl:∀ p,p<ops.length->π p<ops.length:=fun p hp=>aU _ (apF (hπ p hp))
 have hπi:∀ p q,p<ops.length->q<ops.length->π p=π q->p=q:=fun p q hp hq h=>by
  have a:=hπ p hp
  have b:=hπ q hq
  obtain⟨a1,a2⟩:=apw.1 a
  obtain⟨b1,b2⟩:=apw.1 b
  exact (List.getElem_inj od).1 (by rw[a2,b2,h])
 have yJ:∀ i,i<ops.length->∃ p,p<ops.length/\π p=i:=fun i hi=>by
  have hm:i∈ord:=by
   cases hc:ord.contains i with
   | true=>simpa using hc
   | false =>
    have hni:i∉ord:=by simpa using hc
    have:=nz ops.length (i :: ord) (aqN.2 ⟨hni,od⟩) (fun j hj=>by
     rcases apO.1 hj with rfl|hj
     ·exact hi
     ·exact aU j hj)
    simp at this;omega
  obtain⟨p,hp,e⟩:=List.mem_iff_getElem.1 hm
  refine⟨p,by omega,?_⟩
  simp[π,hp,e]
 have hSp:∀ p,p<ops.length->∃ o,ops[π p]?=some o/\IS L ops o=some (E p) /\
   (∀ c y,qL false ops L o.op=some (c,y)->(∀ g w,o.guard=some (g,w)->(S p).T g=.bool w)->fS c (y.addr G (S p).T)=true) /\
   bA G cf false (S p) (iN false o)=some (S (p+1)) /\
   ((E p).wh=true->∀ j,j∈ord.take p->(cl.getD (π p) []).contains j=false->∀ q,(ops[j]?).bind (jG L ops)=some q->wb G (S (p+1)) q):=fun p hp=>by
  obtain⟨o,a,b,c,d⟩:=hS p (π p) (hπ p hp)
  exact⟨o,a,Vw _ o a,b,c,fun hw j hj=>d hw j (by simpa using hj)⟩
 have xF:∀ (e:qK) (q:AS),Ul e q q:=fun e q=>⟨fun _ _=>rfl,fun _=>⟨rfl,rfl⟩,fun _=>rfl⟩
 have hK:Av S E ops.length:=by
  have mv:∀ j,j<ops.length->dN (E j) (S (j+1)) (S j) (S (j+1)):=by
   intro j hj
   obtain⟨o,ho,hx,hc,bf,_⟩:=hSp j hj
   obtain⟨e0,he0,_,e2,e3,e4,_⟩:=FO hx
   obtain⟨x1,h1,h2,_⟩:=qs he0 hc bf (xF _ (S j))
   rw[qB bf] at h1
   injection h1 with h1
   rw[<- h1] at h2
   exact h2.congr e2 e3 e4
  refine⟨fun t j hj hw=>(mv j hj).T' t hw,fun j hj hw=>?_,fun j hj hw=>(mv j hj).G' (by simpa using hw)⟩
  have:=(mv j hj).H' (by simpa using hw)
  simp only[this]
 have Gp:∀ p q,p<q->q<ops.length->conflict (E q) (E p)=true->π p∈cl.getD (π q) []:=by
  intro p q hpq hq hc
  have:=Qr q hq p hpq
  simp only[zh,Bool.and_eq_true] at this
  have h1:=this.1.1
  simp only[E,π] at hc
  rw[hc] at h1
  simpa [π] using h1
 have main:∀ (n:Nat) (B:Array Bool) (x:AS),B.size=ops.length->(∀ l:List Nat,l.Nodup->(∀ i,i∈l->i<ops.length/\B.getD i true=false)->l.length<=n) ->
   (∀ k,k<ops.length->B.getD k false=true->∀ e,e∈pre.getD k []->B.getD e false=true) ->
   LN nt S E (fun p=>p<ops.length/\B.getD (π p) false=true) x->(∀ t,nt<=t->x.T t=.undef)->Fa G cf nt ops pre n B x Q:=by
  intro n
  have fin:∀ (B:Array Bool) (x:AS),(∀ i,i<ops.length->B.getD i false=true)->LN nt S E (fun p=>p<ops.length/\B.getD (π p) false=true) x->(∀ t,nt<=t->x.T t=.undef)->Q x:=by
   intro B x dy hB Ai
   have hX:∀ j,(j<ops.length/\B.getD (π j) false=true)↔j<ops.length:=fun j=>⟨fun h=>h.1,fun h=>⟨h,dy _ (hπl j h)⟩⟩
   have:x=kn nt s':=by
    rw[<- hn]
    refine AE (fun t ht=>?_) Ai ?_
    ·exact kg (fun j=>hK.T t j) (apz _) (hB.T t ht) (fun j hj _=>(hX j).2 hj) (fun j hj _=>(hX j).1 hj)
    ·have h1:=kg (fun j=>hK.H j) (apz _) hB.H (fun j hj _=>(hX j).2 hj) (fun j hj _=>(hX j).1 hj)
     have h2:=kg (fun j=>hK.G j) (apz _) hB.G (fun j hj _=>(hX j).2 hj) (fun j hj _=>(hX j).1 hj)
     simp only[apx] at h1
     exact⟨h1.1,h1.2,h2⟩
   rw[this];exact hQ
  have mem_ready:∀ (B:Array Bool) (i:Nat),i∈nW pre B↔i<ops.length/\B.getD i true=false/\∀ e,e∈pre.getD i []->B.getD e false=true:=by
   intro B i
   unfold nW
   rw[aqx,List.mem_range,mJ]
   simp only[Bool.and_eq_true,aqg,apA]
  induction n with
  | zero =>
   intro B x Gu tI fP hB Ai
   have dy:∀ i,i<ops.length->B.getD i false=true:=by
    intro i hi
    cases hb:B.getD i true with
    | true =>
     have:i<B.size:=by omega
     simpa [this] using hb
    | false =>
     have:=tI [i] (by simp) (fun j hj=>by simp at hj;subst hj;exact⟨hi,hb⟩)
     simp at this
   refine⟨?_,fin B x dy hB Ai⟩
   cases hr:nW pre B with
   | nil=>rfl
   | cons i r =>
    obtain⟨h1,h2,_⟩:=(mem_ready B i).1 (by rw[hr];exact apP)
    have:=dy i h1
    have il:i<B.size:=by omega
    simp[il] at this h2
    rw[this] at h2
    cases h2
  | succ n ih =>
   intro B x Gu tI fP hB Ai
   refine⟨fun lH=>fin B x ?_ hB Ai,fun i hi=>?_⟩
   ·intro i
    induction i using Nat.strongRecOn with
    | _ i Bm =>
     intro oR
     have il:i<B.size:=by omega
     cases hb:B.getD i true with
     | true=>simpa [il] using hb
     | false =>
      exfalso
      have:i∈nW pre B:=(mem_ready B i).2 ⟨oR,hb,fun e he=>Bm e (kF i oR e he) (by have:=kF i oR e he;omega)⟩
      rw[lH] at this
      cases this
   ·obtain⟨oR,abM,mI⟩:=(mem_ready B i).1 hi
    have il:i<B.size:=by omega
    obtain⟨p,hp,rfl⟩:=yJ i oR
    obtain⟨o,ho,hx,hc,bf,DV⟩:=hSp p hp
    have qU:¬ (B.getD (π p) false=true):=by
     simp[il] at abM ⊢
     exact abM
    have ready:∀ j,j∈cl.getD (π p) []->B.getD j false=true:=by
     intro j hj
     obtain⟨e,h1,h2⟩:=iw (π p) oR j hj
     have:=mI e h1
     rcases h2 with rfl|h2
     ·exact this
     ·exact AI (X:=fun i=>B.getD i false=true) kF iw fP e (by have:=kF _ oR e h1;omega) this j h2
    have closed:∀ r,r<ops.length->B.getD (π r) false=true->π p∉cl.getD (π r) []:=fun r hr hb hm =>
     qU (AI (X:=fun i=>B.getD i false=true) kF iw fP (π r) (hπl r hr) hb (π p) hm)
    have later:∀ j,p<j->conflict (E j) (E p)=true->¬ (j<ops.length/\B.getD (π j) false=true):=fun j hpj hcj hj=>closed j hj.1 hj.2 (Gp p j hpj hj.1 hcj)
    have KK:∀ j,j<p->conflict (E p) (E j)=true->(j<ops.length/\B.getD (π j) false=true):=fun j hj hcj=>⟨by omega,ready _ (Gp j p hj hp hcj)⟩
    have hX:¬ (p<ops.length/\B.getD (π p) false=true):=fun h=>qU h.2
    have step:∃ x1,bA G cf false x o=some x1/\dN (E p) (S (p+1)) x x1/\∀ t,nt<=t->x1.T t=.undef:=by
     have out:∀ x1,dN (E p) (S (p+1)) x x1->∀ t,nt<=t->x1.T t=.undef:=fun x1 hM t ht=>by
      rw[hM.T' t (fun h=>by have:=(pP (π p) oR).2 t h;omega)]
      exact Ai t ht
     cases pe:jG L ops o with
     | none =>
      obtain⟨e0,he0,_,_,_,_,e5⟩:=FO hx
      have hA:Ul (E p) (S p) x:=OQ hK hp hB hX KK later (pP (π p) oR).1
      have e5' : E p=e0:=e5 pe
      rw[e5'] at hA
      obtain⟨x1,h1,h2,_⟩:=qs he0 hc bf hA
      rw[<- e5'] at h2
      exact⟨x1,h1,h2,out x1 h2⟩
     | some q =>
      obtain⟨hoq,ajD,ake⟩:=zF pe
      obtain⟨f1,f2,f3,f4,f5⟩:=aeo pe hx
      have hTr:=OP hK hp hB hX KK later (pP (π p) oR).1
      have hck:fS .heap (q.2.2.2.addr G (S p).T)=true:=by
       refine hc .heap q.2.2.2 ?_ (fun g w h=>by rw[hoq] at h;cases h)
       rw[hoq];simp only[qL,ajD]
      obtain⟨z,hz1,hz2⟩:=Y7 hoq hck (qB bf)
      have hzd:(S (p+1)).T q.2.2.1=z:=by rw[hz2];simp[AS.bR,dL]
      have had:q.2.2.2.addr G x.T=q.2.2.2.addr G (S p).T:=xE (s:=S p) (x:=x) (e:=E p) hTr f4
      have Qh:cQ x false q.1 q.2.1 (q.2.2.2.addr G x.T)=some (z,none):=by
       rw[had]
       have C1:∀ a b,a<=b->b<=ops.length->(∀ j,a<=j->j<b->¬ ((E j).wh=true))->(S b).H=(S a).H:=fun a b h1 h2 h3=>by
        have:=p5 (f:=fun s:AS=>(s.H,s.lo)) (w:=fun j=>(E j).wh=true) (fun j=>hK.H j) b h1 h2 h3
        simp only[apx] at this
        exact this.1
       have wl:∀ j,j<p->(E j).wh=true->(j<ops.length/\B.getD (π j) false=true):=by
        intro j hj hw
        refine⟨by omega,ready _ ?_⟩
        have:=Qr p hp j hj
        simp only[zh,Bool.and_eq_true] at this
        have h1:=this.1.2
        have h2:No L ops (ord.getD p 0)=true:=by simp only[No];rw[show ops[ord.getD p 0]?=some o from ho];simp[pe]
        have h3:(es.getD (ord.getD j 0) default).wh=true:=hw
        rw[h2,h3] at h1
        simpa [π] using h1
       rcases hB.H with ⟨i,hXi,ZW,akd,hHe⟩|⟨jI,hHe⟩
       ·simp only[apx] at hHe
        rcases aq5 i p with hip|hip|hip
        ·have:(S p).H=(S (i+1)).H:=C1 (i+1) p (by omega) (by omega) (fun j h1 h2 hw=>by
          have:=akd j (wl j h2 hw) hw
          omega)
         exact (sA hck (by rw[hHe.1,this]) hz1).1
        ·subst hip
         have:(E i).wh=false:=f2
         rw[this] at ZW;cases ZW
        ·
         have hpi:=Qr i hXi.1 p hip
         simp only[zh,Bool.and_eq_true] at hpi
         have h1:=hpi.2
         have h2:No L ops (ord.getD p 0)=true:=by simp only[No];rw[show ops[ord.getD p 0]?=some o from ho];simp[pe]
         have h3:(es.getD (ord.getD i 0) default).wh=true:=ZW
         have h4:(cl.getD (ord.getD i 0) []).contains (ord.getD p 0)=false:=by
          have:=closed i hXi.1 hXi.2
          simpa [π] using this
         rw[h2,h3,h4] at h1
         simp only[Bool.and_self,arv,arR,apA,List.mem_range,aqZ,Nat.ble_eq,aqg] at h1
         have akx:stT L ops (ord.getD p 0)=q.2.2.1 :: q.2.2.2.tmps:=by
          simp only[stT];rw[show ops[ord.getD p 0]?=some o from ho];simp[pe]
         have Bd:∀ t,t∈q.2.2.1 :: q.2.2.2.tmps->(S (i+1)).T t=(S (p+1)).T t:=by
          intro t ht
          refine p5 (f:=fun s:AS=>s.T t) (w:=fun j=>t∈(E j).ws) (fun j=>hK.T t j) (i+1) (by omega) (by omega) (fun j j1 j2 hw=>?_)
          rcases h1 j j2 with h|h
          ·omega
          ·rw[akx] at h
           have:=lJ (x:=(E j).ws) hw ht
           rw[show meets (E j).ws (q.2.2.1 :: q.2.2.2.tmps)=false from h] at this
           cases this
         obtain⟨_,_,_,_,_,ajs⟩:=hSp i hXi.1
         have Qi:π p∈ord.take i:=by
          refine apF (i:=p) ?_
          rw[apR,if_pos hip];exact hπ p hp
         have hA:=ajs ZW (π p) Qi h4 q (by rw[ho];exact pe)
         unfold wb at hA
         have hpT:∀ t,t∈q.2.2.2.tmps->(S (p+1)).T t=(S p).T t:=fun t ht=>by
          rw[hz2]
          simp only[AS.bR,dL]
          rw[if_neg (fun h=>ake (by rw[<- h];exact ht))]
         have ajr:q.2.2.2.addr G (S (i+1)).T=q.2.2.2.addr G (S p).T :=
          xE (s:=S p) (x:=S (i+1)) (e:=⟨q.2.2.2.tmps,[],false,false,false⟩) (fun t ht=>(Bd t (apU _ ht)).trans (hpT t ht)) (fun t ht=>ht)
         rw[ajr,Bd _ apP,hzd] at hA
         exact (sA hck hHe.1 hA).1
       ·simp only[apx] at hHe
        have:(S p).H=(S 0).H:=C1 0 p (by omega) (by omega) (fun j _ h2 hw=>jI j (wl j h2 hw) hw)
        exact (sA hck (by rw[hHe.1,this]) hz1).1
      have hM:dN (E p) (S (p+1)) x (x.bR (some q.2.2.1) z):=by
       refine⟨fun t ht=>?_,fun t ht=>?_,fun h=>?_,fun _=>⟨rfl,rfl⟩,fun h=>?_,fun _=>rfl⟩
       ·rw[f1] at ht
        rw[apI.1 ht,hzd];simp[AS.bR,dL]
       ·rw[f1] at ht
        have:t≠q.2.2.1:=by simpa using ht
        simp[AS.bR,dL,this]
       ·rw[show (E p).wh=false from f2] at h;cases h
       ·rw[show (E p).wg=false from f3] at h;cases h
      exact⟨_,aep hoq Qh,hM,out _ hM⟩
    obtain⟨x1,rI,hM,aog⟩:=step
    refine⟨o,x1,ho,rI,?_⟩
    have dI:∀ j,(B.setIfInBounds (π p) true).getD j false=true↔(B.getD j false=true\/j=π p):=by
     intro j
     by_cases iz:π p=j
     ·subst iz
      simp[il]
     ·rw[getD_set_ne false iz]
      simp[aqM iz]
    have hB':=L2 hB later hM (x2:=kn nt x1) (fun t ht=>xM ht) ⟨rfl,rfl,rfl⟩
    have yG:∀ j,((j<ops.length/\B.getD (π j) false=true)\/j=p)↔(j<ops.length/\(B.setIfInBounds (π p) true).getD (π j) false=true):=by
     intro j
     rw[dI]
     constructor
     ·rintro (⟨h1,h2⟩|rfl)
      ·exact⟨h1,.inl h2⟩
      ·exact⟨hp,.inr rfl⟩
     ·rintro ⟨h1,h2|h2⟩
      ·exact .inl ⟨h1,h2⟩
      ·exact .inr (hπi j p h1 hp h2)
    refine ih (B.setIfInBounds (π p) true) _ (by simpa using Gu) (fun l od hl=>?_) (fun j hj hjb e he=>?_) ⟨fun t ht=>lD yG (hB'.T t ht),lD yG hB'.H,lD yG hB'.G⟩ (fun t ht=>xy ht)
    ·have ago:π p∉l:=by
      intro hm
      have:=(hl _ hm).2
      simp[il] at this
     have:=tI (π p :: l) (aqN.2 ⟨ago,od⟩) (fun j hj=>by
      rcases apO.1 hj with rfl|hj
      ·exact⟨oR,abM⟩
      ·have h1:=hl j hj
       have iz:π p≠j:=by rintro rfl;exact ago hj
       rw[getD_set_ne true iz] at h1
       exact h1)
     simp at this
     omega
    ·rcases (dI j).1 hjb with h|rfl
     ·exact (dI _).2 (.inl (fP j hj h e he))
     ·exact (dI _).2 (.inl (mI e he))
 have jI:∀ i,¬ ((Array.replicate ops.length false).getD i false=true):=by
  intro i h
  have:(Array.replicate ops.length false).getD i false=false:=by
   by_cases h:i<ops.length<;>simp[h]
  rw[this] at h
  cases h
 refine main ops.length _ _ (by simp) (fun l od hl=>nz ops.length l od (fun i hi=>(hl i hi).1)) (fun j _ h=>absurd h (jI j)) ?_ (fun t ht=>xy ht)
 exact⟨fun t ht=>.inr ⟨fun j h=>absurd h.2 (jI _),by rw[h0];exact xM ht⟩,.inr ⟨fun j h=>absurd h.2 (jI _),by rw[h0];rfl⟩,.inr ⟨fun j h=>absurd h.2 (jI _),by rw[h0];rfl⟩⟩
end
end
section
def U(nt:Nat)(T:ax):Prop:=∀ t,nt<=t->T t=.undef
def PU(nt:Nat)(r:Option (AV × Option AS)):Prop:=∀ z s',r=some (z,some s')->U nt s'.T
section
variable {nt:Nat}{G:Nat->List AV}{cf:cA}{s:AS}{α:Type}
theorem PU.none:PU nt none:=fun _ _ h=>by cases h
theorem PU.stay{z:AV} : PU nt (some (z,Option.none)):=fun _ _ h=>by cases h
theorem PU.c{b:Bool}{z:AV}{s' : AS}(h:U nt s'.T):PU nt (some (z,bif b then some s' else Option.none)):=fun _ _ e=>by cases b<;>cases e;exact h
theorem PU.ok{z:AV}{s' : AS}(h:U nt s'.T):PU nt (some (z,some s')):=fun _ _ e=>by cases e;exact h
theorem PU.cond{b:Bool}{x y:Option (AV × Option AS)}(h1:PU nt x)(h2:PU nt y):PU nt (bif b then x else y):=by cases b<;>assumption
theorem PU.bind{x:Option α}{f:α->Option (AV × Option AS)}(h:∀ a,PU nt (f a)):PU nt (x.bind f):=by
 cases x with
 | none=>exact PU.none
 | some a=>exact h a
theorem PU.map{x:Option α}{f:α->AV × Option AS}(h:∀ a,PU nt (some (f a))):PU nt (x.map f):=by
 cases x with
 | none=>exact PU.none
 | some a=>exact h a
theorem U.put{T:ax}{t:Nat}{v Y:AV}(h:U nt T)(hT:T t=Y)(hY:Y≠.undef):U nt (T.put t v):=fun k hk=>by
 rw[df]
 split
 ·rename_i e
  subst e
  rw[h k hk] at hT
  exact absurd hT.symm hY
 ·exact h k hk
theorem U.bH(h:U nt s.T)(y:ar):U nt (s.bH y).T:=by
 unfold AS.bH
 split
 ·split
  ·rename_i hT;exact h.put hT (by simp[AV.undef])
  ·exact h
 ·exact h
theorem AY{sz:Nat}{a v:AV}{s1:AS}(he:gA s sz a v=some s1)(h:U nt s.T):U nt s1.T:=by
 unfold gA at he
 split at he
 ·cases he
 obtain⟨_,he⟩:=ab he
 split at he
 ·split at he
  ·obtain⟨_,he⟩:=ab he
   injection he with he
   rw[<- he];exact h
  ·obtain⟨_,he⟩:=ab he
   injection he with he
   rw[<- he];exact h
  ·cases he
 ·split at he
  ·rename_i hT
   obtain⟨_,he⟩:=ab he
   injection he with he
   rw[<- he];exact h.put hT (by simp[AV.undef])
  ·cases he
 ·split at he
  ·rename_i hT
   obtain⟨_,he⟩:=ab he
   simp only[apu] at he
   obtain⟨r,_,he⟩:=he
   obtain⟨_,he⟩:=ab he
   injection he with he
   rw[<- he];exact h.put hT (by simp[AV.undef])
  ·cases he
 ·cases he
theorem KV{y:ar}{v:AV}{s1:AS}(he:A6 s y=some (v,s1))(h:U nt s.T):U nt s1.T:=by
 unfold A6 at he
 split at he
 ·split at he
  ·rename_i hT
   simp only[apv,apx] at he
   rw[<- he.2];exact h.put hT (by simp[AV.undef])
  ·cases he
 ·split at he
  ·simp only[apv,apx] at he
   rw[<- he.2];exact h
  ·cases he
 ·cases he
theorem aaJ(h:U nt s.T)(o:fq):PU nt (au G cf s o):=by
 have set:∀ {t:Nat} {v Y:AV},s.T t=Y->Y≠.undef->U nt (s.T.put t v):=fun a b=>h.put a b
 cases o with
 | store sz x y =>
  intro z s' he
  simp only[au,apt,apx,apv] at he
  obtain⟨s1,he,_,rfl⟩:=he
  exact (AY he h).bH _
 | oY sz x y =>
  intro z s' he
  simp only[au,apt,apx,apv] at he
  obtain⟨s1,he,_,rfl⟩:=he
  exact (AY he (by rw[(Lu s _).1];exact h)).bH _
 | xe kz ka va vz ks m k v =>
  intro z s' he
  simp only[au,apt,apx,apv] at he
  obtain⟨s1,he,_,rfl⟩:=he
  have h1:U nt s1.T:=by
   unfold nK at he
   split at he
   ·split at he
    ·simp only[apu] at he
     obtain⟨_,_,_,_,he⟩:=he
     obtain⟨_,he⟩:=ab he
     simp only[apt] at he
     obtain⟨_,_,he⟩:=he
     rw[<- he];exact h
    ·cases he
   ·cases he
  exact h1.bH _
 | call f args =>
  intro z s' he
  simp only[au] at he
  split at he
  ·obtain⟨_,he⟩:=ab he
   simp only[apt,apx] at he
   obtain⟨⟨r,c⟩,hr,_,he⟩:=he
   simp only[apt] at he
   obtain⟨c',rfl,rfl⟩:=he
   exact h
  ·cases he
 | ug f pre x post =>
  intro z s' he
  simp only[au] at he
  obtain⟨_,he⟩:=ab he
  simp only[apu,apt,apx,apv] at he
  obtain⟨⟨xv,s1⟩,hx,⟨r,c⟩,hr,_,rfl⟩:=he
  cases c with
  | none=>exact KV hx h
  | some c'=>exact KV (s1:=s1) hx h
 | _ =>
  simp only[au,lu,ft,cQ,iF,ik,qe,qf,tA,sm]
  repeat' first
   | exact PU.none
   | exact PU.stay
   | exact PU.ok h
   | exact PU.c h
   | exact PU.c (set (by assumption) (by simp[AV.undef]))
   | exact PU.ok (set (by assumption) (by simp[AV.undef]))
   | refine PU.cond ?_ ?_
   | refine PU.bind fun _=>?_
   | refine PU.map fun _=>?_
   | split
def DE(nt:Nat)(is:List aj):Bool:=is.all fun o=>match o.dst with|some d=>Nat.blt d nt|none=>true
theorem DC{s:AS}{d:Option Nat}{v:AV}(h:U nt s.T)(hd:∀ k,d=some k->k<nt):U nt (s.bR d v).T:=by
 cases d with
 | none=>exact h
 | some k =>
  intro t ht
  show (s.T.put k v) t=.undef
  rw[df,if_neg (by have:=hd k rfl;omega)]
  exact h t ht
theorem Ps{draw:Bool}{o:aj}{s s' : AS}(h:U nt s.T)(hd:∀ k,o.dst=some k->k<nt)(he:bA G cf draw s o=some s'):U nt s'.T:=by
 have run:((au G cf s o.op).bind fun r=>match r.2 with
   | none=>cond (draw&&(aP r.1).isSome) none (some (s.bR o.dst r.1))
   | some s'=>cond draw none (some (s'.bR o.dst r.1)))=some s'->U nt s'.T:=by
  intro he
  simp only[apu] at he
  obtain⟨⟨z,so⟩,h1,h2⟩:=he
  cases so with
  | none =>
   simp only at h2
   cases hb:(draw&&(aP z).isSome) with
   | true=>rw[hb] at h2;cases h2
   | false=>rw[hb] at h2;injection h2 with h2;rw[<- h2];exact DC h hd
  | some s1 =>
   simp only at h2
   cases draw with
   | true=>cases h2
   | false=>injection h2 with h2;rw[<- h2];exact DC (aaJ h o.op z s1 h1) hd
 unfold bA at he
 cases hg:o.guard with
 | none=>simp only[hg] at he;exact run he
 | some gw =>
  obtain⟨g,w⟩:=gw
  simp only[hg] at he
  generalize s.T g=Y at he
  cases Y with
  | bool b =>
   simp only at he
   cases hb:(b==w) with
   | true=>rw[hb] at he;exact run he
   | false=>rw[hb] at he;simp only[apE,apv] at he;rw[<- he];exact DC h hd
  | tuple vs=>cases vs with
   | nil=>simp only[apv] at he;rw[<- he];exact DC h hd
   | cons v vs=>cases he
  | _=>cases he
theorem CF{draw:Bool} : ∀ (l:List aj) (s s' : AS),DE nt l=true->U nt s.T->bP G cf draw l s=some s'->U nt s'.T
 | [],s,s',_,h,he=>by simp only[bP,apv] at he;rw[<- he];exact h
 | o :: l,s,s',hp,h,he=>by
  simp only[bP,apu] at he
  obtain⟨s1,h1,h2⟩:=he
  simp only[DE,List.all_cons,Bool.and_eq_true] at hp
  refine CF l s1 s' hp.2 (Ps h (fun k hk=>?_) h1) h2
  have:=hp.1
  rw[hk] at this
  simpa [ap0] using this
def r9(nt:Nat)(L:List Nat):bO->Option bO
 | .ub nt' ops pre=>cond (Nat.beq nt' nt) ((Z6 nt L ops pre).bind fun l=>cond (DE nt l) (some (.region false l)) none) none
 | .region d ops=>cond (DE nt ops) (some (.region d ops)) none
 | .seq a b=>(r9 nt L a).bind fun x=>(r9 nt L b).map (.seq x ·)
 | .cond c a b=>(r9 nt L a).bind fun x=>(r9 nt L b).map (.cond c x ·)
 | .block i a=>(r9 nt L a).map (.block i ·)
 | .loop a=>(r9 nt L a).map .loop
 | .skip=>some .skip
 | .exit i=>some (.exit i)
 | .ret=>some .ret
def Zc(fn:ay):Option ay:=(r9 fn.nt fn.locals fn.body).map fun b=>{ fn with body:=b }
theorem HO:∀ (l:List aj) (s s' : AS) {Q:AS->Prop},bP G cf false l s=some s'->Q s'->lz G cf l s Q
 | [],s,s',Q,he,hq=>by simp only[bP,apv] at he;rw[<- he] at hq;exact hq
 | o :: l,s,s',Q,he,hq=>by
  simp only[bP,apu] at he
  obtain⟨s1,h1,h2⟩:=he
  unfold lz
  cases hn:jg o with
  | none=>exact⟨s1,h1,HO l s1 s' h2 hq⟩
  | some t =>
   exfalso
   obtain⟨ho,hg⟩:=zc hn
   unfold bA at h1
   rw[hg,ho] at h1
   simp[au] at h1
theorem Uz{s:AS}(h:U nt s.T):kn nt s=s:=(AE (fun _ _=>rfl) h ⟨rfl,rfl,rfl⟩).symm
theorem SS{f:AS->Option (bq × AS)}{F:AS->(bq->AS->Prop)->Prop}(h:∀ s e s' (Q:bq->AS->Prop),U nt s.T->f s=some (e,s')->U nt s'.T/\(Q e s'->F s Q)) :
  ∀ (n:Nat) (s:AS) (e:bq) (s' : AS) (Q:bq->AS->Prop),U nt s.T->iter f n s=some (e,s')->U nt s'.T/\(Q e s'->wN F n s Q)
 | 0,_,_,_,_,_,he=>by cases he
 | n+1,s,e,s',Q,hU,he=>by
  simp only[iter,apu] at he
  obtain⟨⟨e1,s1⟩,h1,h2⟩:=he
  cases e1 with
  | normal =>
   simp only at h2
   have ZA:=(h s .normal s1 (fun _ _=>True) hU h1).1
   obtain⟨k1,k2⟩:=SS h n s1 e s' Q ZA h2
   exact⟨k1,fun hq=>(h s .normal s1 _ hU h1).2 (k2 hq)⟩
  | exit i =>
   simp only[apv,apx] at h2
   obtain⟨rfl,rfl⟩:=h2
   exact⟨(h s _ _ (fun _ _=>True) hU h1).1,fun hq=>(h s _ _ _ hU h1).2 hq⟩
  | ret =>
   simp only[apv,apx] at h2
   obtain⟨rfl,rfl⟩:=h2
   exact⟨(h s _ _ (fun _ _=>True) hU h1).1,fun hq=>(h s _ _ _ hU h1).2 hq⟩
theorem lV{L:List Nat}(n:Nat):∀ (c c' : bO),r9 nt L c=some c'->∀ (s:AS) (e:bq) (s' : AS) (Q:bq->AS->Prop),U nt s.T->iG G cf n c' s=some (e,s') ->
  U nt s'.T/\(Q e s'->WN G cf c s Q)
 | .skip,c',hc,s,e,s',Q,hU,he=>by
  simp only[r9,apv] at hc
  subst hc
  simp only[iG,apv,apx] at he
  obtain⟨rfl,rfl⟩:=he
  exact⟨hU,fun h=>h⟩
 | .exit i,c',hc,s,e,s',Q,hU,he=>by
  simp only[r9,apv] at hc
  subst hc
  simp only[iG,apv,apx] at he
  obtain⟨rfl,rfl⟩:=he
  exact⟨hU,fun h=>h⟩
 | .ret,c',hc,s,e,s',Q,hU,he=>by
  simp only[r9,apv] at hc
  subst hc
  simp only[iG,apv,apx] at he
  obtain⟨rfl,rfl⟩:=he
  exact⟨hU,fun h=>h⟩
 | .region d ops,c',hc,s,e,s',Q,hU,he=>by
  simp only[r9] at hc
  obtain⟨hp,hc⟩:=ab hc
  injection hc with hc
  subst hc
  simp only[iG,apt,apx] at he
  obtain⟨s1,h1,rfl,rfl⟩:=he
  refine⟨CF ops s _ hp hU h1,fun hq=>?_⟩
  cases d with
  | false=>exact HO ops s _ h1 hq
  | true=>exact⟨_,h1,hq⟩
 | .ub nt' ops pre,c',hc,s,e,s',Q,hU,he=>by
  simp only[r9] at hc
  obtain⟨Ql,hc⟩:=ab hc
  have Ql:=aqw Ql
  subst Ql
  simp only[apu] at hc
  obtain⟨l,hl,hc⟩:=hc
  obtain⟨hp,hc⟩:=ab hc
  injection hc with hc
  subst hc
  simp only[iG,apt,apx] at he
  obtain⟨s1,h1,rfl,rfl⟩:=he
  have ZA:=CF l s _ hp hU h1
  refine⟨ZA,fun hq=>?_⟩
  simp only[Z6,apu] at hl
  obtain⟨es,rB,hl⟩:=hl
  obtain⟨pa,hl⟩:=ab hl
  injection hl with hl
  subst hl
  exact T6 rB pa h1 (by rw[Uz ZA];exact hq)
 | .seq a b,c',hc,s,e,s',Q,hU,he=>by
  simp only[r9,apu,apt] at hc
  obtain⟨a',ha,b',hb,rfl⟩:=hc
  simp only[iG,apu] at he
  obtain⟨⟨e1,s1⟩,h1,h2⟩:=he
  cases e1 with
  | normal =>
   simp only at h2
   have ZA:=(lV n a a' ha s .normal s1 (fun _ _=>True) hU h1).1
   obtain⟨k1,k2⟩:=lV n b b' hb s1 e s' Q ZA h2
   exact⟨k1,fun hq=>(lV n a a' ha s .normal s1 (andThen (fun s'=>WN G cf b s' Q) Q) hU h1).2 (k2 hq)⟩
  | exit i =>
   simp only[apv,apx] at h2
   obtain⟨rfl,rfl⟩:=h2
   have:=lV n a a' ha s (.exit i) s1 (andThen (fun s'=>WN G cf b s' Q) Q) hU h1
   exact⟨this.1,this.2⟩
  | ret =>
   simp only[apv,apx] at h2
   obtain⟨rfl,rfl⟩:=h2
   have:=lV n a a' ha s .ret s1 (andThen (fun s'=>WN G cf b s' Q) Q) hU h1
   exact⟨this.1,this.2⟩
 | .cond c a b,c',hc,s,e,s',Q,hU,he=>by
  simp only[r9,apu,apt] at hc
  obtain⟨a',ha,b',hb,rfl⟩:=hc
  simp only[iG] at he
  split at he
  ·rename_i t ht
   cases t with
   | true =>
    have:=lV n a a' ha s e s' Q hU he
    exact⟨this.1,fun hq=>⟨true,ht,fun _=>this.2 hq,fun h=>by cases h⟩⟩
   | false =>
    have:=lV n b b' hb s e s' Q hU he
    exact⟨this.1,fun hq=>⟨false,ht,fun h=>(by cases h),fun _=>this.2 hq⟩⟩
  ·cases he
 | .block i a,c',hc,s,e,s',Q,hU,he=>by
  simp only[r9,apt] at hc
  obtain⟨a',ha,rfl⟩:=hc
  simp only[iG,apt] at he
  obtain⟨⟨e1,s1⟩,h1,h2⟩:=he
  have hs:=lV n a a' ha s e1 s1 (leave i Q) hU h1
  cases e1 with
  | normal =>
   simp only[apx] at h2
   obtain⟨rfl,rfl⟩:=h2
   exact⟨hs.1,hs.2⟩
  | ret =>
   simp only[apx] at h2
   obtain⟨rfl,rfl⟩:=h2
   exact⟨hs.1,hs.2⟩
  | exit j =>
   simp only[apx] at h2
   obtain⟨h2,rfl⟩:=h2
   refine⟨hs.1,fun hq=>hs.2 ?_⟩
   unfold leave
   simp only
   rw[<- h2] at hq
   cases hb:Nat.beq j i<;>rw[hb] at hq<;>exact hq
 | .loop a,c',hc,s,e,s',Q,hU,he=>by
  simp only[r9,apt] at hc
  obtain⟨a',ha,rfl⟩:=hc
  simp only[iG] at he
  have:=SS (F:=WN G cf a) (fun s e s' Q hU he=>lV n a a' ha s e s' Q hU he) n s e s' Q hU he
  exact⟨this.1,fun hq=>⟨n,this.2 hq⟩⟩
end
section
variable {P:Program}{G:Nat->List AV}{H:ag}
theorem Kl{cf:cA}(iI:cU P G cf)(hm:P.follows .mixedOrders=true){f:FuncId}{fn:Func}(sQ:P.funcs[f]?=some fn){bJ locals muts:List Nat}{la v:ay}(hc:lq P bJ locals muts fn=some la)(hv:Zc la=some v)
  {n:Nat} {args:List AV} {r:AV} {c:Option gk} (he:tS G cf n v args H=some (r,c)) :
  (fn.body.isSome=true/\fn.name≠ "runtime.NumGoroutine")/\jW H c /\
  ∀ (base:Nat) (gh:Gh) (w:World) (vs:Array Value),aM G base H gh w->clean gh->vs.size=args.length->(∀ (j:Nat) (v:Value) (x:AV),vs[j]?=some v->args[j]?=some x->CR gh H.length w (.par j) v x) ->
   Calls P f vs w fun e w'=>∃ v aK,e=.returned v/\lW G base H gh w r c v aK w':=by
 simp only[lq,apu] at hc
 obtain⟨code,l9,b,hb,rs,yK,hc⟩:=hc
 obtain⟨h0,hc⟩:=ab hc
 injection hc with hc
 subst hc
 simp only[Zc,apt] at hv
 obtain⟨b',gb,rfl⟩:=hv
 simp only[Bool.and_eq_true,Nat.ble_eq,bne_iff_ne,ne_eq] at h0
 simp only[tS] at he
 obtain⟨h1,he⟩:=ab he
 have Ur:args.length=fn.params.size+fn.nfree:=by simpa [dX] using h1
 simp only[apu] at he
 obtain⟨⟨ex,s'⟩,bf,he⟩:=he
 have ql:jW H c:=by
  have qO:=ru (H:=H) (fun f args H r c h=>(iI f args H r c h).2.1) n b' _ s' ex bf ⟨apz _,apz _,fun _ _=>rfl⟩
  cases ex with
  | normal=>exact kq qO he
  | exit id=>cases he
  | ret=>exact kq qO he
 refine⟨⟨by rw[l9];rfl,h0.2⟩,ql,fun base gh w vs hW iw pQ cy=>?_⟩
 refine calls_of_wp sQ l9 ?_
 have gM:vs.size<=fn.ntmps:=by omega
 have hI:=uO (locals:=locals) (muts:=muts) hW pQ gM cy
 have hU:U fn.ntmps (gD args):=fun t ht=>by
  unfold gD
  rw[apX,aqK (by omega)];rfl
 have hwn:=(lV (G:=G) (cf:=cf) n b b' gb _ ex s' (fun e s1=>e=ex/\s1=s') hU bf).2 ⟨rfl,rfl⟩
 refine ke iI hm code b hb _ gh.taken w _ _ _ hI hwn (fun e s1 a' aK w' hr iT=>?_)
 obtain⟨rfl,rfl⟩:=hr
 cases e with
 | exit i=>cases he
 | normal =>
  obtain⟨_,v,CX,hv,hR⟩:=lL (P:=P) hW iw iT yK he
  exact⟨iT.F.defers,v,hv,v,CX,rfl,hR⟩
 | ret =>
  obtain⟨_,v,CX,hv,hR⟩:=lL (P:=P) hW iw iT yK he
  exact⟨iT.F.defers,v,hv,v,CX,rfl,hR⟩
structure OB (P:Program) (A:AP):Prop where
 mixed:P.follows .mixedOrders=true
 fns:∀ f v,A.fns f=some v->∃ fn bJ locals muts la,P.funcs[f]?=some fn/\lq P bJ locals muts fn=some la/\(v=la\/Zc la=some v)
 ov:∀ f g,A.ov f=some g->jk P A.aO f g
theorem vC{A:AP}(h:OB P A):∀ n,cU P A.aO (zN A n)
 | 0=>fun f args H r c he=>by cases he
 | n+1=>fun f args H r c he=>by
  simp only[zN] at he
  split at he
  ·rename_i g hg
   obtain⟨h0,he⟩:=ab he
   obtain⟨k1,k2,k3⟩:=h.ov f g hg args H r c he
   refine⟨k1,k2,fun base gh w vs hW iw pQ cy=>k3 base gh w vs hW iw pQ (fun j v x hv hx=>?_)⟩
   rcases cy j v x hv hx with h|⟨e,rfl,_⟩
   ·exact h
   ·have:=apA.1 h0 _ (apF hx)
    simp[qw] at this
  ·split at he
   ·cases he
   ·rename_i v hf
    obtain⟨fn,bJ,locals,muts,la,sQ,hc,hv⟩:=h.fns f v hf
    rcases hv with rfl|hv
    ·obtain⟨⟨h1,h2⟩,h3,h4⟩:=zu (vC h n) h.mixed sQ hc he
     exact⟨⟨fn,sQ,h1,h2⟩,h3,h4⟩
    ·obtain⟨⟨h1,h2⟩,h3,h4⟩:=Kl (vC h n) h.mixed sQ hc hv he
     exact⟨⟨fn,sQ,h1,h2⟩,h3,h4⟩
theorem OY{A:AP}(h:OB P A){f:FuncId} : jk P A.aO f (az A f):=by
 intro args H r c he
 obtain⟨n,hn⟩:=lZ.1 he
 obtain⟨k1,k2,k3⟩:=vC h n f args H r c hn
 exact⟨k1,k2,fun base gh w vs hW iw pQ cy=>k3 base gh w vs hW iw pQ fun j v x hv hx=>.inl (cy j v x hv hx)⟩
end
end
end Go.Abs
namespace Go.Proofs.YthbncinhhdogpaaGreatDoor
open Go Go.Abs Go.Proofs
def iL:ay:=⟨[3,4,5,6,7,8,9,10,11,13,14,15,118,186,17,22,47,98,152,700002,700012],[2,12,49,100,23,999998,999999],[500018],264,1,[.cell 2 true 2],cR [oO 2 (.allocL [.ae,.ae])] (cR [af 16 0,oO 17 (.build [.ae,.ae,.ae,.int .i64 0,.int .i64 0,.int .i64 0,.int .i64 0] [(2,1,.tmp 16)]),oO 18 (.B5 (aT 17)),ai 3 18] (cR [af 19 3,af 20 3,dS 21 16 20,oO 22 (.build [.int .i64 0,.int .i64 0,.int .i64 0,.str [],.ae,.ae] [(0,3,.tmp 21),(3,1,.cr (.str [99,111,114,101]))]),oO 23 (.mf 6 [[.int .i64 0,.int .i64 0,.int .i64 0,.str [],.slice [] false,.slice [] false]] [(0,.tmp 22)]),jB 24 19,cn 25 0 24,cn 26 0 25,fW 1 26 23] (.seq (cR [af 27 3,fp 28 17 [aT 27,aI 2],aN 29 .eql 28 1] (db 29 (.region false [af 30 3,af 31 3,dM 31,jB 32 31,dM 32,cn 33 0 32,dM 33,cn 34 0 33,dM 34,aQ 35 1 34,af 36 3,af 38 3,dM 38,jB 39 38,dM 39,cn 40 0 39,dM 40,cn 41 0 40,dM 41,aQ 42 1 41,dM 42,oIx 43 6 (aT 42) (aI 0),dM 43,cn 44 0 43,dM 44,aC 45 3 44,oO 46 (n9 3 [[.int .i64 0,.int .i64 0,.int .i64 0]] [(0,.tmp 45)]),dS 37 16 36,oN (.same false 1 35 (aT 34)),oN (.same false 1 42 (aT 41)),oN (.same true 3 45 (aT 44)),oO 47 (.build [.int .i64 0,.int .i64 0,.int .i64 0,.str [],.ae,.ae] [(0,3,.tmp 37),(3,1,.cr (.str [109,105,108,108])),(4,1,.tmp 46)]),oO 48 (n9 6 [[.int .i64 0,.int .i64 0,.int .i64 0,.str [],.slice [] false,.slice [] false]] [(0,.tmp 47)]),oO 49 (.appendO 6 88 (aT 35) (aT 48)),dM 30,jB 50 30,dM 50,cn 51 0 50,dM 51,cn 52 0 51,dM 52,fW 1 52 49]) .skip)) (cR [af 53 3,fp 54 17 [aT 53,aI 5],sR 55 .add (aI 4) (aT 54),ai 4 55] (cR [oO 56 (n9 1 [[.int .i64 0],[.int .i64 0],[.int .i64 0],[.int .i64 0],[.int .i64 0],[.int .i64 0],[.int .i64 0],[.int .i64 0]] [(0,.cr (.int .i64 0)),(1,.cr (.int .i64 1)),(2,.cr (.int .i64 2)),(3,.cr (.int .i64 2)),(4,.cr (.int .i64 4)),(5,.cr (.int .i64 5)),(6,.cr (.int .i64 3)),(7,.cr (.int .i64 0))]),ai 5 56] (cR [oO 57 (n9 1 [[.str []],[.str []],[.str []],[.str []],[.str []],[.str []],[.str []],[.str []]] [(0,.cr (.str [80,111,105,110,116])),(1,.cr (.str [69,118,101,110,116])),(2,.cr (.str [102])),(3,.cr (.str [103])),(4,.cr (.str [116])),(5,.cr (.str [99])),(6,.cr (.str [115,116,101,112])),(7,.cr (.str [83,116,97,116,101]))]),ai 6 57] (.seq (cR [aR 7 (aI 0)] (.block 0 (.loop (.seq (cR [af 58 7,af 59 4,bG 60 .lss 58 59] (db 60 .skip (.exit 0))) (.seq (.block 1 (cR [aR 8 (aI 0)] (.seq (cR [af 63 7,aN 64 .gtr 63 1] (db 64 (.region false [af 65 3,af 66 3,jB 67 66,cn 68 0 67,cn 69 0 68,aQ 70 1 69,cX 71 .sl 70,dC 72 17 65 71,ai 8 72]) .skip)) (cR [af 73 3,af 74 3,dM 74,jB 75 74,dM 75,cn 76 0 75,dM 76,cn 77 1 76,dM 77,aQ 78 1 77,af 79 3,af 81 5,af 82 7,dM 81,de 83 1 81 82,dM 83,aQ 84 1 83,af 85 3,dM 85,jB 86 85,dM 86,cn 87 0 86,dM 87,cn 88 0 87,dM 88,aQ 89 1 88,af 90 8,dM 89,de 91 6 89 90,dM 91,cn 92 0 91,dM 92,aC 93 3 92,af 94 6,af 95 7,dM 94,de 96 1 94 95,dM 96,aQ 97 1 96,dS 80 16 79,oN (.same false 1 78 (aT 77)),oN (.same false 1 84 (aT 83)),oN (.same false 1 89 (aT 88)),oN (.same true 3 93 (aT 92)),oN (.same false 1 97 (aT 96)),oO 98 (.build [.int .i64 0,.int .i64 0,.int .i64 0,.int .i64 0,.int .i64 0,.int .i64 0,.int .i64 0,.str [],.ae,.int .i64 0,.int .i64 0,.int .i64 0,.int .i64 0,.ae,.int .i64 0,.int .i64 0,.int .i64 0,.int .i64 0,.int .i64 0,.int .i64 0,.int .i64 0,.int .i64 0,.int .i64 0,.int .i64 0,.int .i64 0,.int .i64 0,.ae,.ae,.ae,.int .i64 0,.ae] [(0,3,.tmp 80),(3,1,.tmp 84),(4,3,.tmp 93),(7,1,.tmp 97)]),oO 99 (n9 31 [[.int .i64 0,.int .i64 0,.int .i64 0,.int .i64 0,.int .i64 0,.int .i64 0,.int .i64 0,.str [],.slice [] false,.int .i64 0,.int .i64 0,.int .i64 0,.int .i64 0,.slice [] false,.int .i64 0,.int .i64 0,.int .i64 0,.int .i64 0,.int .i64 0,.int .i64 0,.int .i64 0,.int .i64 0,.int .i64 0,.int .i64 0,.int .i64 0,.int .i64 0,.slice [] false,.slice [] false,.slice [] false,.int .i64 0,.slice [] false]] [(0,.tmp 98)]),oO 100 (.appendO 31 352 (aT 78) (aT 99)),dM 73,jB 101 73,dM 101,cn 102 0 101,dM 102,cn 103 1 102,dM 103,fW 1 103 100] (.region false [af 104 3,dM 104,jB 105 104,dM 105,cn 106 0 105,dM 106,cn 107 0 106,dM 107,aQ 108 1 107,af 109 8,af 110 3,dM 110,jB 111 110,dM 111,cn 112 0 111,dM 112,cn 113 0 112,dM 113,aQ 114 1 113,af 115 8,dM 114,de 116 6 114 115,dM 116,cn 117 5 116,af 119 3,dM 119,jB 120 119,dM 120,cn 121 0 120,dM 121,cn 122 1 121,dM 122,aQ 123 1 122,af 124 7,dM 123,de 125 31 123 124,dM 125,cn 126 0 125,dM 126,aC 127 3 126,oO 128 (n9 3 [[.int .i64 0,.int .i64 0,.int .i64 0]] [(0,.tmp 127)]),dM 117,oO 118 (.load true false 1 (aT 117)),oN (.same false 1 108 (aT 107)),oN (.same false 1 123 (aT 122)),oN (.same true 3 127 (aT 126)),mg 129 3 24 118 128,dM 108,de 130 6 108 109,dM 130,cn 131 5 130,dM 131,fW 1 131 129]))))) (.region false [af 61 7,aN 62 .add 61 1,ai 7 62])))))) (.seq (cR [aR 9 (aI 0)] (.block 2 (.loop (.seq (cR [af 132 9,af 133 4,bG 134 .lss 132 133] (db 134 .skip (.exit 2))) (.seq (.block 3 (cR [af 137 3,fp 138 17 [aT 137,aI 3],sR 139 .add (aI 1) (aT 138),ai 10 139] (cR [aR 11 (aI 0)] (.block 4 (.loop (.seq (cR [af 140 11,af 141 10,bG 142 .lss 140 141] (db 142 .skip (.exit 4))) (.seq (.block 5 (cR [af 145 3,dS 146 16 145,oO 147 (n9 1 [[.str []],[.str []],[.str []]] [(0,.cr (.str [97])),(1,.cr (.str [98])),(2,.cr (.str [100]))]),af 148 11,dM 147,de 149 1 147 148,oN (.j6 .Uw (aT 149)),aQ 150 1 149,af 151 11,oO 152 (.build [.int .i64 0,.int .i64 0,.int .i64 0,.str [],.int .i64 0,.int .i64 0,.int .i64 0,.int .i64 0,.ae,.int .i64 0,.int .i64 0] [(0,3,.tmp 146),(3,1,.tmp 150),(10,1,.tmp 151)]),oO 12 (.allocL [.int .i64 0,.int .i64 0,.int .i64 0,.str [],.int .i64 0,.int .i64 0,.int .i64 0,.int .i64 0,.ae,.int .i64 0,.int .i64 0]),ky 12 12,fW 11 12 152] (.seq (cR [af 153 9,aN 154 .gtr 153 1] (db 154 (.region false [af 155 3,dS 156 18 155,cn 157 4 12,fW 5 157 156]) (cR [af 158 3,fp 159 17 [aT 158,aI 2],aN 160 .eql 159 1] (db 160 (.region false [oO 161 (.build [.int .i64 0,.int .i64 0,.int .i64 0,.int .i64 0,.slice [] true] [(0,1,.cr (.int .i64 1))]),dS 162 19 161,cn 163 4 12,fW 5 163 162]) .skip)))) (.seq (cR [af 164 5,af 165 9,de 166 1 164 165,aQ 167 1 166,aN 168 .eql 167 4] (db 168 (.region false [af 169 3,fp 170 17 [aT 169,aI 5],cn 171 9 12,fW 1 171 170]) .skip)) (.region false [af 172 3,dM 172,jB 173 172,dM 173,cn 174 0 173,dM 174,cn 175 1 174,dM 175,aQ 176 1 175,af 177 9,af 178 3,dM 178,jB 179 178,dM 179,cn 180 0 179,dM 180,cn 181 1 180,dM 181,aQ 182 1 181,af 183 9,dM 182,de 184 31 182 183,dM 184,cn 185 8 184,ky 12 12,aC 187 11 12,oO 188 (n9 11 [[.int .i64 0,.int .i64 0,.int .i64 0,.str [],.int .i64 0,.int .i64 0,.int .i64 0,.int .i64 0,.slice [] false,.int .i64 0,.int .i64 0]] [(0,.tmp 187)]),dM 185,oO 186 (.load true false 1 (aT 185)),oN (.same false 1 176 (aT 175)),mg 189 11 112 186 188,dM 176,de 190 31 176 177,dM 190,cn 191 8 190,dM 191,fW 1 191 189]))))) (.region false [af 143 11,aN 144 .add 143 1,ai 11 144])))))))) (.region false [af 135 9,aN 136 .add 135 1,ai 9 136])))))) (.seq (cR [aR 13 (aI 0)] (.block 6 (.loop (.seq (cR [af 192 13,af 193 4,bG 194 .lss 192 193] (db 194 .skip (.exit 6))) (.seq (.block 7 (.seq (cR [af 197 5,af 198 13,de 199 1 197 198,aQ 200 1 199,dS 201 20 200,oO 202 (.un .not (aT 201))] (db 202 (.exit 7) .skip)) (cR [aR 14 (.cr (.slice [] true))] (.seq (cR [aR 15 (aI 0)] (.block 8 (.loop (.seq (cR [af 203 15,af 204 3,jB 205 204,cn 206 0 205,cn 207 1 206,aQ 208 1 207,af 209 13,de 210 31 208 209,cn 211 8 210,aQ 212 1 211,cX 213 .sl 212,bG 214 .lss 203 213] (db 214 .skip (.exit 8))) (.seq (.block 9 (.region false [af 217 14,af 218 3,jB 219 218,cn 220 0 219,cn 221 1 220,aQ 222 1 221,af 223 13,de 224 31 222 223,cn 225 8 224,aQ 226 1 225,af 227 15,de 228 11 226 227,cn 229 0 228,aC 230 3 229,fp 231 21 [aT 217,aS [],aT 230,aI 0],ai 14 231])) (.region false [af 215 15,aN 216 .add 215 1,ai 15 216])))))) (cR [af 232 3,af 233 13,jB 234 232,cn 235 6 234,fW 1 235 233] (cR [af 236 3,jB 237 236,cn 238 5 237,oN (.store 1 (aT 238) (aI 22))] (cR [af 239 3,dM 239,jB 240 239,dM 240,cn 241 0 240,dM 241,cn 242 1 241,dM 242,aQ 243 1 242,af 244 13,af 245 3,dS 246 18 245,oN (.same false 1 243 (aT 242)),dM 243,de 247 31 243 244,dM 247,cn 248 9 247,dM 248,fW 5 248 246] (.region false [af 249 3,dM 249,jB 250 249,dM 250,cn 251 0 250,dM 251,cn 252 1 251,dM 252,aQ 253 1 252,af 254 13,af 255 3,af 256 14,fp 257 22 [aT 255,aT 256,aI 5],oN (.same false 1 253 (aT 252)),dM 253,de 258 31 253 254,dM 258,cn 259 14 258,dM 259,fW 15 259 257])))))))) (.region false [af 195 13,aN 196 .add 195 1,ai 13 196])))))) (cR [af 260 3,jB 261 260,cn 262 0 261,aC 263 2 262,fW 2 2 263] .ret))))))))))⟩
theorem Nn:Zc ir6=some iL:=by kernel_rfl
noncomputable def ab7:ay:=cI [2,5] [999999] [] Tryz.f57
theorem WD:bs Tryz.f57 ab7=some ab7:=by kernel_rfl
def SG:ay:=⟨[8,9,40,46,58,77,700006,700010],[6,10],[],78,3,[.cell 6 true 31,.tmp 7],cR [oO 6 (.allocL [.int .i64 0,.int .i64 0,.int .i64 0,.int .i64 0,.int .i64 0,.int .i64 0,.int .i64 0,.str [],.ae,.int .i64 0,.int .i64 0,.int .i64 0,.int .i64 0,.ae,.int .i64 0,.int .i64 0,.int .i64 0,.int .i64 0,.int .i64 0,.int .i64 0,.int .i64 0,.int .i64 0,.int .i64 0,.int .i64 0,.int .i64 0,.int .i64 0,.ae,.ae,.ae,.int .i64 0,.ae]),dD 7 qZ] (cR [af 11 0,fp 12 17 [aT 11,aI 8],ai 8 12] (.seq (cR [aR 9 (aI 0)] (.block 0 (.loop (.seq (cR [af 13 9,af 14 0,jB 15 14,cn 16 6 15,aQ 17 1 16,bG 18 .lss 13 17] (db 18 .skip (.exit 0))) (.seq (.block 1 (cR [af 21 0,dM 21,jB 22 21,dM 22,cn 23 0 22,dM 23,cn 24 1 23,dM 24,aQ 25 1 24,af 26 9,af 27 8,bG 28 .add 26 27,af 29 0,dM 29,jB 30 29,dM 30,cn 31 6 30,dM 31,aQ 32 1 31,bG 33 .rem 28 32,dM 25,de 34 31 25 33,dM 34,aC 35 31 34,oO 10 (.allocL [.int .i64 0,.int .i64 0,.int .i64 0,.int .i64 0,.int .i64 0,.int .i64 0,.int .i64 0,.str [],.ae,.int .i64 0,.int .i64 0,.int .i64 0,.int .i64 0,.ae,.int .i64 0,.int .i64 0,.int .i64 0,.int .i64 0,.int .i64 0,.int .i64 0,.int .i64 0,.int .i64 0,.int .i64 0,.int .i64 0,.int .i64 0,.int .i64 0,.ae,.ae,.ae,.int .i64 0,.ae]),ky 10 10,fW 31 10 35] (cR [ky 10 10,cn 36 3 10,ky 10 36,aQ 37 1 36,af 38 1,bG 39 .eql 37 38,ai 40 39,nf 40 (.j6 (.frame 10) (aT 10)),ia 41 40 (sE 3 10),nf 40 (.j6 (.frame 10) (aT 41)),ia 42 40 (jZ 1 41),ia 43 40 (dO 2),ia 44 40 (ji .eql (aT 42) (aT 43)),To 45 40 44,ai 46 45,zg 46 (.j6 (.frame 10) (aT 10)),dK 47 46 (sE 4 10),zg 46 (.j6 (.frame 10) (aT 47)),dK 48 46 (iW 3 47),dK 49 46 (dO 0),zg 46 (oz 49),dK 50 46 (.nilCheck (aT 49)),zg 46 (oz 50),dK 51 46 (sE 0 50),zg 46 (oz 51),dK 52 46 (sE 0 51),zg 46 (oz 52),dK 53 46 (jZ 1 52),zg 46 (oz 53),dK 54 46 (.ixSl 6 (aT 53) (aI 0)),zg 46 (oz 54),dK 55 46 (sE 0 54),zg 46 (oz 55),dK 56 46 (iW 3 55),dK 57 46 (.bin .eql (.flat [.i,.i,.i]) (aT 48) (aT 56)),dK 58 46 (Hg 57),nf 58 (.j6 (.frame 10) (aT 10)),ia 59 58 (sE 4 10),nf 58 (.j6 (.frame 10) (aT 59)),ia 60 58 (iW 3 59),ia 61 58 (dO 0),nf 58 (oz 61),ia 62 58 (.nilCheck (aT 61)),nf 58 (oz 62),ia 63 58 (sE 0 62),nf 58 (oz 63),ia 64 58 (sE 1 63),nf 58 (oz 64),ia 65 58 (jZ 1 64),ia 66 58 (dO 0),nf 58 (oz 66),ia 67 58 (.nilCheck (aT 66)),nf 58 (oz 67),ia 68 58 (sE 6 67),nf 58 (oz 68),ia 69 58 (jZ 1 68),nf 58 (oz 65),ia 70 58 (.ixSl 31 (aT 65) (aT 69)),nf 58 (oz 70),ia 71 58 (sE 4 70),nf 58 (oz 71),ia 72 58 (iW 3 71),ia 73 58 (.bin .eql (.flat [.i,.i,.i]) (aT 60) (aT 72)),dK 74 46 (.pick (aT 58) BV (aT 73)),lp 75 46 74] (db 75 (cR [aC 76 31 10,fW 31 6 76,dD 7 BV] .ret) .skip)))) (.region false [af 19 9,aN 20 .add 19 1,ai 9 20])))))) (cR [oO 77 (.build [.int .i64 0,.int .i64 0,.int .i64 0,.int .i64 0,.int .i64 0,.int .i64 0,.int .i64 0,.str [],.ae,.int .i64 0,.int .i64 0,.int .i64 0,.int .i64 0,.ae,.int .i64 0,.int .i64 0,.int .i64 0,.int .i64 0,.int .i64 0,.int .i64 0,.int .i64 0,.int .i64 0,.int .i64 0,.int .i64 0,.int .i64 0,.int .i64 0,.ae,.ae,.ae,.int .i64 0,.ae] []),fW 31 6 77,dD 7 qZ] .ret)))⟩
theorem WE:bs Tryz.f58 SG=some SG:=by kernel_rfl
def yS:ay:=⟨[],[],[],9,1,[.tmp 2],cR [dD 2 (aI 0)] (.seq (cR [af 3 0,aN 4 .eql 3 3] (db 4 (cR [dD 2 (aI 0)] .ret) .skip)) (.seq (cR [af 5 0,aN 6 .eql 5 7] (db 6 (cR [dD 2 (aI 1)] .ret) .skip)) (.seq (cR [af 7 0,aN 8 .eql 7 8] (db 8 (cR [dD 2 (aI 2)] .ret) .skip)) (cR [dD 2 (aI 3)] .ret))))⟩
theorem WG:bs Tryz.f59 yS=some yS:=by kernel_rfl
def SH:ay:=⟨[4,5,6,7,8,9,10,11,12,13,16,19,24,31,36,40,84,102,121,128],[999999],[],143,2,[.tmp 4],cR [aR 4 (aI 0)] (cR [af 14 1,cX 15 .str 14,ai 5 15] (.seq (.block 0 (cR [af 17 5,aN 18 .eql 17 0,ai 19 18,ia 20 19 (dO 1),ia 21 19 (dO 0),ia 22 19 (ji .eql (aT 20) (aT 21)),To 23 19 22,ai 16 23] (db 16 (cR [aR 4 (aI 0)] .ret) (cR [af 25 5,aN 26 .eql 25 1,ai 24 26] (db 24 (cR [af 27 0,af 28 1,oO 29 (.indexStr (aT 28) (aI 0)),dC 30 84 27 29,ai 4 30] .ret) (cR [af 32 5,af 33 0,cX 34 .str 33,bG 35 .geq 32 34,ai 31 35] (db 31 (cR [aR 4 (aI (-1))] .ret) (cR [af 37 5,oO 38 (.load false false 1 (.aO 1)),bG 39 .leq 37 38,ai 40 39,dK 41 40 (dO 0),dK 42 40 (.len .str (aT 41)),dK 43 40 (ji .leq (aT 42) (aI 64)),lp 44 40 43,ai 36 44] (db 36 (cR [af 45 0,af 46 1,dC 47 85 45 46,ai 4 47] .ret) .skip))))))))) (cR [af 48 1,oO 49 (.indexStr (aT 48) (aI 0)),ai 6 49] (cR [af 50 1,oO 51 (.indexStr (aT 50) (aI 1)),ai 7 51] (cR [aR 8 (aI 0)] (cR [af 52 0,cX 53 .str 52,af 54 5,bG 55 .sub 53 54,aN 56 .add 55 1,ai 9 56] (cR [aR 10 (aI 0)] (.seq (.block 1 (.loop (.seq (cR [af 57 8,af 58 9,bG 59 .lss 57 58] (db 59 .skip (.exit 1))) (.block 2 (.seq (cR [af 60 0,af 61 8,oO 62 (.indexStr (aT 60) (aT 61)),af 63 6,bG 64 .neq 62 63] (db 64 (cR [af 65 0,af 66 8,aN 67 .add 66 1,af 68 9,oO 69 (.slice .str (aT 65) (some (aT 67)) (some (aT 68)) none),af 70 6,dC 71 84 69 70,ai 11 71] (.seq (cR [af 72 11,aN 73 .lss 72 0] (db 73 (cR [aR 4 (aI (-1))] .ret) .skip)) (.region false [af 74 8,af 75 11,aN 76 .add 75 1,bG 77 .add 74 76,ai 8 77]))) .skip)) (.seq (cR [af 78 0,af 79 8,aN 80 .add 79 1,oO 81 (.indexStr (aT 78) (aT 80)),af 82 7,bG 83 .eql 81 82,ai 84 83,dK 85 84 (dO 0),dK 86 84 (dO 8),dK 87 84 (dO 8),dK 88 84 (dO 5),dK 89 84 (ji .add (aT 87) (aT 88)),dK 90 84 (.slice .str (aT 85) (some (aT 86)) (some (aT 89)) none),dK 91 84 (dO 1),dK 92 84 (ji .eql (aT 90) (aT 91)),lp 93 84 92] (db 93 (cR [af 94 8,ai 4 94] .ret) .skip)) (cR [af 95 8,aN 96 .add 95 1,ai 8 96] (cR [af 97 10,aN 98 .add 97 1,ai 10 98] (cR [af 99 5,oO 100 (.load false false 1 (.aO 1)),bG 101 .leq 99 100,ai 102 101,dK 103 102 (dO 10),dK 104 102 (dO 8),dK 105 102 (BB 86 [aT 104]),dK 106 102 (ji .gtr (aT 103) (aT 105)),lp 107 102 106] (db 107 (cR [af 108 0,af 109 8,oO 110 (.slice .str (aT 108) (some (aT 109)) none none),af 111 1,dC 112 85 110 111,ai 12 112] (.seq (cR [af 113 12,aN 114 .geq 113 0] (db 114 (cR [af 115 12,af 116 8,bG 117 .add 115 116,ai 4 117] .ret) .skip)) (cR [aR 4 (aI (-1))] .ret))) (cR [af 118 5,oO 119 (.load false false 1 (.aO 1)),bG 120 .gtr 118 119,ai 121 120,dK 122 121 (dO 10),dK 123 121 (dO 8),dK 124 121 (ji .shr (aT 123) (.cr (.int IntKind.u64 4))),dK 125 121 (ji .add (aI 4) (aT 124)),dK 126 121 (ji .geq (aT 122) (aT 125)),lp 127 121 126,ai 128 127,dK 129 128 (dO 8),dK 130 128 (dO 9),dK 131 128 (ji .lss (aT 129) (aT 130)),lp 132 128 131] (db 132 (cR [af 133 0,af 134 8,oO 135 (.slice .str (aT 133) (some (aT 134)) none none),af 136 1,dC 137 87 135 136,ai 13 137] (.seq (cR [af 138 13,aN 139 .lss 138 0] (db 139 (cR [aR 4 (aI (-1))] .ret) .skip)) (cR [af 140 8,af 141 13,bG 142 .add 140 141,ai 4 142] .ret))) .skip)))))))))))) (cR [aR 4 (aI (-1))] .ret)))))))))⟩
theorem WH:bs Tryz.f60 SH=some SH:=by kernel_rfl
def SI:ay:=⟨[4,5,8],[999999],[],19,2,[.tmp 4],cR [oO 3 (.box 31 (aT 1)),aR 4 (aI 0)] (.seq (cR [af 6 0,cX 7 .sl 6,aR 8 (aI 0)] (.block 0 (.loop (cR [bG 9 .lss 8 7] (.seq (db 9 .skip (.exit 0)) (.seq (.block 1 (cR [af 10 8,ai 5 10] (.seq (.region true [aC 11 3 3,af 12 0,af 13 5,de 14 3 12 13,aC 15 3 14,oO 16 (.bin .eql (.flat [.i,.i,.i]) (aT 11) (aT 15))]) (db 16 (cR [af 17 5,ai 4 17] .ret) .skip)))) (.region false [aN 18 .add 8 1,ai 8 18]))))))) (cR [aR 4 (aI (-1))] .ret))⟩
theorem WI:bs Tryz.f61 SI=some SI:=by kernel_rfl
def JI:ay:=⟨[1,2,3,10,11,12,13,14,15,16,17,18,19,20,47,69,72,83,105],[999999],[],148,5,[],cR [aR 10 BV] (cR [aR 11 BV] (.block 0 (.loop (.block 1 (cR [af 21 2,af 22 1,bG 23 .sub 21 22,ai 12 23] (.seq (cR [af 24 12,aN 25 .leq 24 12] (db 25 (cR [af 26 0,af 27 1,af 28 2,af 29 4,nU 30 88 26 27 28 29] .ret) .skip)) (.seq (cR [af 31 3,aN 32 .eql 31 0] (db 32 (cR [af 33 0,af 34 1,af 35 2,af 36 4,nU 37 89 33 34 35 36] .ret) .skip)) (.seq (cR [af 38 10,oO 39 (.un .not (aT 38))] (db 39 (cR [af 40 0,af 41 1,af 42 2,af 43 4,nU 44 90 40 41 42 43] (.region false [af 45 3,aN 46 .sub 45 1,ai 3 46])) .skip)) (cR [af 48 0,af 49 1,af 50 2,af 51 4,nU 52 91 48 49 50 51,ai 47 52,iB 53 47 0,iB 54 47 1,ai 13 53,ai 14 54] (.seq (cR [af 55 14,aN 56 .eql 55 2] (db 56 (cR [af 57 0,af 58 1,af 59 2,af 60 4,nU 61 92 57 58 59 60] (cR [af 62 2,aN 63 .sub 62 1,af 64 13,af 65 1,bG 66 .sub 64 65,bG 67 .sub 63 66,ai 13 67] (.region false [aR 14 (aI 1)]))) .skip)) (.seq (cR [af 68 10,ai 69 68,dK 70 69 (dO 11),lp 71 69 70,ai 72 71,dK 73 72 (dO 14),dK 74 72 (ji .eql (aT 73) (aI 1)),lp 75 72 74] (db 75 (cR [af 76 0,af 77 1,af 78 2,af 79 4,nU 80 93 76 77 78 79] (db 80 .ret .skip)) .skip)) (.seq (cR [af 81 1,aN 82 .gtr 81 0,ai 83 82,dK 84 83 (dO 4),dK 85 83 (dO 0),dK 86 83 (dO 1),dK 87 83 (ji .sub (aT 86) (aI 1)),zg 83 (oz 85),dK 88 83 (.ixSl 3 (aT 85) (aT 87)),zg 83 (oz 88),dK 89 83 (iW 3 88),dK 90 83 (dO 0),dK 91 83 (dO 13),zg 83 (oz 90),dK 92 83 (.ixSl 3 (aT 90) (aT 91)),zg 83 (oz 92),dK 93 83 (iW 3 92),dK 94 83 (.call (aT 84) [aT 89,aT 93]),dK 95 83 (ji .lss (aT 94) (aI 0)),dK 96 83 (.un .not (aT 95)),lp 97 83 96] (db 97 (cR [af 98 0,af 99 1,af 100 2,af 101 13,af 102 4,fp 103 94 [aT 98,aT 99,aT 100,aT 101,aT 102],ai 15 103] (cR [af 104 15,ai 1 104] (.exit 1))) .skip)) (cR [af 106 0,af 107 1,af 108 2,af 109 13,af 110 4,fp 111 95 [aT 106,aT 107,aT 108,aT 109,aT 110],ai 105 111,iB 112 105 0,iB 113 105 1,ai 16 112,ai 17 113] (cR [af 114 17,ai 11 114] (cR [af 115 16,af 116 1,bG 117 .sub 115 116,af 118 2,af 119 16,bG 120 .sub 118 119,ai 18 117,ai 19 120] (cR [af 121 12,aN 122 .quo 121 8,ai 20 122] (cR [af 123 18,af 124 19,bG 125 .lss 123 124] (db 125 (cR [af 126 18,af 127 20,bG 128 .geq 126 127,ai 10 128] (cR [af 129 0,af 130 1,af 131 16,af 132 3,af 133 4,fp 134 62 [aT 129,aT 130,aT 131,aT 132,aT 133]] (.region false [af 135 16,aN 136 .add 135 1,ai 1 136]))) (cR [af 137 19,af 138 20,bG 139 .geq 137 138,ai 10 139] (cR [af 140 0,af 141 16,aN 142 .add 141 1,af 143 2,af 144 3,af 145 4,fp 146 62 [aT 140,aT 142,aT 143,aT 144,aT 145]] (.region false [af 147 16,ai 2 147])))))))))))))))))))))⟩
theorem WJ:bs Tryz.f62 JI=some JI:=by kernel_rfl
def SJ:ay:=⟨[2],[999999],[],8,1,[.tmp 2],cR [aR 2 (aI 0)] (.seq (.cond (.cr (.bool false)) (cR [af 3 0,oO 4 (.conv (.toInt IntKind.u32) (aT 3)),dS 5 96 4,ai 2 5] .ret) .skip) (cR [af 6 0,dS 7 97 6,ai 2 7] .ret))⟩
theorem WK:bs Tryz.f63 SJ=some SJ:=by kernel_rfl
def SK:ay:=⟨[2,5,8],[999999],[],18,1,[.tmp 2],cR [aR 2 (aI 0)] (cR [dD 3 (aI 0)] (.seq (cR [af 6 0,cX 7 .sl 6,aR 8 (aI 0)] (.block 0 (.loop (cR [bG 9 .lss 8 7] (.seq (db 9 .skip (.exit 0)) (.seq (.block 1 (cR [de 10 1 6 8,aQ 11 1 10,ai 5 11] (cR [af 12 5,af 13 3,bG 14 .neq 12 13] (db 14 (cR [af 15 5,ai 2 15] .ret) .skip)))) (.region false [aN 16 .add 8 1,ai 8 16]))))))) (cR [af 17 3,ai 2 17] .ret)))⟩
theorem WL:bs Tryz.f64 SK=some SK:=by kernel_rfl
def SL:ay:=⟨[5,6],[999999],[],20,2,[.tmp 4],cR [dD 4 (aI 0)] (cR [af 7 0,dS 8 98 7,ai 5 8] (cR [af 9 1,dS 10 98 9,ai 6 10] (.seq (cR [af 11 5] (db 11 (.seq (cR [af 12 6] (db 12 (cR [dD 4 (aI 0)] .ret) .skip)) (cR [dD 4 (aI (-1))] .ret)) .skip)) (.seq (cR [af 13 6] (db 13 (cR [dD 4 (aI 1)] .ret) .skip)) (.seq (cR [af 14 0,af 15 1,bG 16 .lss 14 15] (db 16 (cR [dD 4 (aI (-1))] .ret) .skip)) (.seq (cR [af 17 0,af 18 1,bG 19 .gtr 17 18] (db 19 (cR [dD 4 (aI 1)] .ret) .skip)) (cR [dD 4 (aI 0)] .ret)))))))⟩
theorem WM:bs Tryz.f65 SL=some SL:=by kernel_rfl
noncomputable def ab9:ay:=cI [] [999999] [] Tryz.f66
theorem WQ:bs Tryz.f66 ab9=some ab9:=by kernel_rfl
noncomputable def ab':ay:=cI [4,5] [3,999999] [] Tryz.f67
theorem WR:bs Tryz.f67 ab'=some ab':=by kernel_rfl
noncomputable def aca:ay:=cI [5,6,8,14,19,24,29,34,38,44,49,54,65,70,75,81,86,89,101,112,121,130,137,142,16,31,46,59,62,78,83,88,109,700004,700007] [3,4,7,999999] [] Tryz.f68
theorem WS:bs Tryz.f68 aca=some aca:=by kernel_rfl
noncomputable def acb:ay:=cI [2,5,7,9] [1,999999] [] Tryz.f69
theorem WT:bs Tryz.f69 acb=some acb:=by kernel_rfl
noncomputable def ace:ay:=cI [4,5,9,14,18,23,27] [2,999999] [] Tryz.f70
theorem WU:bs Tryz.f70 ace=some ace:=by kernel_rfl
noncomputable def acf:ay:=cI [4,19,15,700006] [2,6,999999] [] Tryz.f71
theorem WV:bs Tryz.f71 acf=some acf:=by kernel_rfl
noncomputable def acg:ay:=cI [4,5,6,7] [999999] [] Tryz.f72
theorem WW:bs Tryz.f72 acg=some acg:=by kernel_rfl
noncomputable def ach:ay:=cI [8] [999999] [] Tryz.f73
theorem WX:bs Tryz.f73 ach=some ach:=by kernel_rfl
noncomputable def aci:ay:=cI [] [999999] [] Tryz.f74
theorem WY:bs Tryz.f74 aci=some aci:=by kernel_rfl
noncomputable def acj:ay:=cI [16,30] [999999] [] Tryz.f75
theorem WZ:bs Tryz.f75 acj=some acj:=by kernel_rfl
noncomputable def ack:ay:=cI [9] [999999] [] Tryz.f76
theorem W0:bs Tryz.f76 ack=some ack:=by kernel_rfl
noncomputable def acm:ay:=cI [2] [999999] [] Tryz.f77
theorem W1:bs Tryz.f77 acm=some acm:=by kernel_rfl
noncomputable def acn:ay:=cI [2,4,13,18,21,27,30,36,39,44,53,56,63,66,700003] [999999] [] Tryz.f78
theorem W2:bs Tryz.f78 acn=some acn:=by kernel_rfl
noncomputable def aco:ay:=cI [18,24,43,49,62,68,85,90,100,119,158,179] [999999,999996] [] Tryz.f79
theorem W3:bs Tryz.f79 aco=some aco:=by kernel_rfl
noncomputable def acq:ay:=cI [2,3,4,5,6,7,8,9,38,46] [999999] [] Tryz.f80
theorem W5:bs Tryz.f80 acq=some acq:=by kernel_rfl
noncomputable def acr:ay:=cI [4,10,700005,700007] [7,999999] [] Tryz.f81
theorem W6:bs Tryz.f81 acr=some acr:=by kernel_rfl
noncomputable def acs:ay:=cI [5,13] [999999] [] Tryz.f82
theorem W7:bs Tryz.f82 acs=some acs:=by kernel_rfl
noncomputable def acu:ay:=cI [2] [999999] [] Tryz.f86
theorem W8:bs Tryz.f86 acu=some acu:=by kernel_rfl
noncomputable def acv:ay:=cI [4,5,6,7,8,9,10,11,33,68] [999999] [] Tryz.f87
theorem W9:bs Tryz.f87 acv=some acv:=by kernel_rfl
def JJ:ay:=⟨[8,9,21],[999999],[],53,4,[],cR [af 10 1,aN 11 .add 10 1,ai 8 11] (.block 0 (.loop (.seq (cR [af 12 8,af 13 2,bG 14 .lss 12 13] (db 14 .skip (.exit 0))) (.seq (.block 1 (cR [af 17 8,ai 9 17] (.block 2 (.loop (.seq (cR [af 18 9,af 19 1,bG 20 .gtr 18 19,ai 21 20,dK 22 21 (dO 3),dK 23 21 (dO 0),dK 24 21 (dO 9),zg 21 (oz 23),dK 25 21 (.ixSl 3 (aT 23) (aT 24)),zg 21 (oz 25),dK 26 21 (iW 3 25),dK 27 21 (dO 0),dK 28 21 (dO 9),dK 29 21 (ji .sub (aT 28) (aI 1)),zg 21 (oz 27),dK 30 21 (.ixSl 3 (aT 27) (aT 29)),zg 21 (oz 30),dK 31 21 (iW 3 30),dK 32 21 (.call (aT 22) [aT 26,aT 31]),dK 33 21 (ji .lss (aT 32) (aI 0)),lp 34 21 33] (db 34 .skip (.exit 2))) (.seq (.block 3 (.region false [af 37 0,af 38 9,af 39 0,af 40 9,aN 41 .sub 40 1,af 42 0,af 43 9,aN 44 .sub 43 1,dM 42,de 45 3 42 44,dM 45,aC 46 3 45,af 47 0,af 48 9,dM 47,de 49 3 47 48,dM 49,aC 50 3 49,dM 37,de 51 3 37 38,dM 51,fW 3 51 46,dM 39,de 52 3 39 41,dM 52,fW 3 52 50])) (.region false [af 35 9,aN 36 .sub 35 1,ai 9 36]))))))) (.region false [af 15 8,aN 16 .add 15 1,ai 8 16])))))⟩
theorem Xa:bs Tryz.f88 JJ=some JJ:=by kernel_rfl
noncomputable def acw:ay:=cI [8,10,11,12] [999999] [] Tryz.f89
theorem Xb:bs Tryz.f89 acw=some acw:=by kernel_rfl
noncomputable def acy:ay:=cI [8,10,11,12,700009] [999999] [] Tryz.f90
theorem Xc:bs Tryz.f90 acy=some acy:=by kernel_rfl
noncomputable def acz:ay:=cI [8,10,12,13,14,57,60,700011] [999999] [] Tryz.f91
theorem Xe:bs Tryz.f91 acz=some acz:=by kernel_rfl
noncomputable def acA:ay:=cI [8,9] [999999] [] Tryz.f92
theorem Xf:bs Tryz.f92 acA=some acA:=by kernel_rfl
noncomputable def acB:ay:=cI [9,10,11,12,22] [999999] [] Tryz.f93
theorem Xg:bs Tryz.f93 acB=some acB:=by kernel_rfl
noncomputable def acC:ay:=cI [10,11,12,34,53] [999999] [] Tryz.f94
theorem Xh:bs Tryz.f94 acC=some acC:=by kernel_rfl
noncomputable def acD:ay:=cI [10,12,13,35,53,108,126] [999999] [] Tryz.f95
theorem Xi:bs Tryz.f95 acD=some acD:=by kernel_rfl
noncomputable def acE:ay:=cI [0,2] [999999] [] Tryz.f96
theorem Xj:bs Tryz.f96 acE=some acE:=by kernel_rfl
def SN:ay:=⟨[0,2],[999999],[],25,1,[.tmp 2],cR [aR 2 (aI 0)] (.seq (cR [af 3 0,sR 4 .geq (aT 3) (.cr (.int IntKind.u64 4294967296))] (db 4 (cR [af 5 0,sR 6 .shr (aT 5) (.cr (.int IntKind.u64 32)),ai 0 6] (.region false [aR 2 (aI 32)])) .skip)) (.seq (cR [af 7 0,sR 8 .geq (aT 7) (.cr (.int IntKind.u64 65536))] (db 8 (cR [af 9 0,sR 10 .shr (aT 9) (.cr (.int IntKind.u64 16)),ai 0 10] (.region false [af 11 2,aN 12 .add 11 16,ai 2 12])) .skip)) (.seq (cR [af 13 0,sR 14 .geq (aT 13) (.cr (.int IntKind.u64 256))] (db 14 (cR [af 15 0,sR 16 .shr (aT 15) (.cr (.int IntKind.u64 8)),ai 0 16] (.region false [af 17 2,aN 18 .add 17 8,ai 2 18])) .skip)) (cR [af 19 2,af 20 0,oO 21 (.conv (.toInt IntKind.u8) (aT 20)),oO 22 (.indexStr (aS [0,1,2,2,3,3,3,3,4,4,4,4,4,4,4,4,5,5,5,5,5,5,5,5,5,5,5,5,5,5,5,5,6,6,6,6,6,6,6,6,6,6,6,6,6,6,6,6,6,6,6,6,6,6,6,6,6,6,6,6,6,6,6,6,7,7,7,7,7,7,7,7,7,7,7,7,7,7,7,7,7,7,7,7,7,7,7,7,7,7,7,7,7,7,7,7,7,7,7,7,7,7,7,7,7,7,7,7,7,7,7,7,7,7,7,7,7,7,7,7,7,7,7,7,7,7,7,7,8,8,8,8,8,8,8,8,8,8,8,8,8,8,8,8,8,8,8,8,8,8,8,8,8,8,8,8,8,8,8,8,8,8,8,8,8,8,8,8,8,8,8,8,8,8,8,8,8,8,8,8,8,8,8,8,8,8,8,8,8,8,8,8,8,8,8,8,8,8,8,8,8,8,8,8,8,8,8,8,8,8,8,8,8,8,8,8,8,8,8,8,8,8,8,8,8,8,8,8,8,8,8,8,8,8,8,8,8,8,8,8,8,8,8,8,8,8,8,8,8,8,8,8,8,8,8,8]) (aT 21)),oO 23 (.conv (.toInt .i64) (aT 22)),bG 24 .add 19 23,ai 2 24] .ret))))⟩
theorem Xk:bs Tryz.f97 SN=some SN:=by kernel_rfl
def SO:ay:=⟨[2],[999999],[],6,1,[.tmp 2],cR [aR 2 qZ] (cR [af 3 0,af 4 0,bG 5 .neq 3 4,ai 2 5] .ret)⟩
theorem Xl:bs Tryz.f98 SO=some SO:=by kernel_rfl
noncomputable def acF:ay:=cI [4,6,10,14,19] [999999] [] Tryz.f99
theorem Xm:bs Tryz.f99 acF=some acF:=by kernel_rfl
noncomputable def QC:ay:=cI [2,5,10,17] [999999] [] Tryz.f100
theorem QD:bs Tryz.f100 QC=some QC:=by kernel_rfl
noncomputable def QE:ay:=cI [] [999999] [] Tryz.f101
theorem QF:bs Tryz.f101 QE=some QE:=by kernel_rfl
noncomputable def QG:ay:=cI [4,5,6,7] [999999] [] Tryz.f102
theorem QH:bs Tryz.f102 QG=some QG:=by kernel_rfl
noncomputable def QI:ay:=cI [2] [999999] [] Tryz.f103
theorem QJ:bs Tryz.f103 QI=some QI:=by kernel_rfl
noncomputable def QK:ay:=cI [3] [999999] [] Tryz.f104
theorem QL:bs Tryz.f104 QK=some QK:=by kernel_rfl
noncomputable def QM:ay:=cI [4] [999999] [] Tryz.f105
theorem QN:bs Tryz.f105 QM=some QM:=by kernel_rfl
noncomputable def QO:ay:=cI [] [999999] [] Tryz.f106
theorem QP:bs Tryz.f106 QO=some QO:=by kernel_rfl
noncomputable def QQ:ay:=cI [4] [999999] [] Tryz.f107
theorem QR:bs Tryz.f107 QQ=some QQ:=by kernel_rfl
noncomputable def QS:ay:=cI [2] [999999] [] Tryz.f108
theorem QT:bs Tryz.f108 QS=some QS:=by kernel_rfl
noncomputable def QU:ay:=cI [6,10,700007] [7,999999] [] Tryz.f109
theorem QV:bs Tryz.f109 QU=some QU:=by kernel_rfl
noncomputable def QW:ay:=cI [4,5,6,7] [999999] [] Tryz.f110
theorem QX:bs Tryz.f110 QW=some QW:=by kernel_rfl
noncomputable def QY:ay:=cI [8,15] [999999] [] Tryz.f111
theorem QZ:bs Tryz.f111 QY=some QY:=by kernel_rfl
noncomputable def Q0:ay:=cI [6,10,700007] [7,999999] [] Tryz.f112
theorem Q1:bs Tryz.f112 Q0=some Q0:=by kernel_rfl
noncomputable def Q2:ay:=cI [4] [999999,999996] [] Tryz.f113
theorem Q3:bs Tryz.f113 Q2=some Q2:=by kernel_rfl
noncomputable def Q4:ay:=cI [2,3,4,13,18] [999999] [] Tryz.f114
theorem Q5:bs Tryz.f114 Q4=some Q4:=by kernel_rfl
noncomputable def Q6:ay:=cI [2,5,7,9,22,37,700004] [4,999999] [] Tryz.f115
theorem Q7:bs Tryz.f115 Q6=some Q6:=by kernel_rfl
noncomputable def Q8:ay:=cI [4,12] [999999] [] Tryz.f116
theorem Q9:bs Tryz.f116 Q8=some Q8:=by kernel_rfl
noncomputable def Ra:ay:=cI [2,3,4,5,6,7,8] [999999] [] Tryz.f119
theorem Rb:bs Tryz.f119 Ra=some Ra:=by kernel_rfl
noncomputable def Rc:ay:=cI [10,11,23] [999999] [] Tryz.f120
theorem Rd:bs Tryz.f120 Rc=some Rc:=by kernel_rfl
noncomputable def Re:ay:=cI [2] [999999] [] Tryz.f121
theorem Rf:bs Tryz.f121 Re=some Re:=by kernel_rfl
noncomputable def Rg:ay:=cI [2] [999999] [] Tryz.f122
theorem Rh:bs Tryz.f122 Rg=some Rg:=by kernel_rfl
noncomputable def Ri:ay:=cI [8] [999999] [] Tryz.f123
theorem Rj:bs Tryz.f123 Ri=some Ri:=by kernel_rfl
noncomputable def Rk:ay:=cI [1,2,3,12,13,22,31] [999999] [] Tryz.f124
theorem Rl:bs Tryz.f124 Rk=some Rk:=by kernel_rfl
noncomputable def Rm:ay:=cI [2,5,9,12] [999999] [] Tryz.f125
theorem Rn:bs Tryz.f125 Rm=some Rm:=by kernel_rfl
noncomputable def Ro:ay:=cI [4] [999999] [] Tryz.f126
theorem Rp:bs Tryz.f126 Ro=some Ro:=by kernel_rfl
noncomputable def Rq:ay:=cI [4,6,7,8,9,14,44,700005] [999999] [] Tryz.f127
theorem Rr:bs Tryz.f127 Rq=some Rq:=by kernel_rfl
noncomputable def Rs:ay:=cI [4] [999999] [] Tryz.f128
theorem Rt:bs Tryz.f128 Rs=some Rs:=by kernel_rfl
noncomputable def Ru:ay:=cI [4] [999999] [] Tryz.f129
theorem Rv:bs Tryz.f129 Ru=some Ru:=by kernel_rfl
noncomputable def Rx:ay:=cI [] [999999] [] Tryz.f130
theorem Ry:bs Tryz.f130 Rx=some Rx:=by kernel_rfl
def yQ:ay:=⟨[2,3,4,700005],[5,999999],[7],24,1,[.tmp 2,.tmp 3],cR [aR 2 (aS []),aR 3 (aI 0)] (.seq (cR [oO 6 (.load false false 1 (.aO 5)),oO 7 (.rng 1 false true (aT 6))] (.block 0 (.loop (cR [oO 8 (.next (aT 7)),iB 9 8 0] (.seq (db 9 .skip (.exit 0)) (.block 1 (cR [oO 10 (.UW (aT 7)),iB 11 10 0,iB 12 10 1,oO 5 (.allocL [.int .i64 0,.int .i64 0]),ai 4 11,fW 2 5 12] (cR [cn 13 0 5,aQ 14 1 13,af 15 0,bG 16 .eql 14 15] (db 16 (cR [af 17 4,ky 5 5,cn 18 1 5,ky 5 18,aQ 19 1 18,ai 2 17,ai 3 19] .ret) .skip))))))))) (cR [oO 20 (.uX 1 false false),oN (.xe 1 false false 1 [.i] (aT 20) (aI 9) (aS [110,111,116])),oN (.xe 1 false false 1 [.i] (aT 20) (aI 11) (aS [108,101,110])),af 21 20,af 22 0,oO 23 (.look false 1 false false [.i] [.str []] (aT 21) (aT 22)),ai 2 23,aR 3 (aI 7)] .ret))⟩
theorem GJ:bs Tryz.f131 yQ=some yQ:=by kernel_rfl
noncomputable def Rz:ay:=cI [] [999999] [] Tryz.f132
theorem RA:bs Tryz.f132 Rz=some Rz:=by kernel_rfl
noncomputable def RB:ay:=cI [] [999999,999996] [] Tryz.f133
theorem RC:bs Tryz.f133 RB=some RB:=by kernel_rfl
noncomputable def RD:ay:=cI [] [999999,999996] [] Tryz.f134
theorem RE:bs Tryz.f134 RD=some RD:=by kernel_rfl
noncomputable def RF:ay:=cI [4] [999999] [] Tryz.f135
theorem RG:bs Tryz.f135 RF=some RF:=by kernel_rfl
noncomputable def RH:ay:=cI [10,11] [999999] [] Tryz.f137
theorem RI:bs Tryz.f137 RH=some RH:=by kernel_rfl
noncomputable def RJ:ay:=cI [4,5,8] [999999] [] Tryz.f138
theorem RL:bs Tryz.f138 RJ=some RJ:=by kernel_rfl
noncomputable def RM:ay:=cI [2] [999999] [] Tryz.f139
theorem RN:bs Tryz.f139 RM=some RM:=by kernel_rfl
noncomputable def RP:ay:=cI [2,3] [999999] [] Tryz.f140
theorem RQ:bs Tryz.f140 RP=some RP:=by kernel_rfl
noncomputable def RR:ay:=cI [1,4,5,6,7,8,9,10,11,12,13,14,15,16] [999999] [] Tryz.f141
theorem RS:bs Tryz.f141 RR=some RR:=by kernel_rfl
noncomputable def RT:ay:=cI [4,10] [999999] [] Tryz.f143
theorem RU:bs Tryz.f143 RT=some RT:=by kernel_rfl
noncomputable def RV:ay:=cI [2,3,4,7,11,13] [999999] [] Tryz.f144
theorem RW:bs Tryz.f144 RV=some RV:=by kernel_rfl
noncomputable def RX:ay:=cI [2] [999999] [] Tryz.f146
theorem RY:bs Tryz.f146 RX=some RX:=by kernel_rfl
noncomputable def RZ:ay:=cI [] [999999] [] Tryz.f147
theorem R0:bs Tryz.f147 RZ=some RZ:=by kernel_rfl
noncomputable def R1:ay:=cI [2] [999999] [] Tryz.f148
theorem R2:bs Tryz.f148 R1=some R1:=by kernel_rfl
noncomputable def R3:ay:=cI [2] [999999] [] Tryz.f149
theorem R4:bs Tryz.f149 R3=some R3:=by kernel_rfl
noncomputable def R6:ay:=cI [2] [999999] [] Tryz.f150
theorem R7:bs Tryz.f150 R6=some R6:=by kernel_rfl
noncomputable def R8:ay:=cI [2] [999999] [] Tryz.f151
theorem R9:bs Tryz.f151 R8=some R8:=by kernel_rfl
noncomputable def R':ay:=cI [2,5] [999999] [] Tryz.f169
theorem Sa:bs Tryz.f169 R'=some R':=by kernel_rfl
noncomputable def Sc:ay:=cI [2,5] [999999] [] Tryz.f170
theorem Sd:bs Tryz.f170 Sc=some Sc:=by kernel_rfl
noncomputable def Se:ay:=cI [0,1,2,3,4,5,6,7,10,12,14,16,18,20,22,24,26,28] [999999] [] Tryz.f183
theorem Sf:bs Tryz.f183 Se=some Se:=by kernel_rfl
def mK(c:Int):Nat->List UInt8->Int
 | _,[]=>-1
 | k,b :: r=>cond (decide ((b.toNat:Int)=c)) k (mK c (k+1) r)
def ib(args:List AV)(_:ag):Option (AV × Option gk) :=
 match args with
 | [.str l,.int .u8 c]=>cond (decide (0<=c)&&decide (c<256)) (some (.int .i64 (mK c 0 l),none)) none
 | _=>none
def aeg:List (List UInt8):=[[43],[45],[42],[47],[37],[60],[61,61],[97,110,100],[111,114],[110,111,116],[106,111,105,110],[108,101,110]]
def Xt:List Int:=[5,5,6,6,6,3,3,2,1,7,4,7]
def ah3(n:Int):List UInt8 × Int:=if n<0\/11<n then ([],0) else (aeg.getD n.toNat [],Xt.getD n.toNat 0)
def rX(n:Int):List UInt8 × Int:=if n<0\/11<n then ([],7) else ah3 n
def sD(args:List AV)(_:ag):Option (AV × Option gk) :=
 match args with
 | [.int .i64 n]=>some (.tuple [.str (rX n).1,.int .i64 (rX n).2],none)
 | _=>none
def ov0:FuncId->Option (List AV->ag->Option (AV × Option gk))
 | 83=>some ib
 | 84=>some ib
 | _=>none
def ov1:FuncId->Option (List AV->ag->Option (AV × Option gk))
 | 131=>some sD
 | 83=>some ib
 | 84=>some ib
 | _=>none
noncomputable def PQ:FuncId->Option ay
 | 3=>some ir3
 | 4=>some ir4
 | 5=>some Ux
 | 7=>some ir7
 | 8=>some W4
 | 9=>some SM
 | 10=>some JD
 | 11=>some JE
 | 12=>some abX
 | 13=>some Rw
 | 14=>some RO
 | 15=>some R5
 | 16=>some JF
 | 17=>some Sb
 | 18=>some tL
 | 19=>some Sg
 | 20=>some Sh
 | 21=>some Si
 | 22=>some im
 | 23=>some Sj
 | 24=>some Sk
 | 25=>some Sl
 | 26=>some Sm
 | 27=>some Sn
 | 28=>some So
 | 29=>some Sp
 | 30=>some Sq
 | 31=>some Sr
 | 32=>some Ss
 | 33=>some St
 | 34=>some Su
 | 35=>some Sv
 | 36=>some Sw
 | 37=>some abY
 | 38=>some abZ
 | 39=>some ab0
 | 40=>some ab1
 | 41=>some Sy
 | 42=>some Sz
 | 43=>some JG
 | 44=>some yR
 | 45=>some Da
 | 46=>some SA
 | 47=>some SB
 | 48=>some JH
 | 49=>some SC
 | 50=>some SE
 | 51=>some SF
 | 52=>some ab2
 | 53=>some ab3
 | 54=>some ab4
 | 55=>some ab5
 | 56=>some ab6
 | 57=>some ab7
 | 58=>some SG
 | 59=>some yS
 | 60=>some SH
 | 61=>some SI
 | 62=>some JI
 | 63=>some SJ
 | 64=>some SK
 | 65=>some SL
 | 66=>some ab9
 | 67=>some ab'
 | 68=>some aca
 | 69=>some acb
 | 70=>some ace
 | 71=>some acf
 | 72=>some acg
 | 73=>some ach
 | 74=>some aci
 | 75=>some acj
 | 76=>some ack
 | 77=>some acm
 | 78=>some acn
 | 79=>some aco
 | 80=>some acq
 | 81=>some acr
 | 82=>some acs
 | 86=>some acu
 | 87=>some acv
 | 88=>some JJ
 | 89=>some acw
 | 90=>some acy
 | 91=>some acz
 | 92=>some acA
 | 93=>some acB
 | 94=>some acC
 | 95=>some acD
 | 96=>some acE
 | 97=>some SN
 | 98=>some SO
 | 99=>some acF
 | 100=>some QC
 | 101=>some QE
 | 102=>some QG
 | 103=>some QI
 | 104=>some QK
 | 105=>some QM
 | 106=>some QO
 | 107=>some QQ
 | 108=>some QS
 | 109=>some QU
 | 110=>some QW
 | 111=>some QY
 | 112=>some Q0
 | 113=>some Q2
 | 114=>some Q4
 | 115=>some Q6
 | 116=>some Q8
 | 119=>some Ra
 | 120=>some Rc
 | 121=>some Re
 | 122=>some Rg
 | 123=>some Ri
 | 124=>some Rk
 | 125=>some Rm
 | 126=>some Ro
 | 127=>some Rq
 | 128=>some Rs
 | 129=>some Ru
 | 130=>some Rx
 | 131=>some yQ
 | 132=>some Rz
 | 133=>some RB
 | 134=>some RD
 | 135=>some RF
 | 137=>some RH
 | 138=>some RJ
 | 139=>some RM
 | 140=>some RP
 | 141=>some RR
 | 143=>some RT
 | 144=>some RV
 | 146=>some RX
 | 147=>some RZ
 | 148=>some R1
 | 149=>some R3
 | 150=>some R6
 | 151=>some R8
 | 169=>some R'
 | 170=>some Sc
 | 183=>some Se
 | _=>none
noncomputable def fns:FuncId->Option ay
 | 6=>some iL
 | f=>PQ f
def Bp:List (List UInt8):=[[109,111,100,117,108,101],[117,115,101],[114,101,99],[99,97,115,101],[102,117,110],[111,110],[116,101,115,116],[99,111,110,118],[116,114,117,101],[102,97,108,115,101],[110,111,116],[97,110,100],[111,114],[105,102],[116,104,101,110],[101,108,115,101],[108,101,116],[105,110],[109,97,116,99,104],[102,111,108,100],[111,118,101,114],[100,111],[108,101,110],[106,111,105,110],[76,105,115,116],[73,110,116],[66,111,111,108]]
def TU:List (List UInt8):=[[61,61],[45,62],[40],[41],[123],[125],[91],[93],[44],[58],[46],[61],[43],[45],[42],[47],[37],[60]]
def SX:List (List UInt8):=[[114,101,99],[99,97,115,101],[102,117,110],[111,110],[116,101,115,116],[99,111,110,118]]
def pE:List (List AV):=[[.str [37],.int .i64 4,.int .i64 6],[.str [42],.int .i64 2,.int .i64 6],[.str [43],.int .i64 0,.int .i64 5],[.str [45],.int .i64 1,.int .i64 5],[.str [47],.int .i64 3,.int .i64 6],[.str [60],.int .i64 5,.int .i64 3],[.str [61,61],.int .i64 6,.int .i64 3],[.str [97,110,100],.int .i64 7,.int .i64 2],[.str [106,111,105,110],.int .i64 10,.int .i64 4],[.str [111,114],.int .i64 8,.int .i64 1]]
def LI:Nat->List AV
 | 0=>[.slice (SX.map fun s=>[.str s]) false]
 | 2=>Bp.map .str
 | 3=>[.func (.func 125) [] [],.func (.func 169) [] [],.func (.func 170) [] [],.func (.func 170) [] []]
 | 4=>TU.map .str
 | 5=>[.mX 1 false true pE]
 | _=>[]
noncomputable def A0:AP:={ fns:=PQ,ov:=ov0,aO:=LI }
noncomputable def A1:AP:={ fns:=PQ,ov:=ov1,aO:=LI }
noncomputable def A:AP:={ fns,ov:=ov0,aO:=LI }
end Go.Proofs.YthbncinhhdogpaaGreatDoor
namespace Go.Proofs
open Go.Shelf
def YthbncinhhdogpaaGreatDoor.Db:Go.Shelf.Ren:=⟨fun|137=>83|217=>84|266=>118|n=>n,fun|9=>9|5=>5|3=>3|n=>n,fun|n=>n⟩
theorem YthbncinhhdogpaaGreatDoor.S0:Go.Proofs.Lays.n137 Tryz.prog YthbncinhhdogpaaGreatDoor.Db:={
 mixed:=by kernel_rfl
 f137:=tk Tryz.func83 (by kernel_rfl)
 f217:=tk Tryz.func84 (by kernel_rfl)
 f266:=tk Tryz.func118 (by kernel_rfl)
 t3:=Tryz.underlying3
 a3:=Tryz.isAgg3
 z3:=Tryz.sizeOf3
 v3:=Tryz.zeroValue3
 t5:=Tryz.underlying5
 a5:=Tryz.isAgg5
 z5:=Tryz.sizeOf5
 v5:=Tryz.zeroValue5
 t9:=Tryz.underlying9
 a9:=Tryz.isAgg9
 z9:=Tryz.sizeOf9
 v9:=Tryz.zeroValue9 }
def YthbncinhhdogpaaGreatDoor.Ak:Go.Shelf.Ren:=⟨fun|217=>84|266=>118|n=>n,fun|9=>9|5=>5|3=>3|n=>n,fun|n=>n⟩
theorem YthbncinhhdogpaaGreatDoor.Nt:Go.Proofs.Lays.n217 Tryz.prog YthbncinhhdogpaaGreatDoor.Ak:={
 mixed:=by kernel_rfl
 f217:=tk Tryz.func84 (by kernel_rfl)
 f266:=tk Tryz.func118 (by kernel_rfl)
 t3:=Tryz.underlying3
 a3:=Tryz.isAgg3
 z3:=Tryz.sizeOf3
 v3:=Tryz.zeroValue3
 t5:=Tryz.underlying5
 a5:=Tryz.isAgg5
 z5:=Tryz.sizeOf5
 v5:=Tryz.zeroValue5
 t9:=Tryz.underlying9
 a9:=Tryz.isAgg9
 z9:=Tryz.sizeOf9
 v9:=Tryz.zeroValue9 }
end Go.Proofs
namespace Go.Proofs.YthbncinhhdogpaaGreatDoor
open Go Go.Abs Go.Proofs Go.Shelf RowKit
section
theorem QA(s:ByteArray)(c:Int)(w:World):Calls Tryz.prog 83 #[.string s,.int .u8 c] w fun e w'=>e=.returned (.int .i64 (Lib.indexByte s.data.toList c.toNat.toUInt8))/\w'=w:=Any.strings_IndexByte S0 s c w
theorem Nj(s:ByteArray)(c:Int)(w:World):Calls Tryz.prog 84 #[.string s,.int .u8 c] w fun e w'=>e=.returned (.int .i64 (Lib.indexByte s.data.toList c.toNat.toUInt8))/\w'=w:=Any.stringslite_IndexByte Nt s c w
section
variable {G:Nat->List AV}{base:Nat}{gh:Gh}{w w' : World}{H:ag}
theorem zG(hW:aM G base H gh w)(hb:Below w.heap.size w w')(n:Nat):Step (fun _=>False) n gh w gh w':=by
 refine⟨fun _ _ h=>h,fun b o h=>cell_of_heap (hb.block b (hW.nB b o h)),hb.size,hb.os,hb.tape,hb.output,fun b aU _=>⟨.inl (hb.block b aU),rfl,fun _ h=>h⟩,fun b gb=>hW.bL b gb,fun _ _=>rfl,fun b ty m hm=>?_,fun b E ck hs h0=>(hb.block b (hW.nB b 0 hs)).trans h0⟩
 obtain⟨C,fr,h1,h2⟩:=hm
 exact⟨C,fr,by rw[hb.block b (apD.1 h1).1];exact h1,h2⟩
theorem BI(hW:aM G base H gh w)(hb:Below w.heap.size w w'){v:Value}{r:AV}(hv:VR gh H.length w' v r):lW G base H gh w r none v gh w' :=
 ⟨apz _,hW.step (zG hW hb H.length) (fun l=>⟨id,fun _=>id⟩) (fun b o h=>aq1 (hW.nB b o h) hb.size) (fun b h=>⟨(hW.oT b h).1,aq1 (hW.oT b h).2 hb.size⟩) (fun _ _ _ h=>.inl h),
  (zG hW hb H.length).mono (fun _ h=>h.elim),fun _ h=>h,.inl hv⟩
theorem Fv:jW H none:=⟨apz _,fun c h=>by cases h⟩
theorem Zm{vs:Array Value}{x y:AV}(hs:vs.size=[x,y].length)(h:∀ (j:Nat) (v:Value) (z:AV),vs[j]?=some v->[x,y][j]?=some z->VR gh H.length w v z):∃ u v,vs=#[u,v]/\VR gh H.length w u x/\VR gh H.length w v y:=by
 obtain⟨l⟩:=vs
 match l,hs with
 | [u,v],_=>exact⟨u,v,rfl,h 0 u x rfl rfl,h 1 v y rfl rfl⟩
end
theorem vK(c:Int)(h0:0<=c)(h1:c<256):∀ (l:List UInt8) (k:Nat),mK c k l=if Lib.indexByte l c.toNat.toUInt8=-1 then -1 else Lib.indexByte l c.toNat.toUInt8+k
 | [],k=>by simp[mK,Lib.indexByte]
 | b :: r,k=>by
  have hc:(c.toNat.toUInt8).toNat=c.toNat:=by simp;omega
  have hb:(b==c.toNat.toUInt8)=decide ((b.toNat:Int)=c):=by
   by_cases h:(b.toNat:Int)=c
   ·have:b=c.toNat.toUInt8:=UInt8.toNat_inj.1 (by rw[hc];omega)
    rw[decide_eq_true h];simpa using this
   ·have:b≠c.toNat.toUInt8:=fun e=>h (by rw[e,hc];omega)
    rw[aqy h];simpa using this
  have ZE:∀ l:List UInt8, -1<=Lib.indexByte l c.toNat.toUInt8:=by
   intro l
   induction l with
   | nil=>simp[Lib.indexByte]
   | cons x l ih =>
    simp only[Lib.indexByte]
    split
    ·omega
    ·split
     ·omega
     ·rename_i h;simp at h;omega
  unfold mK Lib.indexByte
  rw[hb]
  by_cases h:(b.toNat:Int)=c
  ·simp[h]
  ·have:=ZE r
   simp only[h,decide_false,apE,aqG,aqf]
   rw[vK c h0 h1 r (k+1)]
   by_cases hr:Lib.indexByte r c.toNat.toUInt8=-1
   ·simp[hr]
   ·simp only[aqI,hr,aqG]
    rw[if_neg (by omega)]
    push_cast
    omega
theorem afR(f:FuncId)(fn:Func)(h:Tryz.prog.funcs[f]?=some fn)(hb:fn.body.isSome=true)(hn:fn.name≠ "runtime.NumGoroutine"):∃ fn,Tryz.prog.funcs[f]?=some fn/\fn.body.isSome=true/\fn.name≠ "runtime.NumGoroutine":=⟨fn,h,hb,hn⟩
theorem wK{G:Nat->List AV} : jk Tryz.prog G 83 ib:=by
 intro args H r c he
 refine⟨afR 83 _ Tryz.func83 (by kernel_rfl) (by decide),?_⟩
 unfold ib at he
 split at he
 ·rename_i l c'
  obtain⟨h0,he⟩:=ab he
  simp only[Bool.and_eq_true,apS] at h0
  simp only[apv,apx] at he
  obtain⟨rfl,rfl⟩:=he
  refine⟨Fv,fun base gh w vs hW _ hs cy=>?_⟩
  obtain⟨u,v,rfl,hu,hv⟩:=Zm hs cy
  obtain⟨s,rfl,hl⟩:=hu.jS
  rw[hv.jR]
  refine (QA s c' w).mono ?_
  rintro e w' ⟨rfl,rfl⟩
  refine⟨_,gh,rfl,BI hW (Below.refl _ _) ?_⟩
  rw[vK c' h0.1 h0.2 l 0,hl]
  have:(if Lib.indexByte l c'.toNat.toUInt8=-1 then (-1:Int) else Lib.indexByte l c'.toNat.toUInt8+(0:Nat))=Lib.indexByte l c'.toNat.toUInt8:=by split<;>simp_all
  rw[this]
  exact .plain _ _ (.int _ _)
 ·cases he
theorem uN{G:Nat->List AV} : jk Tryz.prog G 84 ib:=by
 intro args H r c he
 refine⟨afR 84 _ Tryz.func84 (by kernel_rfl) (by decide),?_⟩
 unfold ib at he
 split at he
 ·rename_i l c'
  obtain⟨h0,he⟩:=ab he
  simp only[Bool.and_eq_true,apS] at h0
  simp only[apv,apx] at he
  obtain⟨rfl,rfl⟩:=he
  refine⟨Fv,fun base gh w vs hW _ hs cy=>?_⟩
  obtain⟨u,v,rfl,hu,hv⟩:=Zm hs cy
  obtain⟨s,rfl,hl⟩:=hu.jS
  rw[hv.jR]
  refine (Nj s c' w).mono ?_
  rintro e w' ⟨rfl,rfl⟩
  refine⟨_,gh,rfl,BI hW (Below.refl _ _) ?_⟩
  rw[vK c' h0.1 h0.2 l 0,hl]
  have:(if Lib.indexByte l c'.toNat.toUInt8=-1 then (-1:Int) else Lib.indexByte l c'.toNat.toUInt8+(0:Nat))=Lib.indexByte l c'.toNat.toUInt8:=by split<;>simp_all
  rw[this]
  exact .plain _ _ (.int _ _)
 ·cases he
end
end Go.Proofs.YthbncinhhdogpaaGreatDoor
