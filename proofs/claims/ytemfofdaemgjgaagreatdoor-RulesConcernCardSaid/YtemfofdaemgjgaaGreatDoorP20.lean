/-
  A part of the proof of RulesConcern: D3, D4, D5, D6.
-/
import Derived.Test.YtemfofdaemgjgaaGreatDoorP19
set_option linter.unusedSimpArgs false
set_option linter.unusedVariables false
section
set_option linter.unusedSimpArgs false
set_option linter.unusedVariables false
set_option maxRecDepth 100000
namespace Go.Proofs.YtemfofdaemgjgaaGreatDoor
open Go Go.Abs Go.Proofs
def TyOK (ds:List Def):Nat→Ty→Prop
 | 0,_=>False
 | r+1,t=>TyLen t∧(t.kind=0∨t.kind=1∨(t.kind=2∧∃ k,t.kids=[k]∧TyOK ds r k) ∨
   (t.kind≠0∧t.kind≠1∧t.kind≠2∧∀ d,findD ds t.d=some d→(d.kind=1→d.slots≠[])∧d.slots.length≤3∧∀ s∈d.slots,TyOK ds r s.ty))
theorem TyOK.len {ds:List Def} {r:Nat} {t:Ty} (h:TyOK ds r t):TyLen t:=by
 cases r with
 | zero=>exact h.elim
 | succ r=>exact h.1
theorem TyOK.mono {ds:List Def} : ∀ {r r' : Nat} {t:Ty},r≤r'→TyOK ds r t→TyOK ds r' t
 | 0,_,_,_,h=>h.elim
 | r+1,0,_,hr,_=>by omega
 | r+1,r' + 1,t,hr,h=>by
  refine⟨h.1,?_⟩
  rcases h.2 with h|h|⟨h,k,h1,h2⟩|⟨h1,h2,h3,h4⟩
  ·exact .inl h
  ·exact .inr (.inl h)
  ·exact .inr (.inr (.inl ⟨h,k,h1,TyOK.mono (by omega) h2⟩))
  ·exact .inr (.inr (.inr ⟨h1,h2,h3,fun d hd=>⟨(h4 d hd).1,(h4 d hd).2.1,fun s hs=>TyOK.mono (by omega) ((h4 d hd).2.2 s hs)⟩⟩))
theorem len_plain {k:Int} {d:Id} : TyLen (.mk k d []):=.mk k d [] (by simp) (by simp)
theorem ok_int {ds:List Def} {r:Nat} (h:0<r):TyOK ds r tInt:=by
 cases r with
 | zero=>omega
 | succ r=>exact⟨len_plain,.inl rfl⟩
theorem ok_bool {ds:List Def} {r:Nat} (h:0<r):TyOK ds r tBool:=by
 cases r with
 | zero=>omega
 | succ r=>exact⟨len_plain,.inr (.inl rfl)⟩
theorem ok_list {ds:List Def} {r:Nat} {t:Ty} (h:TyOK ds r t):TyOK ds (r+1) (tList t) :=
 ⟨.mk _ _ _ (by simp) (fun e he=>by rw[List.mem_singleton.1 he];exact h.len),.inr (.inr (.inl ⟨rfl,t,rfl,h⟩))⟩
inductive GoodE (T:Int):Nat→Ex→Prop where
 | mk (h:Nat) (i:Id) (k n:Int) (r:Id) (tk:Int) (td:Id) (tks:Option (List Ty)) (ks:List Ex) (ns:Option (List Str)) (h1:0≤i.index∧i.index<T) (h2:k=2→r.seq=0→0≤r.index∧r.index<T) (h3:ks.length≤4)
   (h4:∀ e∈ks,GoodE T h e):GoodE T (h+1) (.mk i k n r tk td tks ks ns)
theorem GoodE.mono {T T' : Int} {h:Nat} {e:Ex} (hg:GoodE T h e) (hT:T≤T'):GoodE T' h e:=by
 induction hg with
 | mk h i k n r tk td tks ks ns h1 h2 h3 h4 ih=>exact .mk h i k n r tk td tks ks ns (by omega) (fun a b=>by have:=h2 a b;omega) h3 ih
def bud:Nat→Int
 | 0=>1
 | n+1=>5*bud n
theorem bud_pos:∀ n,1≤bud n
 | 0=>by simp[bud]
 | n+1=>by have:=bud_pos n;simp only[bud];omega
structure Post (b:Int) (m m' : Mk):Prop where
 lt:m.temp<m'.temp
 le:m'.temp≤m.temp+b
 own:m'.own=m.own
 home:m'.home=m.home
 nm0:0≤m'.name
 nm:m'.name≤m.name+4*(m'.temp-m.temp)
structure EnvOK (c:Cx) (T:Int) (env:List Bd):Prop where
 ty:∀ b∈env,TyOK c.ds 5 b.ty
 id:∀ b∈env,b.id.seq=0→0≤b.id.index∧b.id.index<T
 ne:env≠[]
theorem EnvOK.mono {c:Cx} {T T' : Int} {env:List Bd} (h:EnvOK c T env) (hT:T≤T'):EnvOK c T' env :=
 ⟨h.ty,fun b hb hs=>by have:=h.id b hb hs;omega,h.ne⟩
theorem EnvOK.snoc {c:Cx} {T:Int} {env:List Bd} {b:Bd} (h:EnvOK c T env) (h1:TyOK c.ds 5 b.ty) (h2:b.id.seq=0→0≤b.id.index∧b.id.index<T):EnvOK c T (env++[b]) :=
 ⟨fun x hx=>by rcases List.mem_append.1 hx with hx|hx;exact h.ty x hx;rw[List.mem_singleton.1 hx];exact h1,fun x hx=>by rcases List.mem_append.1 hx with hx|hx;exact h.id x hx;rw[List.mem_singleton.1 hx];exact h2,by simp⟩
structure CxOK (c:Cx):Prop where
 ms:MsOK c.ms
 len:c.ds.length≤1000
 ne:c.ds≠[]
 slots:∀ d∈c.ds,d.slots.length≤3
 ty:∀ d∈c.ds,∀ s∈d.slots,TyOK c.ds 5 s.ty
 res:∀ d∈c.ds,TyOK c.ds 5 d.result
 tof:∀ d∈c.ds,d.kind=0∨d.kind=1→TyOK c.ds 5 (tOf d.id)
structure Pre (c:Cx) (b:Int) (mu:Nat) (m:Mk) (env:List Bd) (d:Int):Prop where
 t0:0≤m.temp
 t1:m.temp+b≤1000000000000
 n0:0≤m.name
 n1:m.name+4*b≤10000000000000
 ev:EnvOK c m.temp env
 el:env.length+2*mu≤1000
 d1:0<d→d+5≤mu
 d2:d≤4
 d3:-1000≤d-2*mu
abbrev exprArgs (c:Cx) (t:Ty) (env:List Bd) (d:Int):List AV :=
 [.ref c.mm 0,.agg [.int .i64 t.kind,.int .i64 t.d.shop,.int .i64 t.d.seq,.int .i64 t.d.index,.slice (encTys t.kids) false],.slice (encBds env) false,.int .i64 d]
def SpecE (c:Cx) (mu:Nat):Prop:=∀ (t:Ty) (env:List Bd) (d:Int) (m:Mk) (H:AHeap),MH c m H→TyOK c.ds mu t→TyOK c.ds 5 t→Pre c (bud mu) mu m env d →
 ∃ e m',callD A 19 (exprArgs c t env d) H=some (.agg (encEx e),some ⟨setM c m' H,c.mm⟩)∧Post (bud mu) m m'∧GoodE m'.temp mu e
abbrev genArgs (c:Cx) (t:Ty) (env:List Bd) (x d:Int):List AV :=
 [.ref c.mm 0,.agg [.int .i64 t.kind,.int .i64 t.d.shop,.int .i64 t.d.seq,.int .i64 t.d.index,.slice (encTys t.kids) false],.slice (encBds env) false,.int .i64 x,.int .i64 d]
def SpecF (c:Cx) (f:FuncId) (mu:Nat):Prop:=∀ (t:Ty) (env:List Bd) (x d:Int) (m:Mk) (H:AHeap),MH c m H→TyOK c.ds (mu+1) t→TyOK c.ds 5 t→Pre c (bud (mu+1)) (mu+1) m env d→0≤x→x<65536 →
 ∃ e m',callD A f (genArgs c t env x d) H=some (.agg (encEx e),some ⟨setM c m' H,c.mm⟩)∧Post (bud (mu+1)) m m'∧GoodE m'.temp (mu+1) e
theorem Pre.sub {c:Cx} {b:Int} {mu:Nat} {m m1:Mk} {env env1:List Bd} {d d' : Int} (h:Pre c (5*b) (mu+1) m env d) (ht:m.temp≤m1.temp) (ht2:m1.temp+b≤m.temp+5*b) (hn:0≤m1.name) (hn2:m1.name≤m.name+4*(m1.temp-m.temp))
  (hE:EnvOK c m1.temp env1) (hl:env1.length≤env.length+2) (hd:d'=d-1∨d'=d-2):Pre c b mu m1 env1 d':=by
 obtain⟨t0,t1,n0,n1,ev,el,d1,d2,d3⟩:=h
 exact⟨by omega,by omega,hn,by omega,hE,by omega,fun h=>by have:=d1 (by omega);omega,by omega,by omega⟩
theorem good_leaf {T:Int} {h0:Nat} {k n:Int} {r:Id} {tk:Int} {td:Id} {tks:Option (List Ty)} {ns:Option (List Str)} {i:Int} (h:0≤i∧i<T) (h2:k=2→r.seq=0→0≤r.index∧r.index<T):GoodE T (h0+1) (.mk ⟨0,0,i⟩ k n r tk td tks [] ns) :=
 .mk _ _ _ _ _ _ _ _ _ _ h h2 (by simp) (by simp)
theorem good_node {T:Int} {h0:Nat} {k n:Int} {r:Id} {tk:Int} {td:Id} {tks:Option (List Ty)} {ns:Option (List Str)} {i:Int} {ks:List Ex} (h:0≤i∧i<T) (hk:k≠2) (hl:ks.length≤4) (h4:∀ e∈ks,GoodE T h0 e):GoodE T (h0+1) (.mk ⟨0,0,i⟩ k n r tk td tks ks ns) :=
 .mk _ _ _ _ _ _ _ _ _ _ h (fun e=>absurd e hk) hl h4
theorem ex_len {e:Ex} : (encEx e).length=15:=by rw[encEx_eq];rfl
theorem ex_drop {e:Ex} : (encEx e).map AV.drop=encEx e:=by rw[encEx_eq];simp only[List.map_cons,List.map_nil,drop_int,drop_str,drop_slice,drop_encNil]
theorem ex_plain {e:Ex} : (encEx e).all AV.plain=true:=by
 rw[encEx_eq];simp only[List.all_cons,List.all_nil,plain_int,plain_slice,plain_encNil,Bool.not_false,Bool.and_self]
theorem ex_frame {e:Ex} : (encEx e).all frameCell=true:=by
 rw[encEx_eq];simp only[List.all_cons,List.all_nil,fc_int,fc_slice,fc_encNil,Bool.and_self]
theorem ex_nb {e:Ex} : nbR (encEx e)=true:=by
 rw[encEx_eq];simp only[r_nbrc,r_nbr0,r_nbi,nbA_encNil,r_nbl,Bool.and_self]
theorem ex_take {e:Ex} : (encEx e).take 15=encEx e:=List.take_of_length_le (Nat.le_of_eq ex_len)
theorem ex_out {e:Ex} {base:Nat} : (encEx e).all (AV.cellOut base)=true:=by
 rw[encEx_eq];simp only[List.all_cons,List.all_nil,cellOut_int,cellOut_slice,cellOut_encNil,plain_int,plain_slice,Bool.not_false,Bool.and_self]
set_option linter.defProp false in
def evX:=And.intro evS (And.intro (And.intro (And.intro (@ex_len)
 (@ex_drop))
 (And.intro (@ex_frame)
 (And.intro (@ex_take)
 (@ex_out))))
 (And.intro (And.intro (@ex_plain)
 (@ex_nb))
 (And.intro (@setM_len)
 (And.intro (@setM_take)
 (@setM_setM)))))
set_option linter.defProp false in
def evL:=And.intro evX (And.intro (And.intro (And.intro (@loadAV.eq_1)
 (@loadAV.eq_2))
 (And.intro (@loadAV.eq_3)
 (@loadAV.eq_4)))
 (And.intro (And.intro (@loadAV.eq_5)
 (@takenAt.eq_1))
 (And.intro (@List.modify_succ_cons.{0})
 (And.intro (@List.modify_zero_cons.{0})
 (@loadCellsAV.eq_1)))))
set_option linter.defProp false in
def evY:=And.intro evX (And.intro (And.intro (And.intro (And.intro (@plainRows.eq_1)
 (@aoK.eq_1))
 (And.intro (@evAppendO.eq_1)
 (And.intro (@fitsRows.eq_1)
 (@headOk.eq_1))))
 (And.intro (And.intro (@List.isEmpty_cons.{0})
 (@List.head?_cons.{0}))
 (And.intro (@List.head?_nil.{0})
 (And.intro (@Option.getD_none.{0})
 (@List.flatten_cons.{0})))))
 (And.intro (And.intro (And.intro (@List.flatten_nil.{0})
 (@Option.getD_some.{0}))
 (And.intro (@loadAV.eq_1)
 (And.intro (@loadAV.eq_2)
 (@loadAV.eq_3))))
 (And.intro (And.intro (@loadAV.eq_4)
 (And.intro (@loadAV.eq_5)
 (@takenAt.eq_1)))
 (And.intro (@List.modify_succ_cons.{0})
 (And.intro (@List.modify_zero_cons.{0})
 (@loadCellsAV.eq_1))))))
theorem ex_rows {l:List Ex} : RowsB 15 (encExs l):=by
 rw[encExs_map]
 exact⟨fun r hr=>by simp only[List.mem_map] at hr;obtain⟨n,_,rfl⟩:=hr;exact ex_len,nb_all fun r hr=>by simp only[List.mem_map] at hr;obtain⟨n,_,rfl⟩:=hr;exact ex_nb⟩
theorem app_exs {l m:List Ex} {o:Bool} (h:l.length+m.length≤100000000):appendAV false 15 168 (.slice (encExs l) true) (.slice (encExs m) o)=some (.slice (encExs (l++m)) true):=by
 rw[app_ok ex_rows ex_rows (by rw[exs_len,exs_len];omega) (by rw[exs_len,exs_len];omega)];simp[encExs_map]
theorem app_ex {l:List Ex} {e:Ex} {o:Bool} (h:l.length≤10000000):appendAV false 15 168 (.slice (encExs l) true) (.slice [encEx e] o)=some (.slice (encExs (l++[e])) true):=by
 have:=app_exs (l:=l) (m:=[e]) (o:=o) (by simp;omega)
 rwa [show encExs [e]=[encEx e] by simp[encExs]] at this
theorem exs1 {a:Ex} : encExs [a]=[encEx a]:=by simp[encExs]
theorem exs2 {a b:Ex} : encExs [a,b]=[encEx a,encEx b]:=by simp[encExs]
theorem exs3 {a b c:Ex} : encExs [a,b,c]=[encEx a,encEx b,encEx c]:=by simp[encExs]
theorem exs0:encExs []=[]:=by simp[encExs]
def exBox (g:Nat):AV:=.lbox g [.int .i64 0,.int .i64 0,.int .i64 0,.int .i64 0,.int .i64 0,.int .i64 0,.int .i64 0,.int .i64 0,.int .i64 0,.int .i64 0,.int .i64 0,.int .i64 0,.slice [] true,.slice [] true,.slice [] true]
def IsRes (c:Cx) (H:AHeap) (m:Mk) (mu:Nat) (r:AV × Option Chg):Prop:=∃ e m',r=(.agg (encEx e),some ⟨setM c m' H,c.mm⟩)∧Post (5*bud mu) m m'∧GoodE m'.temp (mu+1) e
theorem isRes_ex {c:Cx} {H:AHeap} {m m' : Mk} {mu:Nat} {e:Ex} (hp:Post (5*bud mu) m m') (hg:GoodE m'.temp (mu+1) e):IsRes c H m mu (.agg (encEx e),some ⟨setM c m' H,c.mm⟩):=⟨e,m',rfl,hp,hg⟩
theorem isRes_mk {c:Cx} {H:AHeap} {m m' : Mk} {mu:Nat} {i2 k n r0 r1 r2 tk td0 td1 td2:Int} {tks:Option (List Ty)} {ks:List Ex} {ns:Option (List Str)} (hp:Post (5*bud mu) m m') (hg:GoodE m'.temp (mu+1) (.mk ⟨0,0,i2⟩ k n ⟨r0,r1,r2⟩ tk ⟨td0,td1,td2⟩ tks ks ns)) :
  IsRes c H m mu (.agg [.int .i64 0,.int .i64 0,.int .i64 i2,.int .i64 k,.int .i64 n,.int .i64 r0,.int .i64 r1,.int .i64 r2,.int .i64 tk,.int .i64 td0,.int .i64 td1,.int .i64 td2,encNil (tks.map encTys),.slice (encExs ks) false,encNil (ns.map strs)],some ⟨setM c m' H,c.mm⟩) :=
 ⟨_,m',by rw[encEx],hp,hg⟩
theorem specF_of {c:Cx} {f:FuncId} {mu:Nat} {t:Ty} {env:List Bd} {x d:Int} {m:Mk} {H:AHeap} {xs:List AV} (key:∃ r,callD A f xs H=some r∧IsRes c H m mu r) :
  ∃ e m',callD A f xs H=some (.agg (encEx e),some ⟨setM c m' H,c.mm⟩)∧Post (bud (mu+1)) m m'∧GoodE m'.temp (mu+1) e:=by
 obtain⟨r,h1,e,m',rfl,h2⟩:=key
 exact⟨e,m',h1,h2⟩
theorem post_leaf {b:Int} {m:Mk} {l:Int} (hb:1≤b) (hn:0≤m.name):Post (5*b) m { m with temp:=m.temp+1,left:=l } :=
 ⟨by simp only;omega,by simp only;omega,rfl,rfl,hn,by simp only;omega⟩
structure Mid (mu:Nat) (i:Nat) (m m1:Mk) (acc:List Ex):Prop where
 lo:m.temp≤m1.temp
 hi:m1.temp≤m.temp+i*bud mu
 own:m1.own=m.own
 home:m1.home=m.home
 nm0:0≤m1.name
 nm:m1.name≤m.name+4*(m1.temp-m.temp)
 len:acc.length≤i
 good:∀ e∈acc,GoodE m1.temp mu e
theorem Mid.zero {mu:Nat} {m:Mk} (h:0≤m.name):Mid mu 0 m m []:=⟨by omega,by simp,rfl,rfl,h,by omega,by simp,by simp⟩
theorem Mid.step {mu:Nat} {i:Nat} {m m1 m2:Mk} {acc:List Ex} {e:Ex} (h:Mid mu i m m1 acc) (hp:Post (bud mu) m1 m2) (hg:GoodE m2.temp mu e):Mid mu (i+1) m m2 (acc++[e]):=by
 obtain⟨a1,a2,a3,a4,a5,a6,a7,a8⟩:=h
 obtain⟨p1,p2,p3,p4,p5,p6⟩:=hp
 refine⟨by omega,?_,p3.trans a3,p4.trans a4,p5,by omega,by simp;omega,fun x hx=>?_⟩
 ·have:((i+1:Nat):Int)*bud mu=i*bud mu+bud mu:=by rw[Int.natCast_add,Int.add_mul];simp
  omega
 ·rcases List.mem_append.1 hx with hx|hx
  ·exact (a8 x hx).mono (by omega)
  ·rw[List.mem_singleton.1 hx];exact hg
theorem Mid.le {mu:Nat} {i j:Nat} {m m1:Mk} {acc:List Ex} (hb:1≤bud mu) (h:Mid mu i m m1 acc) (hj:i≤j):Mid mu j m m1 acc :=
 ⟨h.lo,by have:=Int.mul_le_mul_of_nonneg_right (show (i:Int)≤j by omega) (show 0≤bud mu by omega);have:=h.hi;omega,h.own,h.home,h.nm0,h.nm,by have:=h.len;omega,h.good⟩
theorem Mid.hi4 {mu:Nat} {m m1:Mk} {acc:List Ex} (h:Mid mu 4 m m1 acc):m1.temp≤m.temp+4*bud mu:=by have:=h.hi;omega
theorem Mid.post {mu:Nat} {m m1:Mk} {acc:List Ex} {l:Int} (hb:1≤bud mu) (h:Mid mu 4 m m1 acc):Post (5*bud mu) m { m1 with temp:=m1.temp+1,left:=l }:=by
 obtain⟨a1,a2,a3,a4,a5,a6,a7,a8⟩:=h
 exact⟨by simp only;omega,by simp only;omega,a3,a4,a5,by simp only;omega⟩
theorem Mid.node {mu:Nat} {m m1:Mk} {acc:List Ex} {k n:Int} {r:Id} {tk:Int} {td:Id} {tks:Option (List Ty)} {ns:Option (List Str)} (h:Mid mu 4 m m1 acc) (h0:0≤m.temp) (hk:k≠2):GoodE (m1.temp+1) (mu+1) (.mk ⟨0,0,m1.temp⟩ k n r tk td tks acc ns) :=
 good_node ⟨by have:=h.lo;omega,by omega⟩ hk (h.len) fun e he=>(h.good e he).mono (by omega)
theorem lo_of {mm lo n:Nat} (h:lo=n∨lo=mm) (hlt:mm<n):(bif decide (mm<lo) then mm else lo)=mm:=by
 rcases h with rfl|rfl
 ·rw[decide_eq_true hlt];rfl
 ·simp
theorem lit_D {c:Cx} {mu:Nat} (hc:CxOK c) (hS:SpecE c mu):SpecF c 39 mu:=by
 intro t env x d m H hM ht ht5 hp hx0 hx1
 refine specF_of (t:=t) (env:=env) (x:=x) (d:=d) ?_
 have hb:=bud_pos mu
 simp only[bud] at hp ⊢
 have hp':=hp
 obtain⟨t0,t1,n0,n1,ev,el,d1,d2,d3⟩:=hp'
 have hlt:=hM.lt
 refine callD_WP (fn:=ir39) rfl rfl rfl ?_
 unfold ir39;dsimp only[oQ,oP,iR,oM,oT,oL,oG,oH,oI,oF,oX,oA,oN,oS,oB,oR,oK,oC,iT,iC,iZ,iE]
 by_cases k0:t.kind=0
 ·by_cases h29:x % 29=3
  ·have hn:=node_D hM 0 (1099511627776-x % 2) [] ⟨t0,by omega⟩
   rw[exs0] at hn
   simp (disch:=omega) only[evX,↓reduceIte,Nat.reduceEqDiff,Nat.reduceBEq,Nat.reduceAdd,Nat.reduceMul,reduceCtorEq,Nat.reduceLeDiff,Int.reduceEq,Int.reduceLT,Int.reduceLE,Int.reduceBEq,Int.reduceBNe,Int.reduceAdd,Int.reduceNeg,Int.reduceSub,Int.reduceMul,k0,h29,hn]
   exact isRes_ex (post_leaf hb n0) (good_leaf ⟨t0,by simp only;omega⟩ (by simp))
  ·have hn:=node_D hM 0 (x % 9-2) [] ⟨t0,by omega⟩
   rw[exs0] at hn
   simp (disch:=omega) only[evX,↓reduceIte,Nat.reduceEqDiff,Nat.reduceBEq,Nat.reduceAdd,Nat.reduceMul,reduceCtorEq,Nat.reduceLeDiff,Int.reduceEq,Int.reduceLT,Int.reduceLE,Int.reduceBEq,Int.reduceBNe,Int.reduceAdd,Int.reduceNeg,Int.reduceSub,Int.reduceMul,k0,h29,hn]
   exact isRes_ex (post_leaf hb n0) (good_leaf ⟨t0,by simp only;omega⟩ (by simp))
 by_cases k1:t.kind=1
 ·have hn:=node_D hM 1 (x % 2) [] ⟨t0,by omega⟩
  rw[exs0] at hn
  simp (disch:=omega) only[evX,↓reduceIte,Nat.reduceEqDiff,Nat.reduceBEq,Nat.reduceAdd,Nat.reduceMul,reduceCtorEq,Nat.reduceLeDiff,Int.reduceEq,Int.reduceLT,Int.reduceLE,Int.reduceBEq,Int.reduceBNe,Int.reduceAdd,Int.reduceNeg,Int.reduceSub,Int.reduceMul,k0,k1,hn]
  exact isRes_ex (post_leaf hb n0) (good_leaf ⟨t0,by simp only;omega⟩ (by simp))
 by_cases k2:t.kind=2
 ·obtain⟨kt,hkt,hok⟩:∃ kt,t.kids=[kt]∧TyOK c.ds mu kt:=by
   rcases ht.2 with h|h|⟨_,h⟩|⟨_,_,h,_⟩
   ·exact absurd h k0
   ·exact absurd h k1
   ·exact h
   ·exact absurd k2 h
  have hok5:TyOK c.ds 5 kt:=by
   rcases ht5.2 with h|h|⟨_,k',h1,h2⟩|⟨_,_,h,_⟩
   ·exact absurd h k0
   ·exact absurd h k1
   ·rw[hkt] at h1;injection h1 with h1 _;subst h1;exact h2.mono (show 4≤5 by decide)
   ·exact absurd k2 h
  have etk:encTys t.kids=[[.int .i64 kt.kind,.int .i64 kt.d.shop,.int .i64 kt.d.seq,.int .i64 kt.d.index,.slice (encTys kt.kids) false]]:=by
   rw[hkt,encTys_map,List.map_cons,List.map_nil,encTy_eq]
  have hx3:0≤x % 3∧x % 3<3:=by omega
  simp (disch:=omega) only[evX,↓reduceIte,Nat.reduceEqDiff,Nat.reduceBEq,Nat.reduceAdd,Nat.reduceMul,reduceCtorEq,Nat.reduceLeDiff,Int.reduceEq,Int.reduceLT,Int.reduceLE,Int.reduceBEq,Int.reduceBNe,Int.reduceAdd,Int.reduceNeg,Int.reduceSub,Int.reduceMul,k0,k1,k2,etk]
  refine W_countx 3 0 (fun i s=>∃ T lo g m1 acc,s=⟨T,setM c m1 H,lo,g⟩∧(lo=H.length∨lo=c.mm)∧T 0=.ref c.mm 0∧T 2=.slice (encBds env) false∧T 3=.int .i64 x∧T 4=.int .i64 d∧T 12=.slice (encExs acc) true∧T 13=.int .i64 i∧(i:Int)≤x % 3 ∧
    T 6=.lbox 0 [.int .i64 2,.int .i64 t.d.shop,.int .i64 t.d.seq,.int .i64 t.d.index,.slice [[.int .i64 kt.kind,.int .i64 kt.d.shop,.int .i64 kt.d.seq,.int .i64 kt.d.index,.slice (encTys kt.kids) false]] false]∧T 10=exBox 1∧Mid mu i m m1 acc)
   (fun s=>∃ T lo g m1 acc,s=⟨T,setM c m1 H,lo,g⟩∧(lo=H.length∨lo=c.mm)∧T 0=.ref c.mm 0∧(∃ o,T 12=.slice (encExs acc) o) ∧
    T 6=.lbox 0 [.int .i64 2,.int .i64 t.d.shop,.int .i64 t.d.seq,.int .i64 t.d.index,.slice [[.int .i64 kt.kind,.int .i64 kt.d.shop,.int .i64 kt.d.seq,.int .i64 kt.d.index,.slice (encTys kt.kids) false]] false]∧T 10=exBox 1∧Mid mu 4 m m1 acc)
   (fun _=>False) ?_ ?_ (fun _ h=>h.elim) 0 _ (by omega) ?_
  ·rintro i s hi ⟨T,lo,g,m1,acc,rfl,hlo,e0,e2,e3,e4,e12,e13,hix,e6,e10,hmid⟩
   have hM1:MH c m1 (setM c m1 H):=hM.set
   have q0:=hM1.h0
   rw[encMk] at q0
   have hlo':=lo_of hlo hlt
   by_cases c1:(i:Int)<x % 3
   ·by_cases c2:0≤d
    ·by_cases c3:0<m1.left
     ·have hm4:=hmid.le hb (show i≤4 by omega)
      obtain⟨e,m2,hcall,hpost,hgood⟩:=hS kt env (d-1) m1 (setM c m1 H) hM1 hok hok5 (hp.sub hmid.lo (by have:=(hmid.le hb (show i≤2 by omega)).hi;omega) hmid.nm0 hmid.nm (ev.mono hmid.lo) (by omega) (.inl rfl))
      rw[setM_setM] at hcall
      have hal:acc.length≤1000:=by have:=hmid.len;omega
      simp (disch:=omega) only[evX,↓reduceIte,Nat.reduceEqDiff,Nat.reduceBEq,Nat.reduceAdd,Nat.reduceMul,reduceCtorEq,Nat.reduceLeDiff,Int.reduceEq,Int.reduceLT,Int.reduceLE,Int.reduceBEq,Int.reduceBNe,Int.reduceAdd,Int.reduceNeg,Int.reduceSub,Int.reduceMul,e0,e2,e3,e4,e6,e12,e13,q0,hcall,hlo',app_ex]
      exact⟨by omega,_,_,_,m2,acc++[e],rfl,.inr rfl,by simp (disch:=omega) only[evX,↓reduceIte,Nat.reduceEqDiff,Nat.reduceBEq,Nat.reduceAdd,Nat.reduceMul,reduceCtorEq,Nat.reduceLeDiff,Int.reduceEq,Int.reduceLT,Int.reduceLE,Int.reduceBEq,Int.reduceBNe,Int.reduceAdd,Int.reduceNeg,Int.reduceSub,Int.reduceMul,e0,e2,e3,e4,e6,e10];exact⟨by omega,hmid.step hpost hgood⟩⟩
     ·simp (disch:=omega) only[evX,↓reduceIte,Nat.reduceEqDiff,Nat.reduceBEq,Nat.reduceAdd,Nat.reduceMul,reduceCtorEq,Nat.reduceLeDiff,Int.reduceEq,Int.reduceLT,Int.reduceLE,Int.reduceBEq,Int.reduceBNe,Int.reduceAdd,Int.reduceNeg,Int.reduceSub,Int.reduceMul,e0,e2,e3,e4,e6,e12,e13,q0]
      exact⟨_,_,_,m1,acc,rfl,hlo,e0,⟨_,e12⟩,e6,e10,hmid.le hb (by omega)⟩
    ·simp (disch:=omega) only[evX,↓reduceIte,Nat.reduceEqDiff,Nat.reduceBEq,Nat.reduceAdd,Nat.reduceMul,reduceCtorEq,Nat.reduceLeDiff,Int.reduceEq,Int.reduceLT,Int.reduceLE,Int.reduceBEq,Int.reduceBNe,Int.reduceAdd,Int.reduceNeg,Int.reduceSub,Int.reduceMul,e0,e2,e3,e4,e6,e12,e13,q0]
     exact⟨_,_,_,m1,acc,rfl,hlo,e0,⟨_,e12⟩,e6,e10,hmid.le hb (by omega)⟩
   ·simp (disch:=omega) only[evX,↓reduceIte,Nat.reduceEqDiff,Nat.reduceBEq,Nat.reduceAdd,Nat.reduceMul,reduceCtorEq,Nat.reduceLeDiff,Int.reduceEq,Int.reduceLT,Int.reduceLE,Int.reduceBEq,Int.reduceBNe,Int.reduceAdd,Int.reduceNeg,Int.reduceSub,Int.reduceMul,e0,e2,e3,e4,e6,e12,e13,q0]
    exact⟨_,_,_,m1,acc,rfl,hlo,e0,⟨_,e12⟩,e6,e10,hmid.le hb (by omega)⟩
  ·rintro s ⟨T,lo,g,m1,acc,rfl,hlo,e0,⟨o,e12⟩,e6,e10,hmid⟩
   have hM1:MH c m1 (setM c m1 H):=hM.set
   have hlo':=lo_of hlo hlt
   have hn:=node_D hM1 11 0 acc ⟨by have:=hmid.lo;omega,by have:=hmid.hi4;omega⟩
   rw[setM_setM,encEx] at hn
   rw[exBox] at e10
   simp (disch:=omega) only[evX,↓reduceIte,Nat.reduceEqDiff,Nat.reduceBEq,Nat.reduceAdd,Nat.reduceMul,reduceCtorEq,Nat.reduceLeDiff,Int.reduceEq,Int.reduceLT,Int.reduceLE,Int.reduceBEq,Int.reduceBNe,Int.reduceAdd,Int.reduceNeg,Int.reduceSub,Int.reduceMul,e0,e6,e10,e12,hn,hlo']
   exact isRes_mk (tks:=some kt.kids) (ns:=none) (hmid.post hb) (hmid.node t0 (by decide))
  ·exact⟨_,_,_,m,[],by rw[setM_same hM],.inl rfl,by simp (disch:=omega) only[evX,↓reduceIte,Nat.reduceEqDiff,Nat.reduceBEq,Nat.reduceAdd,Nat.reduceMul,reduceCtorEq,Nat.reduceLeDiff,Int.reduceEq,Int.reduceLT,Int.reduceLE,Int.reduceBEq,Int.reduceBNe,Int.reduceAdd,Int.reduceNeg,Int.reduceSub,Int.reduceMul,exs0,exBox,k2,etk];exact⟨by omega,Mid.zero n0⟩⟩
 ·obtain⟨dd,hdd⟩:∃ dd,dd=(findD c.ds t.d).getD defZero:=⟨_,rfl⟩
  have hsl:(dd.kind=1→dd.slots≠[])∧dd.slots.length≤3∧(∀ s∈dd.slots,TyOK c.ds mu s.ty)∧(∀ s∈dd.slots,TyOK c.ds 5 s.ty):=by
   cases hf:findD c.ds t.d with
   | none =>
    rw[hf] at hdd
    subst hdd
    exact⟨by simp[defZero],by simp[defZero],by simp[defZero],by simp[defZero]⟩
   | some d0 =>
    rw[hf] at hdd
    simp only[Option.getD_some] at hdd
    subst hdd
    rcases ht.2 with h|h|⟨h,_⟩|⟨_,_,_,h⟩
    ·exact absurd h k0
    ·exact absurd h k1
    ·exact absurd h k2
    ·obtain⟨a1,a2,a3⟩:=h _ hf
     exact⟨a1,a2,a3,hc.ty _ (List.mem_of_find?_eq_some hf)⟩
  obtain⟨hs1,hs2,hs3,hs4⟩:=hsl
  have hcall0:=defF_D hM t.d hc.len
  rw[← hdd,encId,encDef] at hcall0
  have q0:=hM.h0
  rw[encMk] at q0
  by_cases kd:dd.kind=1
  ·have hne:=hs1 kd
   have hlen:0<dd.slots.length:=List.length_pos_iff.2 hne
   have hln:decide ((dd.slots.length:Int)=0)=false:=by simp;omega
   obtain⟨j,hj,hjx⟩:∃ j:Nat,j<dd.slots.length∧(if d<0 then (0:Int) else x % dd.slots.length)=j:=by
    by_cases hd0:d<0
    ·exact⟨0,hlen,by rw[if_pos hd0];rfl⟩
    ·refine⟨(x % dd.slots.length).toNat,?_,?_⟩
     ·have:=Int.emod_lt_of_pos x (show (0:Int)<dd.slots.length by omega)
      have:=Int.emod_nonneg x (show (dd.slots.length:Int)≠0 by omega)
      omega
     ·rw[if_neg hd0,Int.toNat_of_nonneg (Int.emod_nonneg x (by omega))]
   obtain⟨s,hs⟩:∃ s,dd.slots[j]?=some s:=⟨_,List.getElem?_eq_getElem hj⟩
   have hsm:=List.mem_of_getElem? hs
   have qs:=slots_at hs
   rw[encSlot] at qs
   obtain⟨e,m1,hcall,hpost,hgood⟩:=hS s.ty env (d-1) m H hM (hs3 s hsm) (hs4 s hsm) (hp.sub (by omega) (by omega) n0 (by omega) ev (by omega) (.inl rfl))
   have hM1:MH c m1 (setM c m1 H):=hM.set
   have hmid:=((Mid.zero (mu:=mu) n0).step hpost hgood).le hb (show 1≤4 by omega)
   have hn:=node_D hM1 9 j [e] ⟨by have:=hmid.lo;omega,by have:=hmid.hi4;omega⟩
   rw[setM_setM,encEx,exs1] at hn
   by_cases hd0:d<0
   ·rw[if_pos hd0] at hjx
    rw[← hjx] at hn
    have hj0:j=0:=by omega
    subst hj0
    simp (disch:=omega) only[evX,↓reduceIte,Nat.reduceEqDiff,Nat.reduceBEq,Nat.reduceAdd,Nat.reduceMul,reduceCtorEq,Nat.reduceLeDiff,Int.reduceEq,Int.reduceLT,Int.reduceLE,Int.reduceBEq,Int.reduceBNe,Int.reduceAdd,Int.reduceNeg,Int.reduceSub,Int.reduceMul,k0,k1,k2,q0,hcall0,kd,slots_len,hln,qs,hcall,hn]
    rw[← exs1]
    exact isRes_mk (tks:=none) (ns:=none) (hmid.post hb) (hmid.node t0 (by decide))
   ·rw[if_neg hd0] at hjx
    simp (disch:=omega) only[evX,↓reduceIte,Nat.reduceEqDiff,Nat.reduceBEq,Nat.reduceAdd,Nat.reduceMul,reduceCtorEq,Nat.reduceLeDiff,Int.reduceEq,Int.reduceLT,Int.reduceLE,Int.reduceBEq,Int.reduceBNe,Int.reduceAdd,Int.reduceNeg,Int.reduceSub,Int.reduceMul,k0,k1,k2,q0,hcall0,kd,slots_len,hln,hjx,qs,hcall,hn]
    rw[← exs1]
    exact isRes_mk (tks:=none) (ns:=none) (hmid.post hb) (hmid.node t0 (by decide))
  ·simp (disch:=omega) only[evX,↓reduceIte,Nat.reduceEqDiff,Nat.reduceBEq,Nat.reduceAdd,Nat.reduceMul,reduceCtorEq,Nat.reduceLeDiff,Int.reduceEq,Int.reduceLT,Int.reduceLE,Int.reduceBEq,Int.reduceBNe,Int.reduceAdd,Int.reduceNeg,Int.reduceSub,Int.reduceMul,k0,k1,k2,q0,hcall0,kd]
   refine W_countx dd.slots.length 2 (fun i s=>∃ T lo g m1 acc,s=⟨T,setM c m1 H,lo,g⟩∧(lo=H.length∨lo=c.mm)∧T 0=.ref c.mm 0∧T 2=.slice (encBds env) false∧T 4=.int .i64 d∧T 20=.slice (encExs acc) true∧T 21=.int .i64 i ∧
     T 15=.lbox 2 (encDef dd)∧T 10=exBox 1∧Mid mu i m m1 acc)
    (fun s=>∃ T lo g m1 acc,s=⟨T,setM c m1 H,lo,g⟩∧(lo=H.length∨lo=c.mm)∧T 0=.ref c.mm 0∧(∃ o,T 20=.slice (encExs acc) o)∧T 15=.lbox 2 (encDef dd)∧T 10=exBox 1∧Mid mu 4 m m1 acc)
    (fun _=>False) ?_ ?_ (fun _ h=>h.elim) 0 _ (by omega) ?_
   ·rintro i s hi ⟨T,lo,g,m1,acc,rfl,hlo,e0,e2,e4,e20,e21,e15,e10,hmid⟩
    have hM1:MH c m1 (setM c m1 H):=hM.set
    have hlo':=lo_of hlo hlt
    by_cases c1:i<dd.slots.length
    ·obtain⟨s,hs⟩:∃ s,dd.slots[i]?=some s:=⟨_,List.getElem?_eq_getElem c1⟩
     have hsm:=List.mem_of_getElem? hs
     have qs:=slots_at hs
     rw[encSlot] at qs
     obtain⟨e,m2,hcall,hpost,hgood⟩:=hS s.ty env (d-1) m1 (setM c m1 H) hM1 (hs3 s hsm) (hs4 s hsm) (hp.sub hmid.lo (by have:=(hmid.le hb (show i≤4 by omega)).hi4;omega) hmid.nm0 hmid.nm (ev.mono hmid.lo) (by omega) (.inl rfl))
     rw[setM_setM] at hcall
     have hal:acc.length≤1000:=by have:=hmid.len;omega
     rw[encDef] at e15
     simp (disch:=omega) only[evX,↓reduceIte,Nat.reduceEqDiff,Nat.reduceBEq,Nat.reduceAdd,Nat.reduceMul,reduceCtorEq,Nat.reduceLeDiff,Int.reduceEq,Int.reduceLT,Int.reduceLE,Int.reduceBEq,Int.reduceBNe,Int.reduceAdd,Int.reduceNeg,Int.reduceSub,Int.reduceMul,e0,e2,e4,e15,e20,e21,slots_len,qs,hcall,hlo',app_ex]
     exact⟨by omega,_,_,_,m2,acc++[e],rfl,.inr rfl,by simp (disch:=omega) only[evX,↓reduceIte,Nat.reduceEqDiff,Nat.reduceBEq,Nat.reduceAdd,Nat.reduceMul,reduceCtorEq,Nat.reduceLeDiff,Int.reduceEq,Int.reduceLT,Int.reduceLE,Int.reduceBEq,Int.reduceBNe,Int.reduceAdd,Int.reduceNeg,Int.reduceSub,Int.reduceMul,e0,e2,e4,e10,e15,encDef];exact hmid.step hpost hgood⟩
    ·have e15':=e15
     rw[encDef] at e15'
     simp (disch:=omega) only[evX,↓reduceIte,Nat.reduceEqDiff,Nat.reduceBEq,Nat.reduceAdd,Nat.reduceMul,reduceCtorEq,Nat.reduceLeDiff,Int.reduceEq,Int.reduceLT,Int.reduceLE,Int.reduceBEq,Int.reduceBNe,Int.reduceAdd,Int.reduceNeg,Int.reduceSub,Int.reduceMul,e0,e2,e4,e15',e20,e21,slots_len]
     exact⟨_,_,_,m1,acc,rfl,hlo,e0,⟨_,e20⟩,e15,e10,hmid.le hb (by omega)⟩
   ·rintro s ⟨T,lo,g,m1,acc,rfl,hlo,e0,⟨o,e20⟩,e15,e10,hmid⟩
    have hM1:MH c m1 (setM c m1 H):=hM.set
    have hlo':=lo_of hlo hlt
    have hn:=node_D hM1 7 0 acc ⟨by have:=hmid.lo;omega,by have:=hmid.hi4;omega⟩
    rw[setM_setM,encEx] at hn
    rw[exBox] at e10
    rw[encDef] at e15
    simp (disch:=omega) only[evX,↓reduceIte,Nat.reduceEqDiff,Nat.reduceBEq,Nat.reduceAdd,Nat.reduceMul,reduceCtorEq,Nat.reduceLeDiff,Int.reduceEq,Int.reduceLT,Int.reduceLE,Int.reduceBEq,Int.reduceBNe,Int.reduceAdd,Int.reduceNeg,Int.reduceSub,Int.reduceMul,e0,e15,e10,e20,hn,hlo']
    exact isRes_mk (tks:=none) (ns:=none) (hmid.post hb) (hmid.node t0 (by decide))
   ·exact⟨_,_,_,m,[],by rw[setM_same hM],.inl rfl,by simp (disch:=omega) only[evX,↓reduceIte,Nat.reduceEqDiff,Nat.reduceBEq,Nat.reduceAdd,Nat.reduceMul,reduceCtorEq,Nat.reduceLeDiff,Int.reduceEq,Int.reduceLT,Int.reduceLE,Int.reduceBEq,Int.reduceBNe,Int.reduceAdd,Int.reduceNeg,Int.reduceSub,Int.reduceMul,exs0,exBox,encDef];exact Mid.zero n0⟩
end Go.Proofs.YtemfofdaemgjgaaGreatDoor
end
section
set_option linter.unusedSimpArgs false
set_option linter.unusedVariables false
set_option maxRecDepth 100000
namespace Go.Proofs.YtemfofdaemgjgaaGreatDoor
open Go Go.Abs Go.Proofs
def SpecG (c:Cx) (f:FuncId) (mu:Nat):Prop:=∀ (t:Ty) (env:List Bd) (x d:Int) (m:Mk) (H:AHeap),MH c m H→TyOK c.ds (mu+1) t→TyOK c.ds 5 t→Pre c (bud (mu+1)) (mu+1) m env d→0≤x→x<65536→0<d →
 ∃ e m',callD A f (genArgs c t env x d) H=some (.agg (encEx e),some ⟨setM c m' H,c.mm⟩)∧Post (bud (mu+1)) m m'∧GoodE m'.temp (mu+1) e
theorem at5 {a b c d e:Int} {j:Nat} (hj:j<5):∃ v:Int,([[AV.int .i64 a],[AV.int .i64 b],[AV.int .i64 c],[AV.int .i64 d],[AV.int .i64 e]]:List (List AV))[j]?=some [.int .i64 v]:=by
 rcases j with _|_|_|_|_|j
 iterate 5 exact⟨_,rfl⟩
 omega
theorem at2 {a b:Int} {j:Nat} (hj:j<2):∃ v:Int,([[AV.int .i64 a],[AV.int .i64 b]]:List (List AV))[j]?=some [.int .i64 v]:=by
 rcases j with _|_|j
 iterate 2 exact⟨_,rfl⟩
 omega
theorem op_D {c:Cx} {mu:Nat} (hc:CxOK c) (hS:SpecE c mu) (hL:SpecF c 39 mu):SpecG c 46 mu:=by
 intro t env x d m H hM ht ht5 hp hx0 hx1 hd
 obtain⟨el,ml,hlit,hlp,hlg⟩:=hL t env (x / 2) d m H hM ht ht5 hp (by omega) (by omega)
 refine specF_of (t:=t) (env:=env) (x:=x) (d:=d) ?_
 have hb:=bud_pos mu
 simp only[bud] at hp hlp ⊢
 have hp':=hp
 obtain⟨t0,t1,n0,n1,ev,el',d1,d2,d3⟩:=hp'
 have h5:5≤mu:=by have:=d1 hd;omega
 have hlt:=hM.lt
 have call1:∀ u,TyOK c.ds 5 u→∃ e m1,callD A 19 (exprArgs c u env (d-1)) H=some (.agg (encEx e),some ⟨setM c m1 H,c.mm⟩)∧Mid mu 1 m m1 [e]:=by
  intro u hu
  obtain⟨e,m1,hcall,hpost,hgood⟩:=hS u env (d-1) m H hM (hu.mono h5) hu (hp.sub (by omega) (by omega) n0 (by omega) ev (by omega) (.inl rfl))
  exact⟨e,m1,hcall,(Mid.zero (mu:=mu) n0).step hpost hgood⟩
 have call2:∀ u m1 a,TyOK c.ds 5 u→Mid mu 1 m m1 [a]→∃ e m2,callD A 19 (exprArgs c u env (d-1)) (setM c m1 H)=some (.agg (encEx e),some ⟨setM c m2 H,c.mm⟩)∧Mid mu 2 m m2 [a,e]:=by
  intro u m1 a hu hmid
  obtain⟨e,m2,hcall,hpost,hgood⟩:=hS u env (d-1) m1 (setM c m1 H) hM.set (hu.mono h5) hu (hp.sub hmid.lo (by have:=(hmid.le hb (show 1≤4 by omega)).hi4;omega) hmid.nm0 hmid.nm (ev.mono hmid.lo) (by omega) (.inl rfl))
  rw[setM_setM] at hcall
  exact⟨e,m2,hcall,hmid.step hpost hgood⟩
 have node1:∀ k n m1 a,Mid mu 1 m m1 [a]→callD A 40 [.ref c.mm 0,.int .i64 k,.int .i64 n,.slice [encEx a] false] (setM c m1 H)=some (.agg (encEx (.mk ⟨0,0,m1.temp⟩ k n ⟨0,0,0⟩ 0 ⟨0,0,0⟩ none [a] none)),some ⟨setM c { m1 with temp:=m1.temp+1,left:=IntKind.i64.wrap (m1.left-1) } H,c.mm⟩):=by
  intro k n m1 a hmid
  have hm4:=hmid.le hb (show 1≤4 by omega)
  have hn:=node_D (c:=c) (m:=m1) (H:=setM c m1 H) hM.set k n [a] ⟨by have:=hmid.lo;omega,by have:=hm4.hi4;omega⟩
  rwa [setM_setM,exs1] at hn
 have node2:∀ k n m1 a b,Mid mu 2 m m1 [a,b]→callD A 40 [.ref c.mm 0,.int .i64 k,.int .i64 n,.slice [encEx a,encEx b] false] (setM c m1 H)=some (.agg (encEx (.mk ⟨0,0,m1.temp⟩ k n ⟨0,0,0⟩ 0 ⟨0,0,0⟩ none [a,b] none)),some ⟨setM c { m1 with temp:=m1.temp+1,left:=IntKind.i64.wrap (m1.left-1) } H,c.mm⟩):=by
  intro k n m1 a b hmid
  have hm4:=hmid.le hb (show 2≤4 by omega)
  have hn:=node_D (c:=c) (m:=m1) (H:=setM c m1 H) hM.set k n [a,b] ⟨by have:=hmid.lo;omega,by have:=hm4.hi4;omega⟩
  rwa [setM_setM,exs2] at hn
 have res1:∀ n m1 a,Mid mu 1 m m1 [a]→IsRes c H m mu (.agg (encEx (.mk ⟨0,0,m1.temp⟩ 4 n ⟨0,0,0⟩ 0 ⟨0,0,0⟩ none [a] none)),some ⟨setM c { m1 with temp:=m1.temp+1,left:=IntKind.i64.wrap (m1.left-1) } H,c.mm⟩) :=
  fun n m1 a hmid=>isRes_ex ((hmid.le hb (show 1≤4 by omega)).post hb) ((hmid.le hb (show 1≤4 by omega)).node t0 (by decide))
 have res2:∀ n m1 a b,Mid mu 2 m m1 [a,b]→IsRes c H m mu (.agg (encEx (.mk ⟨0,0,m1.temp⟩ 4 n ⟨0,0,0⟩ 0 ⟨0,0,0⟩ none [a,b] none)),some ⟨setM c { m1 with temp:=m1.temp+1,left:=IntKind.i64.wrap (m1.left-1) } H,c.mm⟩) :=
  fun n m1 a b hmid=>isRes_ex ((hmid.le hb (show 2≤4 by omega)).post hb) ((hmid.le hb (show 2≤4 by omega)).node t0 (by decide))
 refine callD_WP (fn:=ir46) rfl rfl rfl ?_
 unfold ir46;dsimp only[oQ,oP,iR,oM,oT,oL,oG,oH,oI,oF,oX,oA,oN,oS,oB,oR,oK,oC,iT,iC,iZ,iE]
 by_cases k0:t.kind=0
 ·by_cases h6:x % 6=5
  ·obtain⟨a,m1,q1,hm1⟩:=call1 (tList tInt) (ok_list (r:=4) (ok_int (by omega)))
   have hlist:=list_D tInt H
   have q2:=node1 4 11 m1 a hm1
   simp only[exprArgs,tList,tInt,Ty.kind,Ty.d,Ty.kids,encTys,encTy] at q1 hlist
   simp (disch:=omega) only[evX,↓reduceIte,Nat.reduceEqDiff,Nat.reduceBEq,Nat.reduceAdd,Nat.reduceMul,reduceCtorEq,Nat.reduceLeDiff,Int.reduceEq,Int.reduceLT,Int.reduceLE,Int.reduceBEq,Int.reduceBNe,Int.reduceAdd,Int.reduceNeg,Int.reduceSub,Int.reduceMul,k0,h6,hlist,q1,q2]
   exact res1 _ _ _ hm1
  ·obtain⟨a,m1,q1,hm1⟩:=call1 t ht5
   obtain⟨b,m2,q2,hm2⟩:=call2 t m1 a ht5 hm1
   obtain⟨v,hv⟩:=at5 (a:=0) (b:=1) (c:=2) (d:=3) (e:=4) (j:=(x % 5).toNat) (by omega)
   have q3:=node2 4 v m2 a b hm2
   simp only[exprArgs,k0] at q1 q2
   simp (disch:=omega) only[evX,↓reduceIte,Nat.reduceEqDiff,Nat.reduceBEq,Nat.reduceAdd,Nat.reduceMul,reduceCtorEq,Nat.reduceLeDiff,Int.reduceEq,Int.reduceLT,Int.reduceLE,Int.reduceBEq,Int.reduceBNe,Int.reduceAdd,Int.reduceNeg,Int.reduceSub,Int.reduceMul,k0,h6,q1,q2,q3,hv]
   exact res2 _ _ _ _ hm2
 by_cases k1:t.kind=1
 ·have hx6:0≤x % 6∧x % 6<6:=by omega
  by_cases h0:x % 6=0
  ·obtain⟨a,m1,q1,hm1⟩:=call1 t ht5
   have q2:=node1 4 9 m1 a hm1
   simp only[exprArgs,k1] at q1
   simp (disch:=omega) only[evX,↓reduceIte,Nat.reduceEqDiff,Nat.reduceBEq,Nat.reduceAdd,Nat.reduceMul,reduceCtorEq,Nat.reduceLeDiff,Int.reduceEq,Int.reduceLT,Int.reduceLE,Int.reduceBEq,Int.reduceBNe,Int.reduceAdd,Int.reduceNeg,Int.reduceSub,Int.reduceMul,k0,k1,h0,q1,q2]
   exact res1 _ _ _ hm1
  by_cases h3:x % 6=3
  ·have hel:0<env.length:=List.length_pos_iff.2 ev.ne
   have heln:decide ((env.length:Int)=0)=false:=decide_eq_false (by omega)
   obtain⟨j,hj⟩:∃ j:Nat,x / 6 % (env.length:Int)=j:=⟨(x / 6 % (env.length:Int)).toNat,by rw[Int.toNat_of_nonneg (Int.emod_nonneg _ (show (env.length:Int)≠0 by omega))]⟩
   have hjl:j<env.length:=by have h7:=Int.emod_lt_of_pos (x / 6) (show (0:Int)<env.length by omega);rw[hj] at h7;omega
   obtain⟨b0,hb0⟩:∃ b,env[j]?=some b:=⟨_,List.getElem?_eq_getElem hjl⟩
   have hty:=ev.ty _ (List.mem_of_getElem? hb0)
   have qb:=bds_at hb0
   rw[encBd] at qb
   obtain⟨a,m1,q1,hm1⟩:=call1 b0.ty hty
   obtain⟨b,m2,q2,hm2⟩:=call2 b0.ty m1 a hty hm1
   have q3:=node2 4 6 m2 a b hm2
   simp only[exprArgs] at q1 q2
   simp (disch:=omega) only[evX,↓reduceIte,Nat.reduceEqDiff,Nat.reduceBEq,Nat.reduceAdd,Nat.reduceMul,reduceCtorEq,Nat.reduceLeDiff,Int.reduceEq,Int.reduceLT,Int.reduceLE,Int.reduceBEq,Int.reduceBNe,Int.reduceAdd,Int.reduceNeg,Int.reduceSub,Int.reduceMul,k0,k1,h3,bds_len,heln,hj,qb,q1,q2,q3]
   exact res2 _ _ _ _ hm2
  by_cases h4:4≤x % 6
  ·obtain⟨a,m1,q1,hm1⟩:=call1 t ht5
   obtain⟨b,m2,q2,hm2⟩:=call2 t m1 a ht5 hm1
   obtain⟨v,hv⟩:=at2 (a:=7) (b:=8) (j:=(x % 6-4).toNat) (by omega)
   have q3:=node2 4 v m2 a b hm2
   simp only[exprArgs,k1] at q1 q2
   simp (disch:=omega) only[evX,↓reduceIte,Nat.reduceEqDiff,Nat.reduceBEq,Nat.reduceAdd,Nat.reduceMul,reduceCtorEq,Nat.reduceLeDiff,Int.reduceEq,Int.reduceLT,Int.reduceLE,Int.reduceBEq,Int.reduceBNe,Int.reduceAdd,Int.reduceNeg,Int.reduceSub,Int.reduceMul,k0,k1,q1,q2,q3,hv]
   exact res2 _ _ _ _ hm2
  ·obtain⟨a,m1,q1,hm1⟩:=call1 tInt (ok_int (by omega))
   obtain⟨b,m2,q2,hm2⟩:=call2 tInt m1 a (ok_int (by omega)) hm1
   by_cases h2:x % 6=2
   ·have q3:=node2 4 6 m2 a b hm2
    simp only[exprArgs,tInt,Ty.kind,Ty.d,Ty.kids,encTys] at q1 q2
    simp (disch:=omega) only[evX,↓reduceIte,Nat.reduceEqDiff,Nat.reduceBEq,Nat.reduceAdd,Nat.reduceMul,reduceCtorEq,Nat.reduceLeDiff,Int.reduceEq,Int.reduceLT,Int.reduceLE,Int.reduceBEq,Int.reduceBNe,Int.reduceAdd,Int.reduceNeg,Int.reduceSub,Int.reduceMul,k0,k1,h2,q1,q2,q3]
    exact res2 _ _ _ _ hm2
   ·have q3:=node2 4 5 m2 a b hm2
    simp only[exprArgs,tInt,Ty.kind,Ty.d,Ty.kids,encTys] at q1 q2
    simp (disch:=omega) only[evX,↓reduceIte,Nat.reduceEqDiff,Nat.reduceBEq,Nat.reduceAdd,Nat.reduceMul,reduceCtorEq,Nat.reduceLeDiff,Int.reduceEq,Int.reduceLT,Int.reduceLE,Int.reduceBEq,Int.reduceBNe,Int.reduceAdd,Int.reduceNeg,Int.reduceSub,Int.reduceMul,k0,k1,q1,q2,q3]
    exact res2 _ _ _ _ hm2
 by_cases k2:t.kind=2∧x % 2=0
 ·obtain⟨a,m1,q1,hm1⟩:=call1 t ht5
  obtain⟨b,m2,q2,hm2⟩:=call2 t m1 a ht5 hm1
  have q3:=node2 4 10 m2 a b hm2
  simp only[exprArgs,k2.1] at q1 q2
  simp (disch:=omega) only[evX,↓reduceIte,Nat.reduceEqDiff,Nat.reduceBEq,Nat.reduceAdd,Nat.reduceMul,reduceCtorEq,Nat.reduceLeDiff,Int.reduceEq,Int.reduceLT,Int.reduceLE,Int.reduceBEq,Int.reduceBNe,Int.reduceAdd,Int.reduceNeg,Int.reduceSub,Int.reduceMul,k0,k1,k2.1,k2.2,q1,q2,q3]
  exact res2 _ _ _ _ hm2
 ·simp only[genArgs] at hlit
  by_cases k3:t.kind=2
  ·have k4:x % 2≠0:=fun e=>k2 ⟨k3,e⟩
   rw[k3] at hlit
   simp (disch:=omega) only[evX,↓reduceIte,Nat.reduceEqDiff,Nat.reduceBEq,Nat.reduceAdd,Nat.reduceMul,reduceCtorEq,Nat.reduceLeDiff,Int.reduceEq,Int.reduceLT,Int.reduceLE,Int.reduceBEq,Int.reduceBNe,Int.reduceAdd,Int.reduceNeg,Int.reduceSub,Int.reduceMul,k0,k1,k3,hlit]
   exact isRes_ex hlp hlg
  ·simp (disch:=omega) only[evX,↓reduceIte,Nat.reduceEqDiff,Nat.reduceBEq,Nat.reduceAdd,Nat.reduceMul,reduceCtorEq,Nat.reduceLeDiff,Int.reduceEq,Int.reduceLT,Int.reduceLE,Int.reduceBEq,Int.reduceBNe,Int.reduceAdd,Int.reduceNeg,Int.reduceSub,Int.reduceMul,k0,k1,hlit]
   exact isRes_ex hlp hlg
end Go.Proofs.YtemfofdaemgjgaaGreatDoor
end
section
set_option linter.unusedSimpArgs false
set_option linter.unusedVariables false
set_option maxRecDepth 100000
namespace Go.Proofs.YtemfofdaemgjgaaGreatDoor
open Go Go.Abs Go.Proofs
theorem call_D {c:Cx} {mu:Nat} (hc:CxOK c) (hS:SpecE c mu) (hO:SpecG c 46 mu):SpecG c 45 mu:=by
 intro t env x d m H hM ht ht5 hp hx0 hx1 hd
 obtain⟨eo,mo,hop,hop1,hop2⟩:=hO t env x d m H hM ht ht5 hp hx0 hx1 hd
 refine specF_of (t:=t) (env:=env) (x:=x) (d:=d) ?_
 have hb:=bud_pos mu
 simp only[bud] at hp hop1 ⊢
 have hp':=hp
 obtain⟨t0,t1,n0,n1,ev,el',d1,d2,d3⟩:=hp'
 have h5:5≤mu:=by have:=d1 hd;omega
 have hlt:=hM.lt
 have k0:=hM.h0
 have k2:=hM.h2
 rw[encMk] at k0
 have hcl:=hc.len
 simp only[genArgs] at hop
 refine callD_WP (fn:=ir45) rfl rfl rfl ?_
 unfold ir45;dsimp only[oQ,oP,iR,oM,oT,oL,oG,oH,oI,oF,oX,oA,oN,oS,oB,oR,oK,oC,iT,iC,iZ,iE]
 simp (disch:=omega) only[evX,↓reduceIte,Nat.reduceEqDiff,Nat.reduceBEq,Nat.reduceAdd,Nat.reduceMul,reduceCtorEq,Nat.reduceLeDiff,Int.reduceEq,Int.reduceLT,Int.reduceLE,Int.reduceBEq,Int.reduceBNe,Int.reduceAdd,Int.reduceNeg,Int.reduceSub,Int.reduceMul]
 refine W_countx c.ds.length 0 (fun i=>HdG (fun T=>T 0=.ref c.mm 0∧T 2=.slice (encBds env) false∧T 3=.int .i64 x∧T 4=.int .i64 d∧T 6=.lbox 0 [.int .i64 t.kind,.int .i64 t.d.shop,.int .i64 t.d.seq,.int .i64 t.d.index,.slice (encTys t.kids) false]∧T 10=exBox 1∧T 11=.int .i64 i) H H.length)
  (HdG (fun T=>T 0=.ref c.mm 0∧T 2=.slice (encBds env) false∧T 3=.int .i64 x∧T 4=.int .i64 d∧T 6=.lbox 0 [.int .i64 t.kind,.int .i64 t.d.shop,.int .i64 t.d.seq,.int .i64 t.d.index,.slice (encTys t.kids) false]∧T 10=exBox 1) H H.length)
  (fun s=>doneP H.length [.cell 10 true 15] (IsRes c H m mu) .ret s) ?_ ?_ ?_ 0 _ (by omega) ?_
 ·rintro i s hi hs
  obtain⟨T,g,rfl,e0,e2,e3,e4,e6,e10,e11⟩:=hs.out
  by_cases c1:i<c.ds.length
  ·obtain⟨dd,hdd⟩:∃ d,c.ds[i]?=some d:=⟨_,List.getElem?_eq_getElem c1⟩
   have hdm:=List.mem_of_getElem? hdd
   have q1:=def_load hdd
   rw[encDef] at q1
   by_cases c2:dd.kind=2
   ·obtain⟨v,hv⟩:=visible_D hM i c1 hc.ms
    cases v with
    | false =>
     simp (disch:=omega) only[evX,↓reduceIte,Nat.reduceEqDiff,Nat.reduceBEq,Nat.reduceAdd,Nat.reduceMul,reduceCtorEq,Nat.reduceLeDiff,Int.reduceEq,Int.reduceLT,Int.reduceLE,Int.reduceBEq,Int.reduceBNe,Int.reduceAdd,Int.reduceNeg,Int.reduceSub,Int.reduceMul,e0,e2,e3,e4,e6,e11,k0,k2,q1,c2,hv]
     exact⟨c1,e10⟩
    | true =>
     obtain⟨sv,hsv⟩:=sameType_D _ dd.result t H (Nat.lt_succ_self _) (hc.res dd hdm).len
     rw[encTy_eq,encTy_eq] at hsv
     cases sv with
     | false =>
      simp (disch:=omega) only[evX,↓reduceIte,Nat.reduceEqDiff,Nat.reduceBEq,Nat.reduceAdd,Nat.reduceMul,reduceCtorEq,Nat.reduceLeDiff,Int.reduceEq,Int.reduceLT,Int.reduceLE,Int.reduceBEq,Int.reduceBNe,Int.reduceAdd,Int.reduceNeg,Int.reduceSub,Int.reduceMul,e0,e2,e3,e4,e6,e11,k0,k2,q1,c2,hv,hsv]
      exact⟨c1,e10⟩
     | true =>
      simp (disch:=omega) only[evX,↓reduceIte,Nat.reduceEqDiff,Nat.reduceBEq,Nat.reduceAdd,Nat.reduceMul,reduceCtorEq,Nat.reduceLeDiff,Int.reduceEq,Int.reduceLT,Int.reduceLE,Int.reduceBEq,Int.reduceBNe,Int.reduceAdd,Int.reduceNeg,Int.reduceSub,Int.reduceMul,e0,e2,e3,e4,e6,e11,k0,k2,q1,c2,hv,hsv]
      refine W_countx dd.slots.length 2 (fun i s=>∃ T lo g' m1 acc,s=⟨T,setM c m1 H,lo,g'⟩∧(lo=H.length∨lo=c.mm)∧T 0=.ref c.mm 0∧T 2=.slice (encBds env) false∧T 4=.int .i64 d∧T 13=.slice (encExs acc) true∧T 14=.int .i64 i ∧
        T 12=.lbox g (encDef dd)∧T 10=exBox 1∧Mid mu i m m1 acc)
       (fun s=>∃ T lo g' m1 acc,s=⟨T,setM c m1 H,lo,g'⟩∧(lo=H.length∨lo=c.mm)∧T 0=.ref c.mm 0∧(∃ o,T 13=.slice (encExs acc) o)∧T 12=.lbox g (encDef dd)∧T 10=exBox 1∧Mid mu 4 m m1 acc)
       (fun _=>False) ?_ ?_ (fun _ h=>h.elim) 0 _ (by omega) ?_
      ·rintro j s hj ⟨T,lo,g',m1,acc,rfl,hlo,e0,e2,e4,e13,e14,e12,e10,hmid⟩
       have hM1:MH c m1 (setM c m1 H):=hM.set
       have hlo':=lo_of hlo hlt
       have hs2:=hc.slots dd hdm
       have e12':=e12
       rw[encDef] at e12'
       by_cases c3:j<dd.slots.length
       ·obtain⟨s,hs⟩:∃ s,dd.slots[j]?=some s:=⟨_,List.getElem?_eq_getElem c3⟩
        have hsm:=List.mem_of_getElem? hs
        have qs:=slots_at hs
        rw[encSlot] at qs
        have hst:=hc.ty dd hdm s hsm
        obtain⟨e,m2,hcall,hpost,hgood⟩:=hS s.ty env (d-1) m1 (setM c m1 H) hM1 (hst.mono h5) hst (hp.sub hmid.lo (by have:=(hmid.le hb (show j≤4 by omega)).hi4;omega) hmid.nm0 hmid.nm (ev.mono hmid.lo) (by omega) (.inl rfl))
        rw[setM_setM] at hcall
        have hal:acc.length≤1000:=by have:=hmid.len;omega
        simp (disch:=omega) only[evX,↓reduceIte,Nat.reduceEqDiff,Nat.reduceBEq,Nat.reduceAdd,Nat.reduceMul,reduceCtorEq,Nat.reduceLeDiff,Int.reduceEq,Int.reduceLT,Int.reduceLE,Int.reduceBEq,Int.reduceBNe,Int.reduceAdd,Int.reduceNeg,Int.reduceSub,Int.reduceMul,e0,e2,e4,e12',e13,e14,slots_len,qs,hcall,hlo',app_ex]
        exact⟨by omega,_,_,_,m2,acc++[e],rfl,.inr rfl,by simp (disch:=omega) only[evX,↓reduceIte,Nat.reduceEqDiff,Nat.reduceBEq,Nat.reduceAdd,Nat.reduceMul,reduceCtorEq,Nat.reduceLeDiff,Int.reduceEq,Int.reduceLT,Int.reduceLE,Int.reduceBEq,Int.reduceBNe,Int.reduceAdd,Int.reduceNeg,Int.reduceSub,Int.reduceMul,e0,e2,e4,e10,e12,encDef];exact hmid.step hpost hgood⟩
       ·simp (disch:=omega) only[evX,↓reduceIte,Nat.reduceEqDiff,Nat.reduceBEq,Nat.reduceAdd,Nat.reduceMul,reduceCtorEq,Nat.reduceLeDiff,Int.reduceEq,Int.reduceLT,Int.reduceLE,Int.reduceBEq,Int.reduceBNe,Int.reduceAdd,Int.reduceNeg,Int.reduceSub,Int.reduceMul,e0,e2,e4,e12',e13,e14,slots_len]
        exact⟨_,_,_,m1,acc,rfl,hlo,e0,⟨_,e13⟩,e12,e10,hmid.le hb (by omega)⟩
      ·rintro s ⟨T,lo,g',m1,acc,rfl,hlo,e0,⟨o,e13⟩,e12,e10,hmid⟩
       have hM1:MH c m1 (setM c m1 H):=hM.set
       have hlo':=lo_of hlo hlt
       have hn:=node_D hM1 3 0 acc ⟨by have:=hmid.lo;omega,by have:=hmid.hi4;omega⟩
       rw[setM_setM,encEx] at hn
       rw[exBox] at e10
       rw[encDef] at e12
       simp (disch:=omega) only[evX,↓reduceIte,Nat.reduceEqDiff,Nat.reduceBEq,Nat.reduceAdd,Nat.reduceMul,reduceCtorEq,Nat.reduceLeDiff,Int.reduceEq,Int.reduceLT,Int.reduceLE,Int.reduceBEq,Int.reduceBNe,Int.reduceAdd,Int.reduceNeg,Int.reduceSub,Int.reduceMul,e0,e12,e10,e13,hn,hlo']
       exact isRes_mk (tks:=none) (ns:=none) (hmid.post hb) (hmid.node t0 (by decide))
      ·exact⟨_,_,_,m,[],by rw[setM_same hM],.inl rfl,by simp (disch:=omega) only[evX,↓reduceIte,Nat.reduceEqDiff,Nat.reduceBEq,Nat.reduceAdd,Nat.reduceMul,reduceCtorEq,Nat.reduceLeDiff,Int.reduceEq,Int.reduceLT,Int.reduceLE,Int.reduceBEq,Int.reduceBNe,Int.reduceAdd,Int.reduceNeg,Int.reduceSub,Int.reduceMul,exs0,e0,e2,e4,e10,encDef,c2];exact Mid.zero n0⟩
   ·simp (disch:=omega) only[evX,↓reduceIte,Nat.reduceEqDiff,Nat.reduceBEq,Nat.reduceAdd,Nat.reduceMul,reduceCtorEq,Nat.reduceLeDiff,Int.reduceEq,Int.reduceLT,Int.reduceLE,Int.reduceBEq,Int.reduceBNe,Int.reduceAdd,Int.reduceNeg,Int.reduceSub,Int.reduceMul,e0,e2,e3,e4,e6,e11,k0,k2,q1,c2]
    exact⟨c1,e10⟩
  ·have:i=c.ds.length:=by omega
   subst this
   simp (disch:=omega) only[evX,↓reduceIte,Nat.reduceEqDiff,Nat.reduceBEq,Nat.reduceAdd,Nat.reduceMul,reduceCtorEq,Nat.reduceLeDiff,Int.reduceEq,Int.reduceLT,Int.reduceLE,Int.reduceBEq,Int.reduceBNe,Int.reduceAdd,Int.reduceNeg,Int.reduceSub,Int.reduceMul,e0,e2,e3,e4,e6,e11,k0,k2]
   exact e10
 ·rintro s hs
  obtain⟨T,g,rfl,e0,e2,e3,e4,e6,e10⟩:=hs.out
  rw[exBox] at e10
  simp (disch:=omega) only[evX,↓reduceIte,Nat.reduceEqDiff,Nat.reduceBEq,Nat.reduceAdd,Nat.reduceMul,reduceCtorEq,Nat.reduceLeDiff,Int.reduceEq,Int.reduceLT,Int.reduceLE,Int.reduceBEq,Int.reduceBNe,Int.reduceAdd,Int.reduceNeg,Int.reduceSub,Int.reduceMul,e0,e2,e3,e4,e6,e10,hop]
  exact isRes_ex hop1 hop2
 ·exact fun s h=>h
 ·simp (disch:=omega) only[evX,↓reduceIte,Nat.reduceEqDiff,Nat.reduceBEq,Nat.reduceAdd,Nat.reduceMul,reduceCtorEq,Nat.reduceLeDiff,Int.reduceEq,Int.reduceLT,Int.reduceLE,Int.reduceBEq,Int.reduceBNe,Int.reduceAdd,Int.reduceNeg,Int.reduceSub,Int.reduceMul,exBox,Int.natCast_zero]
theorem field_D {c:Cx} {mu:Nat} (hc:CxOK c) (hS:SpecE c mu) (hO:SpecG c 46 mu):SpecG c 44 mu:=by
 intro t env x d m H hM ht ht5 hp hx0 hx1 hd
 obtain⟨eo,mo,hop,hop1,hop2⟩:=hO t env x d m H hM ht ht5 hp hx0 hx1 hd
 refine specF_of (t:=t) (env:=env) (x:=x) (d:=d) ?_
 have hb:=bud_pos mu
 simp only[bud] at hp hop1 ⊢
 have hp':=hp
 obtain⟨t0,t1,n0,n1,ev,el',d1,d2,d3⟩:=hp'
 have h5:5≤mu:=by have:=d1 hd;omega
 have hlt:=hM.lt
 have k0:=hM.h0
 have k2:=hM.h2
 rw[encMk] at k0
 have hcl:=hc.len
 simp only[genArgs] at hop
 refine callD_WP (fn:=ir44) rfl rfl rfl ?_
 unfold ir44;dsimp only[oQ,oP,iR,oM,oT,oL,oG,oH,oI,oF,oX,oA,oN,oS,oB,oR,oK,oC,iT,iC,iZ,iE]
 simp (disch:=omega) only[evX,↓reduceIte,Nat.reduceEqDiff,Nat.reduceBEq,Nat.reduceAdd,Nat.reduceMul,reduceCtorEq,Nat.reduceLeDiff,Int.reduceEq,Int.reduceLT,Int.reduceLE,Int.reduceBEq,Int.reduceBNe,Int.reduceAdd,Int.reduceNeg,Int.reduceSub,Int.reduceMul]
 refine W_countx c.ds.length 0 (fun i=>HdG (fun T=>T 0=.ref c.mm 0∧T 2=.slice (encBds env) false∧T 3=.int .i64 x∧T 4=.int .i64 d∧T 6=.lbox 0 [.int .i64 t.kind,.int .i64 t.d.shop,.int .i64 t.d.seq,.int .i64 t.d.index,.slice (encTys t.kids) false]∧T 10=exBox 1∧T 11=.int .i64 i) H H.length)
  (HdG (fun T=>T 0=.ref c.mm 0∧T 2=.slice (encBds env) false∧T 3=.int .i64 x∧T 4=.int .i64 d∧T 6=.lbox 0 [.int .i64 t.kind,.int .i64 t.d.shop,.int .i64 t.d.seq,.int .i64 t.d.index,.slice (encTys t.kids) false]∧T 10=exBox 1) H H.length)
  (fun s=>doneP H.length [.cell 10 true 15] (IsRes c H m mu) .ret s) ?_ ?_ ?_ 0 _ (by omega) ?_
 ·rintro i s hi hs
  obtain⟨T,g,rfl,e0,e2,e3,e4,e6,e10,e11⟩:=hs.out
  by_cases c1:i<c.ds.length
  ·have hz:(c.ds.length:Int)≠0:=by omega
   have hn2:decide ((c.ds.length:Int)=0)=false:=decide_eq_false hz
   obtain⟨k,hk⟩:∃ j:Nat,(x+i) % (c.ds.length:Int)=j:=⟨((x+i) % (c.ds.length:Int)).toNat,by rw[Int.toNat_of_nonneg (Int.emod_nonneg _ hz)]⟩
   have hkl:k<c.ds.length:=by have h7:=Int.emod_lt_of_pos (x+i) (show (0:Int)<c.ds.length by omega);rw[hk] at h7;omega
   obtain⟨dd,hdd⟩:∃ d,c.ds[k]?=some d:=⟨_,List.getElem?_eq_getElem hkl⟩
   have hdm:=List.mem_of_getElem? hdd
   have q1:=def_load hdd
   rw[encDef] at q1
   obtain⟨v,hv⟩:=visible_D hM k hkl hc.ms
   simp (disch:=omega) only[evX,↓reduceIte,Nat.reduceEqDiff,Nat.reduceBEq,Nat.reduceAdd,Nat.reduceMul,reduceCtorEq,Nat.reduceLeDiff,Int.reduceEq,Int.reduceLT,Int.reduceLE,Int.reduceBEq,Int.reduceBNe,Int.reduceAdd,Int.reduceNeg,Int.reduceSub,Int.reduceMul,e0,e2,e3,e4,e6,e11,k0,k2,q1,hn2,hk]
   refine W_countx dd.slots.length 2 (fun j=>HdG (fun T=>T 0=.ref c.mm 0∧T 2=.slice (encBds env) false∧T 3=.int .i64 x∧T 4=.int .i64 d∧T 6=.lbox 0 [.int .i64 t.kind,.int .i64 t.d.shop,.int .i64 t.d.seq,.int .i64 t.d.index,.slice (encTys t.kids) false]∧T 10=exBox 1∧T 11=.int .i64 i∧T 12=.int .i64 k∧T 13=.lbox g (encDef dd)∧T 14=.int .i64 j) H H.length)
    (HdG (fun T=>T 0=.ref c.mm 0∧T 2=.slice (encBds env) false∧T 3=.int .i64 x∧T 4=.int .i64 d∧T 6=.lbox 0 [.int .i64 t.kind,.int .i64 t.d.shop,.int .i64 t.d.seq,.int .i64 t.d.index,.slice (encTys t.kids) false]∧T 10=exBox 1∧T 11=.int .i64 i) H H.length)
    (fun s=>doneP H.length [.cell 10 true 15] (IsRes c H m mu) .ret s) ?_ ?_ ?_ 0 _ (by omega) ?_
   ·rintro j s hj hs
    obtain⟨T,g',rfl,e0,e2,e3,e4,e6,e10,e11,e12,e13,e14⟩:=hs.out
    have hs2:=hc.slots dd hdm
    have e13':=e13
    rw[encDef] at e13'
    by_cases c3:j<dd.slots.length
    ·obtain⟨s,hs⟩:∃ s,dd.slots[j]?=some s:=⟨_,List.getElem?_eq_getElem c3⟩
     have hsm:=List.mem_of_getElem? hs
     have qs:=slots_at hs
     rw[encSlot] at qs
     have hst:=hc.ty dd hdm s hsm
     by_cases c4:dd.kind=0
     ·cases v with
      | false =>
       simp (disch:=omega) only[evX,↓reduceIte,Nat.reduceEqDiff,Nat.reduceBEq,Nat.reduceAdd,Nat.reduceMul,reduceCtorEq,Nat.reduceLeDiff,Int.reduceEq,Int.reduceLT,Int.reduceLE,Int.reduceBEq,Int.reduceBNe,Int.reduceAdd,Int.reduceNeg,Int.reduceSub,Int.reduceMul,e0,e2,e3,e4,e6,e11,e12,e13',e14,slots_len,c4,hv]
       exact e10
      | true =>
       obtain⟨sv,hsv⟩:=sameType_D _ s.ty t H (Nat.lt_succ_self _) hst.len
       rw[encTy_eq,encTy_eq] at hsv
       cases sv with
       | false =>
        simp (disch:=omega) only[evX,↓reduceIte,Nat.reduceEqDiff,Nat.reduceBEq,Nat.reduceAdd,Nat.reduceMul,reduceCtorEq,Nat.reduceLeDiff,Int.reduceEq,Int.reduceLT,Int.reduceLE,Int.reduceBEq,Int.reduceBNe,Int.reduceAdd,Int.reduceNeg,Int.reduceSub,Int.reduceMul,e0,e2,e3,e4,e6,e11,e12,e13',e14,slots_len,c4,hv,qs,hsv]
        exact⟨c3,e10,by rw[encDef,c4]⟩
       | true =>
        have hof:=of_D dd.id H
        have hto:=hc.tof dd hdm (.inl c4)
        obtain⟨e,m1,hcall,hpost,hgood⟩:=hS (tOf dd.id) env (d-1) m H hM (hto.mono h5) hto (hp.sub (by omega) (by omega) n0 (by omega) ev (by omega) (.inl rfl))
        have hmid:=((Mid.zero (mu:=mu) n0).step hpost hgood).le hb (show 1≤4 by omega)
        have hn:=node_D (hM.set (m':=m1)) 8 j [e] ⟨by have:=hmid.lo;omega,by have:=hmid.hi4;omega⟩
        rw[setM_setM,encEx,exs1] at hn
        simp only[exprArgs,tOf,Ty.kind,Ty.d,Ty.kids,encTys] at hcall
        simp only[tOf,encTy,encTys,encId] at hof
        rw[exBox] at e10
        simp (disch:=omega) only[evX,↓reduceIte,Nat.reduceEqDiff,Nat.reduceBEq,Nat.reduceAdd,Nat.reduceMul,reduceCtorEq,Nat.reduceLeDiff,Int.reduceEq,Int.reduceLT,Int.reduceLE,Int.reduceBEq,Int.reduceBNe,Int.reduceAdd,Int.reduceNeg,Int.reduceSub,Int.reduceMul,e0,e2,e3,e4,e6,e10,e11,e12,e13',e14,slots_len,c4,hv,qs,hsv,hof,hcall,hn]
        rw[← exs1]
        exact isRes_mk (tks:=none) (ns:=none) (hmid.post hb) (hmid.node t0 (by decide))
     ·simp (disch:=omega) only[evX,↓reduceIte,Nat.reduceEqDiff,Nat.reduceBEq,Nat.reduceAdd,Nat.reduceMul,reduceCtorEq,Nat.reduceLeDiff,Int.reduceEq,Int.reduceLT,Int.reduceLE,Int.reduceBEq,Int.reduceBNe,Int.reduceAdd,Int.reduceNeg,Int.reduceSub,Int.reduceMul,e0,e2,e3,e4,e6,e11,e12,e13',e14,slots_len,c4]
      exact e10
    ·simp (disch:=omega) only[evX,↓reduceIte,Nat.reduceEqDiff,Nat.reduceBEq,Nat.reduceAdd,Nat.reduceMul,reduceCtorEq,Nat.reduceLeDiff,Int.reduceEq,Int.reduceLT,Int.reduceLE,Int.reduceBEq,Int.reduceBNe,Int.reduceAdd,Int.reduceNeg,Int.reduceSub,Int.reduceMul,e0,e2,e3,e4,e6,e11,e12,e13',e14,slots_len]
     exact e10
   ·rintro s hs
    obtain⟨T,g',rfl,e0,e2,e3,e4,e6,e10,e11⟩:=hs.out
    simp (disch:=omega) only[evX,↓reduceIte,Nat.reduceEqDiff,Nat.reduceBEq,Nat.reduceAdd,Nat.reduceMul,reduceCtorEq,Nat.reduceLeDiff,Int.reduceEq,Int.reduceLT,Int.reduceLE,Int.reduceBEq,Int.reduceBNe,Int.reduceAdd,Int.reduceNeg,Int.reduceSub,Int.reduceMul,e0,e2,e3,e4,e6,e11]
    exact⟨c1,e10⟩
   ·exact fun s h=>h
   ·simp (disch:=omega) only[evX,↓reduceIte,Nat.reduceEqDiff,Nat.reduceBEq,Nat.reduceAdd,Nat.reduceMul,reduceCtorEq,Nat.reduceLeDiff,Int.reduceEq,Int.reduceLT,Int.reduceLE,Int.reduceBEq,Int.reduceBNe,Int.reduceAdd,Int.reduceNeg,Int.reduceSub,Int.reduceMul,e0,e2,e3,e4,e6,e10,e11,encDef,Int.natCast_zero]
  ·have:i=c.ds.length:=by omega
   subst this
   simp (disch:=omega) only[evX,↓reduceIte,Nat.reduceEqDiff,Nat.reduceBEq,Nat.reduceAdd,Nat.reduceMul,reduceCtorEq,Nat.reduceLeDiff,Int.reduceEq,Int.reduceLT,Int.reduceLE,Int.reduceBEq,Int.reduceBNe,Int.reduceAdd,Int.reduceNeg,Int.reduceSub,Int.reduceMul,e0,e2,e3,e4,e6,e11,k0,k2]
   exact e10
 ·rintro s hs
  obtain⟨T,g,rfl,e0,e2,e3,e4,e6,e10⟩:=hs.out
  rw[exBox] at e10
  simp (disch:=omega) only[evX,↓reduceIte,Nat.reduceEqDiff,Nat.reduceBEq,Nat.reduceAdd,Nat.reduceMul,reduceCtorEq,Nat.reduceLeDiff,Int.reduceEq,Int.reduceLT,Int.reduceLE,Int.reduceBEq,Int.reduceBNe,Int.reduceAdd,Int.reduceNeg,Int.reduceSub,Int.reduceMul,e0,e2,e3,e4,e6,e10,hop]
  exact isRes_ex hop1 hop2
 ·exact fun s h=>h
 ·simp (disch:=omega) only[evX,↓reduceIte,Nat.reduceEqDiff,Nat.reduceBEq,Nat.reduceAdd,Nat.reduceMul,reduceCtorEq,Nat.reduceLeDiff,Int.reduceEq,Int.reduceLT,Int.reduceLE,Int.reduceBEq,Int.reduceBNe,Int.reduceAdd,Int.reduceNeg,Int.reduceSub,Int.reduceMul,exBox,Int.natCast_zero]
end Go.Proofs.YtemfofdaemgjgaaGreatDoor
end
section
set_option linter.unusedSimpArgs false
set_option linter.unusedVariables false
set_option maxRecDepth 100000
namespace Go.Proofs.YtemfofdaemgjgaaGreatDoor
open Go Go.Abs Go.Proofs
structure MidM (mu:Nat) (i:Nat) (i0:Int) (m m1:Mk) (acc:List Ex):Prop where
 lo:m.temp≤i0
 lt:i0<m1.temp
 hi:m1.temp≤m.temp+((i+1:Nat):Int)*bud mu+1
 own:m1.own=m.own
 home:m1.home=m.home
 nm0:0≤m1.name
 nm:m1.name+4≤m.name+4*(m1.temp-m.temp)+i
 len:acc.length≤i+1
 good:∀ e∈acc,GoodE m1.temp mu e
theorem MidM.zero {mu:Nat} {m m1:Mk} {e:Ex} {l:Int} (hp:Post (bud mu) m m1) (hg:GoodE m1.temp mu e):MidM mu 0 m1.temp m { m1 with temp:=m1.temp+1,left:=l } [e]:=by
 obtain⟨p1,p2,p3,p4,p5,p6⟩:=hp
 exact⟨by omega,by simp only;omega,by simp only;omega,p3,p4,p5,by simp only;omega,by simp,fun x hx=>by rw[List.mem_singleton.1 hx];exact hg.mono (by simp only;omega)⟩
theorem MidM.step {mu:Nat} {i0:Int} {i:Nat} {m m1 m2:Mk} {acc:List Ex} {e:Ex} (h:MidM mu i i0 m m1 acc) (hp:Post (bud mu) m1 m2) (hg:GoodE m2.temp mu e):MidM mu (i+1) i0 m { m2 with name:=m2.name+1 } (acc++[e]):=by
 obtain⟨a1,a2,a3,a4,a5,a6,a7,a8,a9⟩:=h
 obtain⟨p1,p2,p3,p4,p5,p6⟩:=hp
 refine⟨by omega,by simp only;omega,?_,p3.trans a4,p4.trans a5,by simp only;omega,by simp only;omega,by simp;omega,fun x hx=>?_⟩
 ·have:((i+1+1:Nat):Int)*bud mu=((i+1:Nat):Int)*bud mu+bud mu:=by rw[Int.natCast_add,Int.add_mul];simp
  simp only
  omega
 ·rcases List.mem_append.1 hx with hx|hx
  ·exact (a9 x hx).mono (by simp only;omega)
  ·rw[List.mem_singleton.1 hx];exact hg
theorem MidM.hi4 {mu:Nat} {i0:Int} {i:Nat} {m m1:Mk} {acc:List Ex} (hb:1≤bud mu) (h:MidM mu i i0 m m1 acc) (hi:i≤3):m1.temp≤m.temp+4*bud mu+1:=by
 have:=h.hi
 have h2:=Int.mul_le_mul_of_nonneg_right (show ((i+1:Nat):Int)≤4 by omega) (show 0≤bud mu by omega)
 omega
theorem MidM.hi3 {mu:Nat} {i0:Int} {i:Nat} {m m1:Mk} {acc:List Ex} (hb:1≤bud mu) (h:MidM mu i i0 m m1 acc) (hi:i<3):m1.temp≤m.temp+3*bud mu+1:=by
 have:=h.hi
 have h2:=Int.mul_le_mul_of_nonneg_right (show ((i+1:Nat):Int)≤3 by omega) (show 0≤bud mu by omega)
 omega
theorem MidM.post {mu:Nat} {i0:Int} {i:Nat} {m m1:Mk} {acc:List Ex} (hb:1≤bud mu) (h:MidM mu i i0 m m1 acc) (hi:i≤3):Post (5*bud mu) m m1:=by
 have:=h.hi4 hb hi
 obtain⟨a1,a2,a3,a4,a5,a6,a7,a8,a9⟩:=h
 exact⟨by omega,by omega,a4,a5,a6,by omega⟩
def NamesC (i:Nat) (v:AV):Prop:=v=.nilsl∨∃ ns:List Str,v=.slice (strs ns) true∧ns.length≤i
theorem match_D {c:Cx} {mu:Nat} (hc:CxOK c) (hS:SpecE c mu) (hO:SpecG c 46 mu):SpecG c 43 mu:=by
 intro t env x d m H hM ht ht5 hp hx0 hx1 hd
 obtain⟨eo,mo,hop,hop1,hop2⟩:=hO t env x d m H hM ht ht5 hp hx0 hx1 hd
 refine specF_of (t:=t) (env:=env) (x:=x) (d:=d) ?_
 have hb:=bud_pos mu
 simp only[bud] at hp hop1 ⊢
 have hp':=hp
 obtain⟨t0,t1,n0,n1,ev,el',d1,d2,d3⟩:=hp'
 have h5:5≤mu:=by have:=d1 hd;omega
 have hlt:=hM.lt
 have k0:=hM.h0
 have k2:=hM.h2
 rw[encMk] at k0
 have hcl:=hc.len
 simp only[genArgs] at hop
 obtain⟨z,hz,hz'⟩:=ofK_D hM 1 x ⟨hx0,by omega⟩ hc.ms hc.len
 refine callD_WP (fn:=ir43) rfl rfl rfl ?_
 unfold ir43;dsimp only[oQ,oP,iR,oM,oT,oL,oG,oH,oI,oF,oX,oA,oN,oS,oB,oR,oK,oC,iT,iC,iZ,iE]
 rcases hz' with rfl|⟨k,dd,rfl,hdd,hk⟩
 ·simp (disch:=omega) only[evX,↓reduceIte,Nat.reduceEqDiff,Nat.reduceBEq,Nat.reduceAdd,Nat.reduceMul,reduceCtorEq,Nat.reduceLeDiff,Int.reduceEq,Int.reduceLT,Int.reduceLE,Int.reduceBEq,Int.reduceBNe,Int.reduceAdd,Int.reduceNeg,Int.reduceSub,Int.reduceMul,hz,hop]
  exact isRes_ex hop1 hop2
 ·have hdm:=List.mem_of_getElem? hdd
  have hkl:=(List.getElem?_eq_some_iff.1 hdd).1
  have q1:=def_load hdd
  rw[encDef] at q1
  have hof:=of_D dd.id H
  have hto:=hc.tof dd hdm (.inr hk)
  have hs2:=hc.slots dd hdm
  obtain⟨e1,m1,hcall,hpost,hgood⟩:=hS (tOf dd.id) env (d-2) m H hM (hto.mono h5) hto (hp.sub (by omega) (by omega) n0 (by omega) ev (by omega) (.inr rfl))
  have hn:=node_D (hM.set (m':=m1)) 10 0 [] ⟨by have:=hpost.lt;omega,by have:=hpost.le;omega⟩
  rw[setM_setM,encEx,exs0] at hn
  simp only[exprArgs,tOf,Ty.kind,Ty.d,Ty.kids,encTys] at hcall
  simp only[tOf,encTy,encTys,encId] at hof
  simp (disch:=omega) only[evX,↓reduceIte,Nat.reduceEqDiff,Nat.reduceBEq,Nat.reduceAdd,Nat.reduceMul,reduceCtorEq,Nat.reduceLeDiff,Int.reduceEq,Int.reduceLT,Int.reduceLE,Int.reduceBEq,Int.reduceBNe,Int.reduceAdd,Int.reduceNeg,Int.reduceSub,Int.reduceMul,hz,k0,k2,q1,hof,hcall,hn]
  refine W_countx dd.slots.length 0 (fun i s=>∃ T g m2 acc nm,s=⟨T,setM c m2 H,c.mm,g⟩∧T 0=.ref c.mm 0∧T 2=.slice (encBds env) false∧T 4=.int .i64 d∧T 6=.lbox 0 [.int .i64 t.kind,.int .i64 t.d.shop,.int .i64 t.d.seq,.int .i64 t.d.index,.slice (encTys t.kids) false] ∧
    T 13=.slice (encExs acc) true∧T 15=.int .i64 i∧T 12=.lbox 2 (encDef dd)∧T 10=exBox 1∧NamesC i nm ∧
    T 14=.lbox 3 [.int .i64 0,.int .i64 0,.int .i64 m1.temp,.int .i64 10,.int .i64 0,.int .i64 dd.id.shop,.int .i64 dd.id.seq,.int .i64 dd.id.index,.int .i64 0,.int .i64 0,.int .i64 0,.int .i64 0,.nilsl,.slice [] false,nm]∧MidM mu i m1.temp m m2 acc)
   (fun s=>∃ T g m2 acc nm,s=⟨T,setM c m2 H,c.mm,g⟩∧T 0=.ref c.mm 0∧(∃ o,T 13=.slice (encExs acc) o)∧T 10=exBox 1∧NamesC 3 nm ∧
    T 14=.lbox 3 [.int .i64 0,.int .i64 0,.int .i64 m1.temp,.int .i64 10,.int .i64 0,.int .i64 dd.id.shop,.int .i64 dd.id.seq,.int .i64 dd.id.index,.int .i64 0,.int .i64 0,.int .i64 0,.int .i64 0,.nilsl,.slice [] false,nm]∧MidM mu dd.slots.length m1.temp m m2 acc)
   (fun _=>False) ?_ ?_ (fun _ h=>h.elim) 0 _ (by omega) ?_
  ·rintro i s hi ⟨T,g,m2,acc,nm,rfl,e0,e2,e4,e6,e13,e15,e12,e10,hnm,e14,hmid⟩
   have hM2:MH c m2 (setM c m2 H):=hM.set
   have e12':=e12
   rw[encDef] at e12'
   by_cases c3:i<dd.slots.length
   ·obtain⟨s,hs⟩:∃ s,dd.slots[i]?=some s:=⟨_,List.getElem?_eq_getElem c3⟩
    have hsm:=List.mem_of_getElem? hs
    have qs:=slots_at hs
    rw[encSlot] at qs
    have hst:=hc.ty dd hdm s hsm
    have hw:=with_D env ⟨⟨0,0,m1.temp⟩,i,s.ty⟩ (setM c m2 H) (by omega)
    rw[encBd] at hw
    have hh3:=hmid.hi3 hb (by omega)
    have hlo:=hmid.lo
    have hlt2:=hmid.lt
    have hnm1:=hmid.nm
    have hnm0:=hmid.nm0
    have hev2:EnvOK c m2.temp (env++[⟨⟨0,0,m1.temp⟩,i,s.ty⟩]):=(ev.mono (by omega)).snoc hst (fun _=>⟨by simp only;omega,by simp only;omega⟩)
    obtain⟨e,m3,hcall2,hpost2,hgood2⟩:=hS t (env++[⟨⟨0,0,m1.temp⟩,i,s.ty⟩]) (d-1) m2 (setM c m2 H) hM2 (ht5.mono h5) ht5 (hp.sub (by omega) (by omega) hmid.nm0 (by omega) hev2 (by simp) (.inl rfl))
    rw[setM_setM] at hcall2
    simp only[exprArgs] at hcall2
    obtain⟨sn,hsn⟩:=name_D (hM.set (m':=m3)) ⟨hpost2.nm0,by have:=hpost2.nm;have:=hpost2.le;omega⟩
    rw[setM_setM] at hsn
    have hal:acc.length≤1000:=by have:=hmid.len;omega
    have hstep:=hmid.step hpost2 hgood2
    rcases hnm with rfl|⟨ns,rfl,hns⟩
    ·simp (disch:=omega) only[evX,↓reduceIte,Nat.reduceEqDiff,Nat.reduceBEq,Nat.reduceAdd,Nat.reduceMul,reduceCtorEq,Nat.reduceLeDiff,Int.reduceEq,Int.reduceLT,Int.reduceLE,Int.reduceBEq,Int.reduceBNe,Int.reduceAdd,Int.reduceNeg,Int.reduceSub,Int.reduceMul,e0,e2,e4,e6,e12',e13,e14,e15,slots_len,qs,hw,hcall2,hsn,app_ex,loadAV,takenAt,List.modify_succ_cons,List.modify_zero_cons,loadCellsAV]
     exact⟨by omega,_,_,_,acc++[e],.slice (strs [sn]) true,rfl,by simp (disch:=omega) only[evX,↓reduceIte,Nat.reduceEqDiff,Nat.reduceBEq,Nat.reduceAdd,Nat.reduceMul,reduceCtorEq,Nat.reduceLeDiff,Int.reduceEq,Int.reduceLT,Int.reduceLE,Int.reduceBEq,Int.reduceBNe,Int.reduceAdd,Int.reduceNeg,Int.reduceSub,Int.reduceMul,e0,e2,e4,e6,e10,e12',encDef];exact⟨.inr ⟨[sn],rfl,by simp⟩,hstep⟩⟩
    ·simp (disch:=omega) only[evX,↓reduceIte,Nat.reduceEqDiff,Nat.reduceBEq,Nat.reduceAdd,Nat.reduceMul,reduceCtorEq,Nat.reduceLeDiff,Int.reduceEq,Int.reduceLT,Int.reduceLE,Int.reduceBEq,Int.reduceBNe,Int.reduceAdd,Int.reduceNeg,Int.reduceSub,Int.reduceMul,e0,e2,e4,e6,e12',e13,e14,e15,slots_len,qs,hw,hcall2,hsn,app_ex,app_str,loadAV,takenAt,List.modify_succ_cons,List.modify_zero_cons,loadCellsAV]
     exact⟨by omega,_,_,_,acc++[e],.slice (strs (ns++[sn])) true,rfl,by simp (disch:=omega) only[evX,↓reduceIte,Nat.reduceEqDiff,Nat.reduceBEq,Nat.reduceAdd,Nat.reduceMul,reduceCtorEq,Nat.reduceLeDiff,Int.reduceEq,Int.reduceLT,Int.reduceLE,Int.reduceBEq,Int.reduceBNe,Int.reduceAdd,Int.reduceNeg,Int.reduceSub,Int.reduceMul,e0,e2,e4,e6,e10,e12',encDef];exact⟨.inr ⟨ns++[sn],rfl,by simp;omega⟩,hstep⟩⟩
   ·have:i=dd.slots.length:=by omega
    subst this
    simp (disch:=omega) only[evX,↓reduceIte,Nat.reduceEqDiff,Nat.reduceBEq,Nat.reduceAdd,Nat.reduceMul,reduceCtorEq,Nat.reduceLeDiff,Int.reduceEq,Int.reduceLT,Int.reduceLE,Int.reduceBEq,Int.reduceBNe,Int.reduceAdd,Int.reduceNeg,Int.reduceSub,Int.reduceMul,e0,e2,e4,e12',e13,e14,e15,slots_len]
    exact⟨_,_,m2,acc,nm,rfl,e0,⟨_,e13⟩,e10,by rcases hnm with h|⟨ns,h1,h2⟩;exact .inl h;exact .inr ⟨ns,h1,by omega⟩,e14,hmid⟩
  ·rintro s ⟨T,g,m2,acc,nm,rfl,e0,⟨o,e13⟩,e10,hnm,e14,hmid⟩
   rw[exBox] at e10
   have hg:∀ ns,GoodE m2.temp (mu+1) (.mk ⟨0,0,m1.temp⟩ 10 0 dd.id 0 ⟨0,0,0⟩ none acc ns):=fun ns=>good_node ⟨by have:=hmid.lo;omega,hmid.lt⟩ (by decide) (by have:=hmid.len;omega) hmid.good
   rcases hnm with rfl|⟨ns,rfl,hns⟩
   ·simp (disch:=omega) only[evX,↓reduceIte,Nat.reduceEqDiff,Nat.reduceBEq,Nat.reduceAdd,Nat.reduceMul,reduceCtorEq,Nat.reduceLeDiff,Int.reduceEq,Int.reduceLT,Int.reduceLE,Int.reduceBEq,Int.reduceBNe,Int.reduceAdd,Int.reduceNeg,Int.reduceSub,Int.reduceMul,e0,e10,e13,e14]
    exact isRes_mk (tks:=none) (ns:=none) (hmid.post hb hs2) (hg none)
   ·simp (disch:=omega) only[evX,↓reduceIte,Nat.reduceEqDiff,Nat.reduceBEq,Nat.reduceAdd,Nat.reduceMul,reduceCtorEq,Nat.reduceLeDiff,Int.reduceEq,Int.reduceLT,Int.reduceLE,Int.reduceBEq,Int.reduceBNe,Int.reduceAdd,Int.reduceNeg,Int.reduceSub,Int.reduceMul,e0,e10,e13,e14]
    exact isRes_mk (tks:=none) (ns:=some ns) (hmid.post hb hs2) (hg (some ns))
  ·exact⟨_,_,_,[e1],.nilsl,rfl,by simp (disch:=omega) only[evX,↓reduceIte,Nat.reduceEqDiff,Nat.reduceBEq,Nat.reduceAdd,Nat.reduceMul,reduceCtorEq,Nat.reduceLeDiff,Int.reduceEq,Int.reduceLT,Int.reduceLE,Int.reduceBEq,Int.reduceBNe,Int.reduceAdd,Int.reduceNeg,Int.reduceSub,Int.reduceMul,exs1,exBox,encDef];exact⟨.inl rfl,rfl,MidM.zero hpost hgood⟩⟩
end Go.Proofs.YtemfofdaemgjgaaGreatDoor
end
