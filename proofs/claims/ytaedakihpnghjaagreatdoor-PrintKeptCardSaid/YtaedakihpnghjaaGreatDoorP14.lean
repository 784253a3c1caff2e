/-
  A part of the proof of PrintKept: AbsNon, AbsAll, AbsMemo.
-/
import Derived.Test.YtaedakihpnghjaaGreatDoorP13
set_option linter.unusedSimpArgs false
set_option linter.unusedVariables false
section
namespace Go.Abs
set_option linter.unusedSimpArgs false
set_option linter.unusedVariables false
def nextOf (o:IOper):Option Nat :=
 match o.op,o.guard with
 | .next (.tmp t),none=>some t
 | _,_=>none
section
variable (G:Nat→List AV) (cf:CallF)
def wnOps:List IOper→AS→(AS→Prop)→Prop
 | [],s,Q=>Q s
 | o :: r,s,Q=>match nextOf o with
  | some t=>∃ g kz ka va cur todo,s.T t=.iter g kz ka va cur todo∧(todo=[]→wnOps r (s.putD o.dst (.tuple [.bool false])) Q) ∧
    ∀ q rest,todo.Perm (q :: rest)→wnOps r ((s.setT t (.iter g kz ka va q rest)).putD o.dst (.tuple [.bool true,entV ka (q.take kz),entV va (q.drop kz)])) Q
  | none=>∃ s',evOper G cf false s o=some s'∧wnOps r s' Q
inductive BT where
 | leaf (v:AV)
 | node (l r:BT)
def BT.of (f:AFrame):Nat→Nat→BT
 | 0,o=>.leaf (f o)
 | k+1,o=>.node (BT.of f k o) (BT.of f k (o+2 ^ k))
def BT.get:BT→Nat→Nat→AV
 | .leaf v,_,_=>v
 | .node _ _,0,_=>.undef
 | .node l r,k+1,i=>cond (Nat.blt i (2 ^ k)) (BT.get l k i) (BT.get r k (i-2 ^ k))
def depT (nt:Nat):Nat:=Nat.log2 nt+1
def tabT (nt:Nat) (t:BT):AFrame:=fun i=>cond (Nat.blt i nt) (BT.get t (depT nt) i) .undef
def canonS (nt:Nat) (s:AS):AS:={ s with T:=tabT nt (BT.of s.T (depT nt) 0) }
def readyA (pre:List (List Nat)) (L:Array Bool):List Nat:=(List.range pre.length).filter fun i=>!L.getD i true&&(pre.getD i []).all fun j=>L.getD j false
def anyW (nt:Nat) (ops:List IOper) (pre:List (List Nat)):Nat→Array Bool→AS→(AS→Prop)→Prop
 | 0,L,s,Q=>readyA pre L=[]∧Q s
 | n+1,L,s,Q=>(readyA pre L=[]→Q s)∧∀ i∈readyA pre L,∃ o s',ops[i]?=some o∧evOper G cf false s o=some s'∧anyW nt ops pre n (L.setIfInBounds i true) (canonS nt s') Q
def iterW (F:AS→(IExit→AS→Prop)→Prop):Nat→AS→(IExit→AS→Prop)→Prop
 | 0,_,_=>False
 | n+1,s,Q=>F s (andThen (fun s'=>iterW F n s' Q) Q)
def WN:ICode→AS→(IExit→AS→Prop)→Prop
 | .skip,s,Q=>Q .normal s
 | .region false ops,s,Q=>wnOps G cf ops s (Q .normal)
 | .region true ops,s,Q=>∃ s',evOps G cf true ops s=some s'∧Q .normal s'
 | .seq a b,s,Q=>WN a s (andThen (fun s'=>WN b s' Q) Q)
 | .cond c a b,s,Q=>∃ t,c.eval G s.T=.bool t∧(t=true→WN a s Q)∧(t=false→WN b s Q)
 | .block id a,s,Q=>WN a s (leave id Q)
 | .loop a,s,Q=>∃ n,iterW (WN a) n s Q
 | .exit id,s,Q=>Q (.exit id) s
 | .ret,s,Q=>Q .ret s
 | .anyr nt ops pre,s,Q=>anyW G cf nt ops pre ops.length (Array.replicate ops.length false) (canonS nt s) (Q .normal)
end
section
variable {P:Program} {G:Nat→List AV} {base nt:Nat} {gh:Gh} {w w' : World} {a:Act} {s:AS} {H:AHeap} {L:List Nat}
theorem nextOf_inv {o:IOper} {t:Nat} (h:nextOf o=some t):o.op=.next (.tmp t)∧o.guard=none:=by
 unfold nextOf at h
 split at h
 ·rename_i h1 h2
  injection h with h
  subst h
  exact⟨h1,h2⟩
 ·cases h
def NN (x:Option IOp):Prop:=∀ it,x≠some (.next it)
theorem NN.none:NN none:=fun _ h=>by cases h
theorem NN.bind {α:Type} {x:Option α} {f:α→Option IOp} (h:∀ a,NN (f a)):NN (x.bind f):=by
 cases x with
 | none=>exact NN.none
 | some a=>exact h a
theorem NN.map {α:Type} {x:Option α} {f:α→IOp} (h:∀ a,NN (some (f a))):NN (x.map f):=by
 cases x with
 | none=>exact NN.none
 | some a=>exact h a
theorem NN.cond {b:Bool} {x y:Option IOp} (h1:NN x) (h2:NN y):NN (bif b then x else y):=by cases b<;>assumption
theorem NN.condI {b:Bool} {x y:IOp} (h1:NN (some x)) (h2:NN (some y)):NN (some (bif b then x else y)):=by cases b<;>assumption
theorem NN.give {takes:List Nat} {d:Option Nat} {g:IArg} {ys:List IArg} : NN (some (compGive takes d g ys)):=by
 rcases compGive_inv takes d g ys with h|⟨n,pre,x,post,_,_,h⟩<;>(rw[h];exact fun _ h=>by cases h)
theorem compCall_next {takes locals muts:List Nat} {d:Option Nat} {c:Call} : NN (compCall P takes locals muts nt d c):=by
 unfold compCall
 repeat' first
  | exact NN.give
  | exact NN.none
  | exact fun _ h=>by cases h
  | refine NN.bind fun _=>?_
  | refine NN.map fun _=>?_
  | refine NN.cond ?_ ?_
  | refine NN.condI ?_ ?_
  | split
theorem compOp_next {takes locals muts:List Nat} {d:Option Nat} {o:Op} {x:IArg} (h:compOp P takes locals muts nt d o=some (.next x)):∃ y,o=.next y false∧compArg nt y=some x:=by
 have key:(∀ y b,o≠.next y b)→NN (compOp P takes locals muts nt d o):=by
  intro hn
  cases o
  case makeMap t r =>
   cases r with
   | none=>simp only[compOp];exact NN.map fun _ _ h=>by cases h
   | some r=>simp only[compOp];exact NN.none
  all_goals simp only[compOp]
  all_goals first
   | exact absurd rfl (hn _ _)
   | exact compCall_next
   | (repeat' first
     | exact NN.none
     | exact fun _ h=>by cases h
     | refine NN.bind fun _=>?_
     | refine NN.map fun _=>?_
     | refine NN.cond ?_ ?_
     | refine NN.condI ?_ ?_
     | split)
 by_cases hn:∀ y b,o≠.next y b
 ·exact absurd h (key hn x)
 ·have:∃ y b,o=.next y b:=by
   refine Classical.byContradiction fun hc=>hn fun y b e=>hc ⟨y,b,e⟩
  obtain⟨y,b,rfl⟩:=this
  cases b with
  | true=>simp[compOp] at h
  | false =>
   simp only[compOp,Option.map_eq_some_iff,IOp.next.injEq] at h
   obtain⟨z,hz,rfl⟩:=h
   exact⟨y,rfl,hz⟩
theorem wn_ops_sound {cf:CallF} (hcf:CallsSound P G cf) {H0:AHeap} {gh0:Gh} {w0:World} {takes locals muts:List Nat} {ops:Array Oper} (hLl:∀ x,x∈locals→x∈L) (hLm:∀ x,x∈muts→x∈L) (Q:Exit→Act→World→Prop) (R:AS→Prop)
  (hR:∀ s' a' gh' w',R s'→Inv G base nt L H0 gh0 w0 s' gh' w' a'→Q .normal a' w') :
  ∀ (l:List Oper) (is:List IOper) (s:AS) (gh:Gh) (w:World) (a:Act),Inv G base nt L H0 gh0 w0 s gh w a→compOpers P takes locals muts nt ops l=some is→wnOps G cf is s R→wpList P ops Q l a w
 | [],is,s,gh,w,a,hI,hc,he=>by
  simp only[compOpers,Option.some.injEq] at hc
  subst hc
  exact hR s a gh w he hI
 | o :: l,is,s,gh,w,a,hI,hc,he=>by
  simp only[compOpers,Option.bind_eq_some_iff,Option.map_eq_some_iff] at hc
  obtain⟨io,hio,is',his,rfl⟩:=hc
  unfold wnOps at he
  unfold wpList
  have hinv:=compOper_inv hio
  cases hn:nextOf io with
  | none =>
   rw[hn] at he
   obtain⟨s1,h1,h2⟩:=he
   rw[evOper_val,Option.map_eq_some_iff] at h1
   obtain⟨⟨z,s2⟩,hz,rfl⟩:=h1
   refine oper_step hcf hI hio hLl hLm hz _ Q (fun a' gh' w' hI'=>?_)
   rw[hinv.2.2.1] at h2
   exact wn_ops_sound hcf hLl hLm Q R hR l is' _ gh' w' a' hI' his h2
  | some t =>
   rw[hn] at he
   obtain⟨g,kz,ka,va,cur,todo,hT,h0,h1⟩:=he
   obtain⟨hop,hgd⟩:=nextOf_inv hn
   rw[hop] at hinv
   obtain⟨y,hoy,hcy⟩:=compOp_next hinv.1
   have hog:o.guard=none:=by
    have hg:=hinv.2.1
    rw[hgd] at hg
    cases hgo:o.guard with
    | none=>rfl
    | some jw =>
     obtain⟨j,want⟩:=jw
     rw[hgo] at hg
     simp only[compGuard,Option.bind_eq_some_iff] at hg
     obtain⟨_,_,hg⟩:=hg
     obtain⟨_,hg⟩:=cond_some hg
     cases hg
   have hw:Region.wanted o (yielded ops a.tmps)=true:=by simp[Region.wanted,hog]
   rw[if_pos hw]
   have htL:t∈L:=hI.F.obj t (by rw[hT];rfl)
   refine .inl (ev_next hI.W hI.F hoy hcy hT htL hinv.2.2.2 _ Q (fun hnil v' gh' w' hO=>?_) (fun q rest hp v' gh' w' hO=>?_))
   ·have:=h0 hnil
    rw[hinv.2.2.1] at this
    exact wn_ops_sound hcf hLl hLm Q R hR l is' _ gh' w' _ (hI.out hO hI.lo) his this
   ·have:=h1 q rest hp
    rw[hinv.2.2.1] at this
    exact wn_ops_sound hcf hLl hLm Q R hR l is' _ gh' w' _ (hI.out hO (hI.lo.same_HL rfl rfl)) his this
theorem wnOps_plain {cf:CallF} : ∀ (l:List IOper) (s:AS) (Q:AS→Prop),(∀ o,o∈l→nextOf o=none)→wnOps G cf l s Q→∃ s',evOps G cf false l s=some s'∧Q s'
 | [],s,Q,_,h=>⟨s,rfl,h⟩
 | o :: l,s,Q,hn,h=>by
  have ho:=hn o List.mem_cons_self
  unfold wnOps at h
  rw[ho] at h
  obtain⟨s1,h1,h⟩:=h
  obtain⟨s2,h2,h3⟩:=wnOps_plain l s1 Q (fun o ho=>hn o (List.mem_cons_of_mem _ ho)) h
  exact⟨s2,by simp only[evOps,h1,Option.bind_some,h2],h3⟩
theorem mask_plain (M:List Nat):∀ o,o∈maskOps M→nextOf o=none:=by
 intro o ho
 simp only[maskOps,List.mem_flatMap,List.mem_cons,List.not_mem_nil,or_false] at ho
 obtain⟨d,_,rfl|rfl⟩:=ho<;>rfl
theorem onlyA_plain (is:List IOper):∀ o,o∈onlyA is→nextOf o=none:=by
 intro o ho
 obtain⟨d,hd⟩:=Option.isSome_iff_exists.1 (List.mem_filter.1 ho).2
 rw[slotA_inv hd];rfl
theorem onlyS_plain (M:List Nat) (is:List IOper):∀ o,o∈onlyS M is→nextOf o=none:=by
 intro o ho
 obtain⟨⟨d,y⟩,hd⟩:=Option.isSome_iff_exists.1 (List.mem_filter.1 ho).2
 obtain⟨_,sz,h⟩:=slotS_inv hd
 rw[h];rfl
theorem inter_plain {mode pc:Bool} {is:List IOper} {L:List Nat} : ∀ {l:List IOper} {es:List Eff},effsOf mode pc is L l=some es→∀ o,o∈inter mode pc is L l→nextOf o=none
 | [],_,_,o,ho=>by cases ho
 | p :: l,es,h,o,ho=>by
  simp only[effsOf,Option.bind_eq_some_iff,Option.map_eq_some_iff] at h
  obtain⟨e,he,es',h',rfl⟩:=h
  have hp:nextOf (pureCall pc p)=none:=by
   obtain⟨d,g,op⟩:=p
   cases op<;>try rfl
   ·simp only[pureCall];cases pc<;>rfl
   ·simp[effOf,effOp] at he
  simp only[inter] at ho
  split at ho
  ·rcases List.mem_cons.1 ho with rfl|ho
   ·rfl
   ·rcases List.mem_cons.1 ho with rfl|ho
    ·exact hp
    ·exact inter_plain h' o ho
  ·rcases List.mem_cons.1 ho with rfl|ho
   ·exact hp
   ·exact inter_plain h' o ho
theorem BT.get_of (f:AFrame):∀ (k o i:Nat),i<2 ^ k→BT.get (BT.of f k o) k i=f (o+i)
 | 0,o,i,h=>by
  have:i=0:=by simp at h;exact h
  subst this;rfl
 | k+1,o,i,h=>by
  have h2:2 ^ (k+1)=2 ^ k+2 ^ k:=by rw[Nat.pow_succ];omega
  simp only[BT.of,BT.get]
  cases hb:Nat.blt i (2 ^ k) with
  | true =>
   rw[Nat.blt_eq] at hb
   rw[cond_true];exact BT.get_of f k o i hb
  | false =>
   have hn:¬ i<2 ^ k:=fun h=>by rw[← Nat.blt_eq] at h;rw[h] at hb;cases hb
   rw[cond_false,BT.get_of f k (o+2 ^ k) (i-2 ^ k) (by omega)]
   congr 1;omega
theorem tabT_lt {nt:Nat} {T:AFrame} {i:Nat} (h:i<nt):tabT nt (BT.of T (depT nt) 0) i=T i:=by
 have h1:Nat.blt i nt=true:=by rw[Nat.blt_eq];exact h
 unfold tabT
 rw[h1,cond_true,BT.get_of _ _ _ _ (Nat.lt_trans h (by unfold depT;exact Nat.lt_log2_self)),Nat.zero_add]
theorem tabT_ge {nt:Nat} {T:AFrame} {i:Nat} (h:nt≤i):tabT nt (BT.of T (depT nt) 0) i=.undef:=by
 have h1:Nat.blt i nt=false:=by
  cases hb:Nat.blt i nt with
  | false=>rfl
  | true=>rw[Nat.blt_eq] at hb;omega
 unfold tabT
 rw[h1];rfl
theorem SR.congrT {n:Nat} {T T' : AFrame} {gen:Nat} {tm:Nat→Value} {i:Nat} {v:Value} {x:AV} (hT:∀ j,j<nt→T' j=T j) (h:SR gh n nt w T gen tm i v x):SR gh n nt w T' gen tm i v x:=by
 cases x
 case lref b g off=>obtain⟨h1,h2,h3⟩:=h;exact⟨h1,h2,fun e=>h3 (by rw[← hT b h1];exact e)⟩
 case lsr b g=>obtain⟨h1,h2,h3⟩:=h;exact⟨h1,h2,fun e=>h3 (by rw[← hT b h1];exact e)⟩
 case eref b g r z off=>obtain⟨h1,h2,h3⟩:=h;exact⟨h1,h2,fun e=>h3 (by rw[← hT b h1];exact e)⟩
 all_goals exact h
theorem Inv.canon {H0:AHeap} {gh0:Gh} {w0:World} (h:Inv G base nt L H0 gh0 w0 s gh w a):Inv G base nt L H0 gh0 w0 (canonS nt s) gh w a:=by
 refine⟨h.W,⟨⟨h.F.defers,h.F.size,fun i hi=>?_⟩,fun i hi=>?_⟩,h.E,h.lo.same_HL rfl rfl⟩
 ·have h1:=h.F.slot i hi
  show SR gh s.H.length nt w (tabT nt (BT.of s.T (depT nt) 0)) s.gen _ i _ (tabT nt (BT.of s.T (depT nt) 0) i)
  rw[tabT_lt hi]
  exact h1.congrT fun j hj=>tabT_lt hj
 ·by_cases hlt:i<nt
  ·have:(canonS nt s).T i=s.T i:=tabT_lt hlt
   rw[this] at hi
   exact h.F.obj i hi
  ·have:(canonS nt s).T i=.undef:=tabT_ge (by omega)
   rw[this] at hi
   cases hi
theorem ready_eq {ops:Array Oper} {L:Array Bool} : readyA (ops.toList.map edgesAny) L=Region.ready .any ops L:=by
 unfold readyA Region.ready
 rw[show (ops.toList.map edgesAny).length=ops.size by simp]
 refine List.filter_congr fun i hi=>?_
 have hlt:i<ops.size:=by simpa using hi
 have e1:(ops.toList.map edgesAny).getD i []=edgesAny ops[i]:=by simp[List.getD_eq_getElem?_getD,hlt]
 rw[e1,Array.getElem?_eq_getElem hlt]
 simp only[Option.map_some,Option.getD_some,edgesAny]
 congr 1
 rw[← Array.all_toList,List.all_map,List.all_filter]
 rfl
theorem anyW_sound {cf:CallF} (hcf:CallsSound P G cf) {H0:AHeap} {gh0:Gh} {w0:World} {takes locals muts:List Nat} {ops:Array Oper} (hLl:∀ x,x∈locals→x∈L) (hLm:∀ x,x∈muts→x∈L) (Q:Exit→Act→World→Prop) (R:AS→Prop)
  (hR:∀ s' a' gh' w',R s'→Inv G base nt L H0 gh0 w0 s' gh' w' a'→Q .normal a' w') {is:List IOper} (hc:compOpers P takes locals muts nt ops ops.toList=some is) :
  ∀ (n:Nat) (B:Array Bool) (s:AS) (gh:Gh) (w:World) (a:Act),Inv G base nt L H0 gh0 w0 s gh w a→anyW G cf nt is (ops.toList.map edgesAny) n B s R→wpAny P .any ops Q n B a w
 | 0,B,s,gh,w,a,hI,h=>⟨by rw[← ready_eq];exact h.1,hR s a gh w h.2 hI⟩
 | n+1,B,s,gh,w,a,hI,h=>by
  refine⟨fun e=>hR s a gh w (h.1 (by rw[ready_eq];exact e)) hI,fun i hi=>?_⟩
  obtain⟨io,s1,hio,h1,h2⟩:=h.2 i (by rw[ready_eq];exact hi)
  obtain⟨hlen,hcomp⟩:=compOpers_inv hc
  unfold wpOp
  split
  ·rename_i hn
   exfalso
   have h3:=(List.getElem?_eq_some_iff.1 hio).1
   have h4:ops.toList[i]?=none:=by simpa using hn
   have h5:=List.getElem?_eq_none_iff.1 h4
   omega
  ·rename_i o ho
   obtain⟨io',hio',hco⟩:=hcomp i o (by simpa using ho)
   obtain rfl:io'=io:=Option.some.inj (hio'.symm.trans hio)
   have hinv:=compOper_inv hco
   rw[evOper_val,Option.map_eq_some_iff] at h1
   obtain⟨⟨z,s2⟩,hz,rfl⟩:=h1
   refine oper_step hcf hI hco hLl hLm hz _ Q (fun a' gh' w' hI'=>?_)
   rw[hinv.2.2.1] at h2
   exact anyW_sound hcf hLl hLm Q R hR hc n _ _ gh' w' a' hI'.canon h2
theorem wn_sound {cf:CallF} (hcf:CallsSound P G cf) (hm:P.follows .mixedOrders=true) {H0:AHeap} {gh0:Gh} {w0:World} {takes locals muts:List Nat} :
  ∀ (c:Code) (ic:ICode),compC P takes locals muts nt c=some ic→∀ (s:AS) (gh:Gh) (w:World) (a:Act) (Q:Exit→Act→World→Prop) (R:IExit→AS→Prop),Inv G base nt (locals++muts) H0 gh0 w0 s gh w a→WN G cf ic s R →
   (∀ e s' a' gh' w',R e s'→Inv G base nt (locals++muts) H0 gh0 w0 s' gh' w' a'→Q e.exit' a' w')→c.wp P Q a w
 | .skip,ic,hc,s,gh,w,a,Q,R,hI,he,hQ=>by
  simp only[compC,Option.some.injEq] at hc
  subst hc
  exact wp_skip (hQ .normal s a gh w he hI)
 | .region id ops draw,ic,hc,s,gh,w,a,Q,R,hI,he,hQ=>by
  have hc0:=hc
  simp only[compC,Option.bind_eq_some_iff] at hc
  obtain⟨is,his,hc⟩:=hc
  cases hd3:cond draw (drawn3 locals ops.toList is) none with
  | some c3 =>
   rw[hd3] at hc
   injection hc with hc
   subst hc
   obtain⟨rfl,mode,pc,es,h1,h2,rfl⟩:=drawn3_inv hd3
   obtain⟨s2,h3,h4⟩:=wnOps_plain _ _ _ (inter_plain h1) he
   exact code_sound hcf hm 0 (.region id ops true) _ hc0 s s2 .normal gh w a Q hI (by simp only[evC,h3,Option.map_some]) (fun a' gh' w' hI'=>hQ .normal s2 a' gh' w' h4 hI')
  | none =>
  rw[hd3] at hc
  simp only at hc
  cases hb:(!draw || (!(locals.elem 999998)&&orderOk (locals++muts) (ops.toList.zip is))) with
  | false =>
   rw[hb,cond_false] at hc
   cases h0:(!(locals.elem 999998)&&orderOk2 (locals++muts) (ops.toList.zip is)) with
   | false =>
    rw[h0,cond_false] at hc
    obtain⟨hdr,hc⟩:=cond_some hc
    injection hc with hc
    subst hc
    subst hdr
    have hl:ops.size=is.length:=by simpa using (compOpers_inv his).1
    simp only[WN,← hl] at he
    exact wp_region_any hm (anyW_sound hcf (fun x hx=>List.mem_append.2 (.inl hx)) (fun x hx=>List.mem_append.2 (.inr hx)) Q (R .normal) (fun s' a' gh' w' hr hI'=>hQ .normal s' a' gh' w' hr hI') his _ _ _ gh _ a hI.drew.canon he)
   | true =>
   rw[h0,cond_true] at hc
   injection hc with hc
   subst hc
   unfold drawn at he hc0
   simp only[WN,andThen] at he
   obtain⟨s1,h1,he⟩:=wnOps_plain _ _ _ (mask_plain _) he
   obtain⟨s2,h2,he⟩:=he
   obtain⟨s3,h3,he⟩:=wnOps_plain _ _ _ (onlyA_plain _) he
   obtain⟨s4,h4,he⟩:=wnOps_plain _ _ _ (onlyS_plain _ _) he
   exact code_sound hcf hm 0 (.region id ops draw) _ hc0 s s4 .normal gh w a Q hI (by simp only[evC,h1,h2,h3,h4,Option.map_some,Option.bind_some]) (fun a' gh' w' hI'=>hQ .normal s4 a' gh' w' he hI')
  | true =>
  have h0:=hb
  rw[hb,cond_true] at hc
  injection hc with hc
  subst hc
  cases draw with
  | false=>exact wp_region_list (wn_ops_sound hcf (fun x hx=>List.mem_append.2 (.inl hx)) (fun x hx=>List.mem_append.2 (.inr hx)) Q (R .normal) (fun s' a' gh' w' hr hI'=>hQ .normal s' a' gh' w' hr hI') ops.toList is s gh w a hI his he)
  | true =>
   obtain⟨s',h1,h2⟩:=he
   exact code_sound hcf hm 0 (.region id ops true) _ hc0 s s' .normal gh w a Q hI (by simp only[evC,h1,Option.map_some]) (fun a' gh' w' hI'=>hQ .normal s' a' gh' w' h2 hI')
 | .seq x y,ic,hc,s,gh,w,a,Q,R,hI,he,hQ=>by
  simp only[compC,Option.bind_eq_some_iff,Option.map_eq_some_iff] at hc
  obtain⟨ix,hx,iy,hy,rfl⟩:=hc
  refine wp_seq (wn_sound hcf hm x ix hx s gh w a _ _ hI he (fun e s' a' gh' w' hr hI'=>?_))
  cases e with
  | normal=>exact wn_sound hcf hm y iy hy s' gh' w' a' Q R hI' hr hQ
  | exit id=>exact hQ (.exit id) s' a' gh' w' hr hI'
  | ret=>exact hQ .ret s' a' gh' w' hr hI'
 | .cond c x y,ic,hc,s,gh,w,a,Q,R,hI,he,hQ=>by
  simp only[compC,Option.bind_eq_some_iff,Option.map_eq_some_iff] at hc
  obtain⟨iq,hq,ix,hx,iy,hy,rfl⟩:=hc
  obtain⟨t,ht,h1,h2⟩:=he
  have hv:=(arg_VR hI.W hI.F hq ht rfl).inv_bool
  cases t with
  | true=>exact wp_cond_true hv (wn_sound hcf hm x ix hx s gh w a Q R hI (h1 rfl) hQ)
  | false=>exact wp_cond_false hv (wn_sound hcf hm y iy hy s gh w a Q R hI (h2 rfl) hQ)
 | .block id c,ic,hc,s,gh,w,a,Q,R,hI,he,hQ=>by
  simp only[compC,Option.map_eq_some_iff] at hc
  obtain⟨ix,hx,rfl⟩:=hc
  refine wp_block (wn_sound hcf hm c ix hx s gh w a _ _ hI he (fun e s' a' gh' w' hr hI'=>?_))
  cases e with
  | normal=>exact hQ .normal s' a' gh' w' hr hI'
  | exit i =>
   show if i=id then Q .normal a' w' else Q (.exit i) a' w'
   simp only[leave,nbeq] at hr
   by_cases hi:i=id
   ·rw[if_pos hi];exact hQ .normal s' a' gh' w' (by simpa [hi] using hr) hI'
   ·rw[if_neg hi];exact hQ (.exit i) s' a' gh' w' (by simpa [hi] using hr) hI'
  | ret=>exact hQ .ret s' a' gh' w' hr hI'
 | .loop c,ic,hc,s,gh,w,a,Q,R,hI,he,hQ=>by
  simp only[compC,Option.map_eq_some_iff] at hc
  obtain⟨ix,hx,rfl⟩:=hc
  obtain⟨n,he⟩:=he
  have rounds:∀ (m:Nat) (s:AS) (gh:Gh) (w:World) (a:Act),Inv G base nt (locals++muts) H0 gh0 w0 s gh w a→iterW (WN G cf ix) m s R→Code.rounds P c Q m a w:=by
   intro m
   induction m with
   | zero=>intro s gh w a _ h;exact h.elim
   | succ m ih =>
    intro s gh w a hI h
    rw[rounds_succ]
    refine wn_sound hcf hm c ix hx s gh w a _ _ hI h (fun e s' a' gh' w' hr hI'=>?_)
    cases e with
    | normal=>exact ih s' gh' w' a' hI' hr
    | exit id=>exact hQ (.exit id) s' a' gh' w' hr hI'
    | ret=>exact hQ .ret s' a' gh' w' hr hI'
  exact wp_loop_rounds n (rounds n s gh w a hI he)
 | .exit id,ic,hc,s,gh,w,a,Q,R,hI,he,hQ=>by
  simp only[compC,Option.some.injEq] at hc
  subst hc
  exact wp_exit (hQ (.exit id) s a gh w he hI)
 | .ret,ic,hc,s,gh,w,a,Q,R,hI,he,hQ=>by
  simp only[compC,Option.some.injEq] at hc
  subst hc
  exact wp_ret (hQ .ret s a gh w he hI)
 | .label l,ic,hc,s,gh,w,a,Q,R,hI,he,hQ=>by
  simp only[compC,Option.some.injEq] at hc
  subst hc
  exact wp_label (hQ .normal s a gh w he hI)
 | .scope c,ic,hc,s,gh,w,a,Q,R,hI,he,hQ=>by
  simp only[compC] at hc
  refine wp_scope_straight (wn_sound hcf hm c ic hc s gh w a _ R hI he (fun e s' a' gh' w' hr hI'=>?_))
  have:=hQ e s' a' gh' w' hr hI'
  cases e<;>exact this
 | .rangeFunc _ _ _ _,_,hc,_,_,_,_,_,_,_,_,_=>by simp[compC] at hc
 | .goto _,_,hc,_,_,_,_,_,_,_,_,_=>by simp[compC] at hc
 | .refuse _,_,hc,_,_,_,_,_,_,_,_,_=>by simp[compC] at hc
end
end Go.Abs
end
section
namespace Go.Abs
set_option linter.unusedSimpArgs false
set_option linter.unusedVariables false
def insAll {α:Type} (x:α):List α→List (List α)
 | []=>[[x]]
 | y :: l=>(x :: y :: l) :: (insAll x l).map (y :: ·)
def perms {α:Type} : List α→List (List α)
 | []=>[[]]
 | x :: l=>(perms l).flatMap (insAll x)
theorem mem_insAll {α:Type} (x:α):∀ (a b:List α),a++x :: b∈insAll x (a++b)
 | [],b=>by cases b<;>simp[insAll]
 | y :: a,b=>by
  simp only[List.cons_append,insAll,List.mem_cons,List.mem_map]
  exact .inr ⟨_,mem_insAll x a b,rfl⟩
theorem mem_perms {α:Type} : ∀ {l m:List α},l.Perm m→m∈perms l
 | [],m,h=>by
  have:m=[]:=List.Perm.eq_nil h.symm
  rw[this];simp[perms]
 | x :: l,m,h=>by
  have hx:x∈m:=h.mem_iff.1 List.mem_cons_self
  obtain⟨a,b,rfl⟩:=List.append_of_mem hx
  have h2:l.Perm (a++b):=(h.trans List.perm_middle).cons_inv
  simp only[perms,List.mem_flatMap]
  exact⟨_,mem_perms h2,mem_insAll x a b⟩
def collect {α β:Type} (f:α→Option (List β)):List α→Option (List β)
 | []=>some []
 | x :: l=>(f x).bind fun a=>(collect f l).map (a++·)
theorem collect_mem {α β:Type} {f:α→Option (List β)} : ∀ {xs:List α} {l:List β},collect f xs=some l→∀ x∈xs,∃ a,f x=some a∧∀ y∈a,y∈l
 | [],_,_,x,hx=>by cases hx
 | z :: xs,l,h,x,hx=>by
  simp only[collect,Option.bind_eq_some_iff,Option.map_eq_some_iff] at h
  obtain⟨a,ha,b,hb,rfl⟩:=h
  rcases List.mem_cons.1 hx with rfl|hx
  ·exact⟨a,ha,fun y hy=>List.mem_append_left _ hy⟩
  ·obtain⟨c,hc,hm⟩:=collect_mem hb x hx
   exact⟨c,hc,fun y hy=>List.mem_append_right _ (hm y hy)⟩
theorem collect_from {α β:Type} {f:α→Option (List β)} : ∀ {xs:List α} {l:List β},collect f xs=some l→∀ y∈l,∃ x∈xs,∃ a,f x=some a∧y∈a
 | [],_,h,y,hy=>by simp only[collect,Option.some.injEq] at h;rw[← h] at hy;cases hy
 | z :: xs,l,h,y,hy=>by
  simp only[collect,Option.bind_eq_some_iff,Option.map_eq_some_iff] at h
  obtain⟨a,ha,b,hb,rfl⟩:=h
  rcases List.mem_append.1 hy with hy|hy
  ·exact⟨z,List.mem_cons_self,a,ha,hy⟩
  ·obtain⟨x,hx,c,hc,hm⟩:=collect_from hb y hy
   exact⟨x,List.mem_cons_of_mem _ hx,c,hc,hm⟩
mutual
def eqV:AV→AV→Bool
 | .bool a,y=>match y with|.bool b=>a==b|_=>false
 | .int k a,y=>match y with|.int k' b=>k==k'&&a==b|_=>false
 | .str a,y=>match y with|.str b=>a==b|_=>false
 | .any,y=>match y with|.any=>true|_=>false
 | .nilptr,y=>match y with|.nilptr=>true|_=>false
 | .nilmap,y=>match y with|.nilmap=>true|_=>false
 | .nilfunc,y=>match y with|.nilfunc=>true|_=>false
 | .niliface,y=>match y with|.niliface=>true|_=>false
 | .nilsl,y=>match y with|.nilsl=>true|_=>false
 | .slice e o,y=>match y with|.slice f q=>eqLL e f&&o==q|_=>false
 | .ref l o,y=>match y with|.ref l' o'=>l==l'&&o==o'|_=>false
 | .sref l o n z,y=>match y with|.sref l' o' n' z'=>l==l'&&o==o'&&n==n'&&z==z'|_=>false
 | .mref l,y=>match y with|.mref l'=>l==l'|_=>false
 | .agg a,y=>match y with|.agg b=>eqL a b|_=>false
 | .tuple a,y=>match y with|.tuple b=>eqL a b|_=>false
 | .iface t a,y=>match y with|.iface t' b=>t==t'&&eqV a b|_=>false
 | .eptr a,y=>match y with|.eptr b=>eqL a b|_=>false
 | .lbox g a,y=>match y with|.lbox g' b=>g==g'&&eqL a b|_=>false
 | .lref s g o,y=>match y with|.lref s' g' o'=>s==s'&&g==g'&&o==o'|_=>false
 | .lsl g e,y=>match y with|.lsl g' f=>g==g'&&eqLL e f|_=>false
 | .lsr s g,y=>match y with|.lsr s' g'=>s==s'&&g==g'|_=>false
 | .eref s g i z o,y=>match y with|.eref s' g' i' z' o'=>s==s'&&g==g'&&i==i'&&z==z'&&o==o'|_=>false
 | .fmap kz ka va e,y=>match y with|.fmap kz' ka' va' f=>kz==kz'&&ka==ka'&&va==va'&&eqLL e f|_=>false
 | .gmap kz ka va e,y=>match y with|.gmap kz' ka' va' f=>kz==kz'&&ka==ka'&&va==va'&&eqLL e f|_=>false
 | .iter g kz ka va c e,y=>match y with|.iter g' kz' ka' va' c' f=>g==g'&&kz==kz'&&ka==ka'&&va==va'&&eqL c c'&&eqLL e f|_=>false
 | .func f a c,y=>match f,y with|.func n,.func (.func m) b d=>n==m&&eqL a b&&eqL c d|_,_=>false
def eqL:List AV→List AV→Bool
 | [],y=>match y with|[]=>true|_=>false
 | a :: l,y=>match y with|b :: m=>eqV a b&&eqL l m|_=>false
def eqLL:List (List AV)→List (List AV)→Bool
 | [],y=>match y with|[]=>true|_=>false
 | a :: l,y=>match y with|b :: m=>eqL a b&&eqLL l m|_=>false
end
mutual
theorem eqV_eq:∀ (a b:AV),eqV a b=true→a=b
 | .bool a,b,h=>by cases b<;>simp_all [eqV]
 | .int k a,b,h=>by cases b<;>simp_all [eqV]
 | .str a,b,h=>by cases b<;>simp_all [eqV]
 | .any,b,h=>by cases b<;>simp_all [eqV]
 | .nilptr,b,h=>by cases b<;>simp_all [eqV]
 | .nilmap,b,h=>by cases b<;>simp_all [eqV]
 | .nilfunc,b,h=>by cases b<;>simp_all [eqV]
 | .niliface,b,h=>by cases b<;>simp_all [eqV]
 | .nilsl,b,h=>by cases b<;>simp_all [eqV]
 | .slice e o,b,h=>by
  cases b<;>simp[eqV] at h
  rename_i f q
  rw[eqLL_eq e f h.1,h.2]
 | .ref l o,b,h=>by cases b<;>simp_all [eqV]
 | .sref l o n z,b,h=>by cases b<;>simp_all [eqV]
 | .mref l,b,h=>by cases b<;>simp_all [eqV]
 | .agg a,b,h=>by
  cases b<;>simp[eqV] at h
  rename_i f
  rw[eqL_eq a f h]
 | .tuple a,b,h=>by
  cases b<;>simp[eqV] at h
  rename_i f
  rw[eqL_eq a f h]
 | .iface t a,b,h=>by
  cases b<;>simp[eqV] at h
  rename_i t' f
  rw[eqV_eq a f h.2,h.1]
 | .eptr a,b,h=>by
  cases b<;>simp[eqV] at h
  rename_i f
  rw[eqL_eq a f h]
 | .lbox g a,b,h=>by
  cases b<;>simp[eqV] at h
  rename_i g' f
  rw[h.1,eqL_eq a f h.2]
 | .lref s g o,b,h=>by cases b<;>simp_all [eqV]
 | .lsl g e,b,h=>by
  cases b<;>simp[eqV] at h
  rename_i g' f
  rw[h.1,eqLL_eq e f h.2]
 | .lsr s g,b,h=>by cases b<;>simp_all [eqV]
 | .eref s g i z o,b,h=>by cases b<;>simp_all [eqV]
 | .fmap kz ka va e,b,h=>by
  cases b<;>simp[eqV] at h
  rename_i kz' ka' va' f
  rw[h.1.1.1,h.1.1.2,h.1.2,eqLL_eq e f h.2]
 | .gmap kz ka va e,b,h=>by
  cases b<;>simp[eqV] at h
  rename_i kz' ka' va' f
  rw[h.1.1.1,h.1.1.2,h.1.2,eqLL_eq e f h.2]
 | .iter g kz ka va c e,b,h=>by
  cases b<;>simp[eqV] at h
  rename_i g' kz' ka' va' c' f
  rw[h.1.1.1.1.1,h.1.1.1.1.2,h.1.1.1.2,h.1.1.2,eqL_eq c c' h.1.2,eqLL_eq e f h.2]
 | .func f a c,b,h=>by
  cases f<;>cases b<;>simp[eqV] at h
  rename_i n f' b d
  cases f'<;>simp at h
  rename_i m
  rw[h.1.1,eqL_eq a b h.1.2,eqL_eq c d h.2]
theorem eqL_eq:∀ (a b:List AV),eqL a b=true→a=b
 | [],b,h=>by cases b<;>simp_all [eqL]
 | x :: l,b,h=>by
  cases b with
  | nil=>simp[eqL] at h
  | cons y m =>
   simp[eqL] at h
   rw[eqV_eq x y h.1,eqL_eq l m h.2]
theorem eqLL_eq:∀ (a b:List (List AV)),eqLL a b=true→a=b
 | [],b,h=>by cases b<;>simp_all [eqLL]
 | x :: l,b,h=>by
  cases b with
  | nil=>simp[eqLL] at h
  | cons y m =>
   simp[eqLL] at h
   rw[eqL_eq x y h.1,eqLL_eq l m h.2]
end
def eqO:AObj→AObj→Bool
 | .box t a,.box t' b=>t==t'&&eqL a b
 | .map kz ka va e,.map kz' ka' va' f=>kz==kz'&&ka==ka'&&va==va'&&eqLL e f
 | .fmap kz ka va e,.fmap kz' ka' va' f=>kz==kz'&&ka==ka'&&va==va'&&eqLL e f
 | .fbox a,.fbox b=>eqL a b
 | .obox a,.obox b=>eqL a b
 | .dead,.dead=>true
 | _,_=>false
def eqH:AHeap→AHeap→Bool
 | [],[]=>true
 | a :: l,b :: m=>eqO a b&&eqH l m
 | _,_=>false
def eqR (a b:AV × Option Chg):Bool :=
 eqV a.1 b.1&&match a.2,b.2 with
  | none,none=>true
  | some c,some d=>eqH c.heap d.heap&&c.lo==d.lo
  | _,_=>false
theorem eqO_eq {a b:AObj} (h:eqO a b=true):a=b:=by
 cases a<;>cases b<;>simp[eqO] at h
 ·rw[h.1,eqL_eq _ _ h.2]
 ·rw[h.1.1.1,h.1.1.2,h.1.2,eqLL_eq _ _ h.2]
 ·rw[h.1.1.1,h.1.1.2,h.1.2,eqLL_eq _ _ h.2]
 ·rw[eqL_eq _ _ h]
 ·rw[eqL_eq _ _ h]
 ·rfl
theorem eqH_eq:∀ {a b:AHeap},eqH a b=true→a=b
 | [],[],_=>rfl
 | [],_ :: _,h=>by simp[eqH] at h
 | _ :: _,[],h=>by simp[eqH] at h
 | x :: l,y :: m,h=>by
  simp only[eqH,Bool.and_eq_true] at h
  rw[eqO_eq h.1,eqH_eq h.2]
theorem eqR_eq {a b:AV × Option Chg} (h:eqR a b=true):a=b:=by
 obtain⟨v,c⟩:=a
 obtain⟨w,d⟩:=b
 simp only[eqR,Bool.and_eq_true] at h
 obtain⟨h1,h2⟩:=h
 rw[eqV_eq v w h1]
 cases c<;>cases d<;>simp at h2
 ·rfl
 ·rename_i c d
  obtain⟨c1,c2⟩:=c
  obtain⟨d1,d2⟩:=d
  simp only at h2
  rw[eqH_eq h2.1,h2.2]
structure CS where
 nt:Nat
 vals:BT
 H:AHeap
 lo:Nat
 gen:Nat
def CS.toAS (c:CS):AS:=⟨tabT c.nt c.vals,c.H,c.lo,c.gen⟩
def CS.ofAS (nt:Nat) (s:AS):CS:=⟨nt,BT.of s.T (depT nt) 0,s.H,s.lo,s.gen⟩
def eqB:BT→BT→Bool
 | .leaf v,y=>match y with|.leaf u=>eqV v u|_=>false
 | .node l r,y=>match y with|.node l' r'=>eqB l l'&&eqB r r'|_=>false
theorem eqB_eq:∀ {a b:BT},eqB a b=true→a=b
 | .leaf v,.leaf u,h=>by rw[eqV_eq v u h]
 | .leaf _,.node _ _,h=>by simp[eqB] at h
 | .node _ _,.leaf _,h=>by simp[eqB] at h
 | .node l r,.node l' r',h=>by
  simp only[eqB,Bool.and_eq_true] at h
  rw[eqB_eq h.1,eqB_eq h.2]
def eqC (c d:CS):Bool:=c.nt==d.nt&&c.lo==d.lo&&c.gen==d.gen&&eqB c.vals d.vals&&eqH c.H d.H
theorem eqC_eq {c d:CS} (h:eqC c d=true):c=d:=by
 obtain⟨n1,v1,h1,l1,g1⟩:=c
 obtain⟨n2,v2,h2,l2,g2⟩:=d
 simp only[eqC,Bool.and_eq_true,beq_iff_eq] at h
 obtain⟨⟨⟨⟨k0,k1⟩,k2⟩,k3⟩,k4⟩:=h
 rw[k0,k1,k2,eqB_eq k3,eqH_eq k4]
def eqP (x y:Array Bool × CS):Bool:=x.1.toList==y.1.toList&&eqC x.2 y.2
theorem eqP_eq {x y:Array Bool × CS} (h:eqP x y=true):x=y:=by
 obtain⟨L,c⟩:=x
 obtain⟨M,d⟩:=y
 simp only[eqP,Bool.and_eq_true,beq_iff_eq] at h
 rw[Array.toList_inj.1 h.1,eqC_eq h.2]
def dedup:List (Array Bool × CS)→List (Array Bool × CS)
 | []=>[]
 | x :: l=>cond (l.any (eqP x)) (dedup l) (x :: dedup l)
theorem mem_dedup:∀ {l:List (Array Bool × CS)} {x:Array Bool × CS},x∈l→x∈dedup l
 | y :: l,x,h=>by
  simp only[dedup]
  cases hb:l.any (eqP y) with
  | true =>
   simp only[cond_true]
   rcases List.mem_cons.1 h with rfl|h
   ·obtain⟨z,hz,he⟩:=List.any_eq_true.1 hb
    rw[eqP_eq he];exact mem_dedup hz
   ·exact mem_dedup h
  | false =>
   simp only[cond_false]
   rcases List.mem_cons.1 h with rfl|h
   ·exact List.mem_cons_self
   ·exact List.mem_cons_of_mem _ (mem_dedup h)
theorem dedup_mem:∀ {l:List (Array Bool × CS)} {x:Array Bool × CS},x∈dedup l→x∈l
 | y :: l,x,h=>by
  simp only[dedup] at h
  cases hb:l.any (eqP y) with
  | true=>rw[hb,cond_true] at h;exact List.mem_cons_of_mem _ (dedup_mem h)
  | false =>
   rw[hb,cond_false] at h
   rcases List.mem_cons.1 h with rfl|h
   ·exact List.mem_cons_self
   ·exact List.mem_cons_of_mem _ (dedup_mem h)
section
variable (G:Nat→List AV) (cf:CallF) (nt:Nat) (ops:List IOper) (pre:List (List Nat))
def stepAny (x:Array Bool × CS):Option (List (Array Bool × CS)) :=
 match readyA pre x.1 with
 | []=>none
 | i :: r=>collect (fun i=>(ops[i]?).bind fun o=>(evOper G cf false x.2.toAS o).map fun s'=>[(x.1.setIfInBounds i true,CS.ofAS nt s')]) (i :: r)
def runAny:Nat→List (Array Bool × CS)→Option (List CS)
 | 0,lv=>cond (lv.all fun x=>(readyA pre x.1).isEmpty) (some (lv.map (·.2))) none
 | n+1,lv=>(collect (stepAny G cf nt ops pre) lv).bind fun l=>runAny n (dedup l)
end
theorem runAny_W {G:Nat→List AV} {cf:CallF} {nt:Nat} {ops:List IOper} {pre:List (List Nat)} {Q:AS→Prop} : ∀ (n:Nat) (lv:List (Array Bool × CS)) (res:List CS),runAny G cf nt ops pre n lv=some res→(∀ c∈res,Q c.toAS) →
  ∀ x∈lv,anyW G cf nt ops pre n x.1 x.2.toAS Q
 | 0,lv,res,h,hQ,x,hx=>by
  simp only[runAny] at h
  obtain⟨h0,h⟩:=cond_some h
  injection h with h
  subst h
  have:=List.all_eq_true.1 h0 x hx
  exact⟨List.isEmpty_iff.1 this,hQ _ (List.mem_map.2 ⟨x,hx,rfl⟩)⟩
 | n+1,lv,res,h,hQ,x,hx=>by
  simp only[runAny,Option.bind_eq_some_iff] at h
  obtain⟨l,h1,h2⟩:=h
  obtain⟨a,ha,hm⟩:=collect_mem h1 x hx
  unfold stepAny at ha
  split at ha
  ·cases ha
  ·rename_i j r hr
   refine⟨(fun e=>by rw[hr] at e;cases e),fun i hi=>?_⟩
   rw[hr] at hi
   obtain⟨b,hb,hmb⟩:=collect_mem ha i hi
   simp only[Option.bind_eq_some_iff,Option.map_eq_some_iff] at hb
   obtain⟨o,ho,s',hs,rfl⟩:=hb
   refine⟨o,s',ho,hs,?_⟩
   exact runAny_W n _ res h2 hQ _ (mem_dedup (hm _ (hmb _ List.mem_cons_self)))
section
variable (G:Nat→List AV) (cf:CallF)
def stepTo (s:AS) (t:Nat) (d:Option Nat) (g kz:Nat) (ka va:Bool) (q:List AV) (rest:List (List AV)):AS :=
 (s.setT t (.iter g kz ka va q rest)).putD d (.tuple [.bool true,entV ka (q.take kz),entV va (q.drop kz)])
def allOps:List IOper→AS→Option (List AS)
 | [],s=>some [s]
 | o :: r,s=>match nextOf o with
  | some t=>match s.T t with
   | .iter g kz ka va _ todo=>match todo with
    | []=>allOps r (s.putD o.dst (.tuple [.bool false]))
    | _ :: _=>collect (fun m=>match m with
     | q :: rest=>allOps r (stepTo s t o.dst g kz ka va q rest)
     | []=>some []) (perms todo)
   | _=>none
  | none=>(evOper G cf false s o).bind (allOps r)
def iterAll (F:AS→Option (List (IExit × AS))):Nat→AS→Option (List (IExit × AS))
 | 0,_=>none
 | n+1,s=>(F s).bind (collect fun x=>match x.1 with
  | .normal=>iterAll F n x.2
  | _=>some [x])
def allC (n:Nat):ICode→AS→Option (List (IExit × AS))
 | .skip,s=>some [(.normal,s)]
 | .region false ops,s=>(allOps G cf ops s).map fun l=>l.map fun s'=>(.normal,s')
 | .region true ops,s=>(evOps G cf true ops s).map fun s'=>[(.normal,s')]
 | .seq a b,s=>(allC n a s).bind (collect fun x=>match x.1 with
  | .normal=>allC n b x.2
  | _=>some [x])
 | .cond c a b,s=>match c.eval G s.T with
  | .bool true=>allC n a s
  | .bool false=>allC n b s
  | _=>none
 | .block id a,s=>(allC n a s).map fun l=>l.map fun x=>match x.1 with
  | .exit i=>(cond (Nat.beq i id) .normal (.exit i),x.2)
  | _=>x
 | .loop a,s=>iterAll (allC n a) n s
 | .exit id,s=>some [(.exit id,s)]
 | .ret,s=>some [(.ret,s)]
 | .anyr nt ops pre,s=>(runAny G cf nt ops pre ops.length [(Array.replicate ops.length false,CS.ofAS nt s)]).map fun l=>l.map fun c=>(.normal,c.toAS)
end
section
variable {G:Nat→List AV} {cf:CallF}
theorem allOps_wn:∀ (is:List IOper) (s:AS) (l:List AS) (Q:AS→Prop),allOps G cf is s=some l→(∀ x∈l,Q x)→wnOps G cf is s Q
 | [],s,l,Q,h,hQ=>by
  simp only[allOps,Option.some.injEq] at h
  exact hQ s (by rw[← h];exact List.mem_cons_self)
 | o :: r,s,l,Q,h,hQ=>by
  unfold allOps at h
  unfold wnOps
  cases hn:nextOf o with
  | none =>
   rw[hn] at h
   simp only[Option.bind_eq_some_iff] at h
   obtain⟨s',h1,h2⟩:=h
   exact⟨s',h1,allOps_wn r s' l Q h2 hQ⟩
  | some t =>
   rw[hn] at h
   simp only at h ⊢
   split at h
   ·rename_i g kz ka va cur todo hT
    refine⟨g,kz,ka,va,cur,todo,hT,fun h0=>?_,fun q rest hp=>?_⟩
    ·subst h0
     exact allOps_wn r _ l Q h hQ
    ·cases todo with
     | nil=>exact absurd (List.Perm.nil_eq hp) (by simp)
     | cons z zs =>
      simp only at h
      obtain⟨a,ha,hm⟩:=collect_mem h _ (mem_perms hp)
      exact allOps_wn r _ a Q ha fun x hx=>hQ x (hm x hx)
   ·cases h
theorem iterAll_wn {F:AS→Option (List (IExit × AS))} {W:AS→(IExit→AS→Prop)→Prop} (hF:∀ s l Q,F s=some l→(∀ x∈l,Q x.1 x.2)→W s Q) :
  ∀ (n:Nat) (s:AS) (l:List (IExit × AS)) (Q:IExit→AS→Prop),iterAll F n s=some l→(∀ x∈l,Q x.1 x.2)→iterW W n s Q
 | 0,_,_,_,h,_=>by cases h
 | n+1,s,l,Q,h,hQ=>by
  simp only[iterAll,Option.bind_eq_some_iff] at h
  obtain⟨l1,h1,h2⟩:=h
  refine hF s l1 _ h1 fun x hx=>?_
  obtain⟨a,ha,hm⟩:=collect_mem h2 x hx
  obtain⟨e,s1⟩:=x
  cases e with
  | normal=>exact iterAll_wn hF n s1 a Q ha fun y hy=>hQ y (hm y hy)
  | exit i=>injection ha with ha;subst ha;exact hQ _ (hm _ List.mem_cons_self)
  | ret=>injection ha with ha;subst ha;exact hQ _ (hm _ List.mem_cons_self)
theorem allC_wn (n:Nat):∀ (c:ICode) (s:AS) (l:List (IExit × AS)) (R:IExit→AS→Prop),allC G cf n c s=some l→(∀ x∈l,R x.1 x.2)→WN G cf c s R
 | .skip,s,l,R,h,hR=>by
  simp only[allC,Option.some.injEq] at h
  exact hR (.normal,s) (by rw[← h];exact List.mem_cons_self)
 | .region false ops,s,l,R,h,hR=>by
  simp only[allC,Option.map_eq_some_iff] at h
  obtain⟨l1,h1,rfl⟩:=h
  exact allOps_wn ops s l1 _ h1 fun x hx=>hR (.normal,x) (List.mem_map.2 ⟨x,hx,rfl⟩)
 | .region true ops,s,l,R,h,hR=>by
  simp only[allC,Option.map_eq_some_iff] at h
  obtain⟨s1,h1,rfl⟩:=h
  exact⟨s1,h1,hR (.normal,s1) List.mem_cons_self⟩
 | .seq a b,s,l,R,h,hR=>by
  simp only[allC,Option.bind_eq_some_iff] at h
  obtain⟨l1,h1,h2⟩:=h
  refine allC_wn n a s l1 _ h1 fun x hx=>?_
  obtain⟨d,hd,hm⟩:=collect_mem h2 x hx
  obtain⟨e,s1⟩:=x
  cases e with
  | normal=>exact allC_wn n b s1 d R hd fun y hy=>hR y (hm y hy)
  | exit i=>injection hd with hd;subst hd;exact hR _ (hm _ List.mem_cons_self)
  | ret=>injection hd with hd;subst hd;exact hR _ (hm _ List.mem_cons_self)
 | .cond c a b,s,l,R,h,hR=>by
  simp only[allC] at h
  split at h
  ·rename_i ht
   exact⟨true,ht,(fun _=>allC_wn n a s l R h hR),(fun e=>by cases e)⟩
  ·rename_i ht
   exact⟨false,ht,(fun e=>by cases e),(fun _=>allC_wn n b s l R h hR)⟩
  ·cases h
 | .block id a,s,l,R,h,hR=>by
  simp only[allC,Option.map_eq_some_iff] at h
  obtain⟨l1,h1,rfl⟩:=h
  refine allC_wn n a s l1 _ h1 fun x hx=>?_
  have:=hR _ (List.mem_map.2 ⟨x,hx,rfl⟩)
  obtain⟨e,s1⟩:=x
  cases e<;>exact this
 | .loop a,s,l,R,h,hR=>⟨n,iterAll_wn (fun s l Q h1 h2=>allC_wn n a s l Q h1 h2) n s l R h hR⟩
 | .exit id,s,l,R,h,hR=>by
  simp only[allC,Option.some.injEq] at h
  exact hR (.exit id,s) (by rw[← h];exact List.mem_cons_self)
 | .ret,s,l,R,h,hR=>by
  simp only[allC,Option.some.injEq] at h
  exact hR (.ret,s) (by rw[← h];exact List.mem_cons_self)
 | .anyr nt ops pre,s,l,R,h,hR=>by
  simp only[allC,Option.map_eq_some_iff] at h
  obtain⟨l1,h1,rfl⟩:=h
  exact runAny_W ops.length _ l1 h1 (fun c hc=>hR (.normal,c.toAS) (List.mem_map.2 ⟨c,hc,rfl⟩)) _ List.mem_cons_self
end
section
variable {G:Nat→List AV} {cf:CallF} {H:AHeap} (hcf:∀ f args H r c,cf f args H=some (r,c)→ChgOK H c)
include hcf
theorem allOps_lo:∀ (is:List IOper) (s:AS) (l:List AS),allOps G cf is s=some l→LoInv H s→∀ x∈l,LoInv H x
 | [],s,l,h,hI,x,hx=>by
  simp only[allOps,Option.some.injEq] at h
  rw[← h] at hx
  rw[List.mem_singleton.1 hx];exact hI
 | o :: r,s,l,h,hI,x,hx=>by
  unfold allOps at h
  cases hn:nextOf o with
  | none =>
   rw[hn] at h
   simp only[Option.bind_eq_some_iff] at h
   obtain⟨s',h1,h2⟩:=h
   have h3:evOps G cf false [o] s=some s':=by simp only[evOps,h1,Option.bind_some]
   exact allOps_lo r s' l h2 (evOps_lo hcf [o] s s' h3 hI) x hx
  | some t =>
   rw[hn] at h
   simp only at h
   split at h
   ·rename_i g kz ka va cur todo hT
    cases todo with
    | nil=>exact allOps_lo r _ l h (hI.same_HL (putD_T _ _ _).1 (putD_T _ _ _).2.2) x hx
    | cons z zs =>
     simp only at h
     obtain⟨m,_,a,ha,hxa⟩:=collect_from h x hx
     cases m with
     | nil=>injection ha with ha;subst ha;cases hxa
     | cons q rest =>
      refine allOps_lo r _ a ha ?_ x hxa
      unfold stepTo
      exact (hI.same_HL (s':=s.setT t (.iter g kz ka va q rest)) rfl rfl).same_HL (putD_T _ _ _).1 (putD_T _ _ _).2.2
   ·cases h
omit hcf in
theorem iterAll_lo {F:AS→Option (List (IExit × AS))} (hF:∀ s l,F s=some l→LoInv H s→∀ x∈l,LoInv H x.2):∀ (n:Nat) (s:AS) (l:List (IExit × AS)),iterAll F n s=some l→LoInv H s→∀ x∈l,LoInv H x.2
 | 0,_,_,h,_,_,_=>by cases h
 | n+1,s,l,h,hI,x,hx=>by
  simp only[iterAll,Option.bind_eq_some_iff] at h
  obtain⟨l1,h1,h2⟩:=h
  obtain⟨y,hy,a,ha,hxa⟩:=collect_from h2 x hx
  have hyI:=hF s l1 h1 hI y hy
  obtain⟨e,s1⟩:=y
  cases e with
  | normal=>exact iterAll_lo hF n s1 a ha hyI x hxa
  | exit i=>injection ha with ha;subst ha;rw[List.mem_singleton.1 hxa];exact hyI
  | ret=>injection ha with ha;subst ha;rw[List.mem_singleton.1 hxa];exact hyI
theorem runAny_lo {nt:Nat} {ops:List IOper} {pre:List (List Nat)} : ∀ (n:Nat) (lv:List (Array Bool × CS)) (res:List CS),runAny G cf nt ops pre n lv=some res→(∀ x∈lv,LoInv H x.2.toAS)→∀ c∈res,LoInv H c.toAS
 | 0,lv,res,h,hI,c,hc=>by
  simp only[runAny] at h
  obtain⟨_,h⟩:=cond_some h
  injection h with h
  subst h
  obtain⟨x,hx,rfl⟩:=List.mem_map.1 hc
  exact hI x hx
 | n+1,lv,res,h,hI,c,hc=>by
  simp only[runAny,Option.bind_eq_some_iff] at h
  obtain⟨l,h1,h2⟩:=h
  refine runAny_lo n _ res h2 (fun y hy=>?_) c hc
  obtain⟨x,hx,a,ha,hya⟩:=collect_from h1 y (dedup_mem hy)
  unfold stepAny at ha
  split at ha
  ·cases ha
  ·obtain⟨i,_,b,hb,hyb⟩:=collect_from ha y hya
   simp only[Option.bind_eq_some_iff,Option.map_eq_some_iff] at hb
   obtain⟨o,_,s',hs,rfl⟩:=hb
   rw[List.mem_singleton.1 hyb]
   have h3:evOps G cf false [o] x.2.toAS=some s':=by simp only[evOps,hs,Option.bind_some]
   exact (evOps_lo hcf [o] _ s' h3 (hI x hx)).same_HL rfl rfl
theorem allC_lo (n:Nat):∀ (c:ICode) (s:AS) (l:List (IExit × AS)),allC G cf n c s=some l→LoInv H s→∀ x∈l,LoInv H x.2
 | .skip,s,l,h,hI,x,hx=>by
  simp only[allC,Option.some.injEq] at h
  rw[← h] at hx;rw[List.mem_singleton.1 hx];exact hI
 | .region false ops,s,l,h,hI,x,hx=>by
  simp only[allC,Option.map_eq_some_iff] at h
  obtain⟨l1,h1,rfl⟩:=h
  obtain⟨y,hy,rfl⟩:=List.mem_map.1 hx
  exact allOps_lo hcf ops s l1 h1 hI y hy
 | .region true ops,s,l,h,hI,x,hx=>by
  simp only[allC,Option.map_eq_some_iff] at h
  obtain⟨s1,h1,rfl⟩:=h
  rw[List.mem_singleton.1 hx];exact evOps_lo hcf ops s s1 h1 hI
 | .seq a b,s,l,h,hI,x,hx=>by
  simp only[allC,Option.bind_eq_some_iff] at h
  obtain⟨l1,h1,h2⟩:=h
  obtain⟨y,hy,d,hd,hxd⟩:=collect_from h2 x hx
  have hyI:=allC_lo n a s l1 h1 hI y hy
  obtain⟨e,s1⟩:=y
  cases e with
  | normal=>exact allC_lo n b s1 d hd hyI x hxd
  | exit i=>injection hd with hd;subst hd;rw[List.mem_singleton.1 hxd];exact hyI
  | ret=>injection hd with hd;subst hd;rw[List.mem_singleton.1 hxd];exact hyI
 | .cond c a b,s,l,h,hI,x,hx=>by
  simp only[allC] at h
  split at h
  ·exact allC_lo n a s l h hI x hx
  ·exact allC_lo n b s l h hI x hx
  ·cases h
 | .block id a,s,l,h,hI,x,hx=>by
  simp only[allC,Option.map_eq_some_iff] at h
  obtain⟨l1,h1,rfl⟩:=h
  obtain⟨y,hy,rfl⟩:=List.mem_map.1 hx
  have:=allC_lo n a s l1 h1 hI y hy
  obtain⟨e,s1⟩:=y
  cases e<;>exact this
 | .loop a,s,l,h,hI,x,hx=>iterAll_lo (fun s l h1 h2=>allC_lo n a s l h1 h2) n s l h hI x hx
 | .exit id,s,l,h,hI,x,hx=>by
  simp only[allC,Option.some.injEq] at h
  rw[← h] at hx;rw[List.mem_singleton.1 hx];exact hI
 | .ret,s,l,h,hI,x,hx=>by
  simp only[allC,Option.some.injEq] at h
  rw[← h] at hx;rw[List.mem_singleton.1 hx];exact hI
 | .anyr nt ops pre,s,l,h,hI,x,hx=>by
  simp only[allC,Option.map_eq_some_iff] at h
  obtain⟨l1,h1,rfl⟩:=h
  obtain⟨c,hc,rfl⟩:=List.mem_map.1 hx
  refine runAny_lo hcf ops.length _ l1 h1 (fun y hy=>?_) c hc
  rw[List.mem_singleton.1 hy]
  exact hI.same_HL rfl rfl
end
def outOf (base:Nat) (fn:IFunc) (x:IExit × AS):Option (AV × Option Chg) :=
 match x.1 with
 | .exit _=>none
 | _=>finish base fn x.2
def oneOf (base:Nat) (fn:IFunc):List (IExit × AS)→Option (AV × Option Chg)
 | []=>none
 | x :: l=>(outOf base fn x).bind fun r=>cond (l.all fun y=>match outOf base fn y with
  | some q=>eqR q r
  | none=>false) (some r) none
theorem oneOf_all {base:Nat} {fn:IFunc} {l:List (IExit × AS)} {r:AV × Option Chg} (h:oneOf base fn l=some r):∀ x∈l,outOf base fn x=some r:=by
 cases l with
 | nil=>cases h
 | cons y l =>
  simp only[oneOf,Option.bind_eq_some_iff] at h
  obtain⟨q,hq,h⟩:=h
  obtain⟨h0,h⟩:=cond_some h
  injection h with h
  subst h
  intro x hx
  rcases List.mem_cons.1 hx with rfl|hx
  ·exact hq
  ·have:=List.all_eq_true.1 h0 x hx
   split at this
   ·rename_i z hz
    rw[hz,eqR_eq this]
   ·cases this
def runN (G:Nat→List AV) (cf:CallF) (n:Nat) (fn:IFunc) (args:List AV) (H:AHeap):Option (AV × Option Chg) :=
 cond (Nat.beq args.length fn.np) ((allC G cf n fn.body { T:=initT args,H,lo:=H.length,gen:=0 }).bind (oneOf H.length fn)) none
def evN (A:AP):Nat→CallF
 | 0=>fun _ _ _=>none
 | n+1=>fun f args H=>match A.ov f with
  | some g=>cond (args.all noRight) (g args H) none
  | none=>match A.fns f with
   | none=>none
   | some fn=>runN A.glob (evN A n) n fn args H
section
variable {P:Program} {G:Nat→List AV} {H:AHeap}
theorem runN_sound {cf:CallF} (hcf:CallsSound P G cf) (hm:P.follows .mixedOrders=true) {f:FuncId} {fn:Func} (hfn:P.funcs[f]?=some fn) {takes locals muts:List Nat} {ifn:IFunc} (hc:compF P takes locals muts fn=some ifn)
  {n:Nat} {args:List AV} {r:AV} {c:Option Chg} (he:runN G cf n ifn args H=some (r,c)) :
  (fn.body.isSome=true∧fn.name≠ "runtime.NumGoroutine")∧ChgOK H c ∧
  ∀ (base:Nat) (gh:Gh) (w:World) (vs:Array Value),WRel G base H gh w→clean gh→vs.size=args.length→(∀ (j:Nat) (v:Value) (x:AV),vs[j]?=some v→args[j]?=some x→CR gh H.length w (.par j) v x) →
   Calls P f vs w fun e w'=>∃ v gh',e=.returned v∧RetOK G base H gh w r c v gh' w':=by
 simp only[compF,Option.bind_eq_some_iff] at hc
 obtain⟨code,hbody,b,hb,rs,hrs,hc⟩:=hc
 obtain⟨h0,hc⟩:=cond_some hc
 injection hc with hc
 subst hc
 simp only[Bool.and_eq_true,Nat.ble_eq,bne_iff_ne,ne_eq] at h0
 simp only[runN] at he
 obtain⟨h1,he⟩:=cond_some he
 have hal:args.length=fn.params.size+fn.nfree:=by simpa [nbeq] using h1
 simp only[Option.bind_eq_some_iff] at he
 obtain⟨l,hev,he⟩:=he
 have hall:=oneOf_all he
 have hch:ChgOK H c:=by
  have hlo:=allC_lo (H:=H) (fun f args H r c h=>(hcf f args H r c h).2.1) n b _ l hev ⟨Nat.le_refl _,Nat.le_refl _,fun _ _=>rfl⟩
  cases l with
  | nil=>cases he
  | cons x l =>
   have h2:=hall x List.mem_cons_self
   have h3:=hlo x List.mem_cons_self
   obtain⟨ex,s'⟩:=x
   cases ex with
   | normal=>exact finish_chg h3 h2
   | exit id=>cases h2
   | ret=>exact finish_chg h3 h2
 refine⟨⟨by rw[hbody];rfl,h0.2⟩,hch,fun base gh w vs hW hcl hvs hrel=>?_⟩
 refine calls_of_wp hfn hbody ?_
 have hsz:vs.size≤fn.ntmps:=by omega
 have hI:=init_inv (locals:=locals) (muts:=muts) hW hvs hsz hrel
 refine wn_sound hcf hm code b hb _ gh.taken w _ _ _ hI (allC_wn n b _ l (fun e s=>outOf H.length { takes,locals,muts,nt:=fn.ntmps,np:=fn.params.size+fn.nfree,results:=rs,body:=b } (e,s)=some (r,c)) hev (fun x hx=>hall x hx)) (fun e s' a' gh' w' hr hI'=>?_)
 cases e with
 | exit i=>cases hr
 | normal =>
  obtain⟨_,v,gh2,hv,hR⟩:=ret_sound (P:=P) hW hcl hI' hrs hr
  exact⟨hI'.F.defers,v,hv,v,gh2,rfl,hR⟩
 | ret =>
  obtain⟨_,v,gh2,hv,hR⟩:=ret_sound (P:=P) hW hcl hI' hrs hr
  exact⟨hI'.F.defers,v,hv,v,gh2,rfl,hR⟩
theorem evN_sound {A:AP} (h:ProgOK P A):∀ n,CallsSound P A.glob (evN A n)
 | 0=>fun f args H r c he=>by cases he
 | n+1=>fun f args H r c he=>by
  simp only[evN] at he
  split at he
  ·rename_i g hg
   obtain⟨h0,he⟩:=cond_some he
   obtain⟨k1,k2,k3⟩:=h.ov f g hg args H r c he
   refine⟨k1,k2,fun base gh w vs hW hcl hvs hrel=>k3 base gh w vs hW hcl hvs (fun j v x hv hx=>?_)⟩
   rcases hrel j v x hv hx with h|⟨e,rfl,_⟩
   ·exact h
   ·have:=List.all_eq_true.1 h0 _ (List.mem_of_getElem? hx)
    simp[noRight] at this
  ·split at he
   ·cases he
   ·rename_i ifn hf
    obtain⟨fn,takes,locals,muts,hfn,hc⟩:=h.fns f ifn hf
    obtain⟨⟨h1,h2⟩,h3,h4⟩:=runN_sound (evN_sound h n) h.mixed hfn hc he
    exact⟨⟨fn,hfn,h1,h2⟩,h3,h4⟩
theorem evN_ov {A:AP} (h:ProgOK P A) (n:Nat) (f:FuncId):OvSound P A.glob f (evN A n f):=by
 intro args H r c he
 obtain⟨k1,k2,k3⟩:=evN_sound h n f args H r c he
 exact⟨k1,k2,fun base gh w vs hW hcl hvs hrel=>k3 base gh w vs hW hcl hvs fun j v x hv hx=>.inl (hrel j v x hv hx)⟩
end
end Go.Abs
end
section
namespace Go.Abs
structure Memo where
 f:FuncId
 args:List AV
 heap:AHeap
 out:AV × Option Chg
def findM (f:FuncId) (args:List AV) (H:AHeap):List Memo→Option (AV × Option Chg)
 | []=>none
 | e :: r=>cond (Nat.beq e.f f&&eqL e.args args&&eqH e.heap H) (some e.out) (findM f args H r)
def memoF (tb:List Memo) (cf:CallF):CallF:=fun f args H=>match findM f args H tb with
 | some r=>some r
 | none=>cf f args H
theorem findM_ok {cf:CallF} {f:FuncId} {args:List AV} {H:AHeap} {r:AV × Option Chg} : ∀ {tb:List Memo},(∀ e∈tb,cf e.f e.args e.heap=some e.out)→findM f args H tb=some r→cf f args H=some r
 | [],_,h=>by cases h
 | e :: tb,hok,h=>by
  simp only[findM] at h
  cases hb:(Nat.beq e.f f&&eqL e.args args&&eqH e.heap H) with
  | true =>
   rw[hb] at h
   injection h with h
   simp only[Bool.and_eq_true] at hb
   obtain⟨⟨h1,h2⟩,h3⟩:=hb
   have e1:e.f=f:=Nat.eq_of_beq_eq_true h1
   have:=hok e (List.mem_cons_self ..)
   rw[e1,eqL_eq _ _ h2,eqH_eq h3,h] at this
   exact this
  | false =>
   rw[hb] at h
   exact findM_ok (fun e he=>hok e (List.mem_cons_of_mem _ he)) h
theorem memo_eq {cf:CallF} {tb:List Memo} (hok:∀ e∈tb,cf e.f e.args e.heap=some e.out):memoF tb cf=cf:=by
 funext f args H
 unfold memoF
 split
 ·rename_i r h;exact (findM_ok hok h).symm
 ·rfl
theorem evN_memo {A:AP} {n:Nat} {f:FuncId} {fn:IFunc} {args:List AV} {H:AHeap} {tb:List Memo} (ho:A.ov f=none) (hf:A.fns f=some fn) (hok:∀ e∈tb,evN A n e.f e.args e.heap=some e.out) :
  evN A (n+1) f args H=runN A.glob (memoF tb (evN A n)) n fn args H:=by
 rw[memo_eq hok]
 simp only[evN,ho,hf]
end Go.Abs
end
