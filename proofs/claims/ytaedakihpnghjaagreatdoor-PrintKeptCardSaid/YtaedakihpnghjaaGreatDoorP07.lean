/-
  A part of the proof of PrintKept: AbsArr, AbsCopy, AbsEvOp.
-/
import Derived.Laws.MakeOwn
import Derived.Laws.IdiomCopy
import Derived.WalkSpells
import Derived.Test.YtaedakihpnghjaaGreatDoorP06
set_option linter.unusedSimpArgs false
set_option linter.unusedVariables false
section
namespace Go.Abs
set_option linter.unusedSimpArgs false
set_option linter.unusedVariables false
section
variable {P:Program} {G:Nat→List AV} {base nt:Nat} {L:List Nat} {gh gh1:Gh} {w w' : World} {a:Act} {s:AS} {H:AHeap}
theorem flat_at {α:Type} {sz:Nat} : ∀ (e:List (List α)) (idx:Nat) (x:α),(∀ r∈e,r.length=sz)→e.flatten[idx]?=some x→∃ i j r,e[i]?=some r∧r[j]?=some x∧idx=i*sz+j
 | [],_,_,_,h=>by simp at h
 | r :: e,idx,x,hr,h=>by
  rw[List.flatten_cons] at h
  by_cases hl:idx<r.length
  ·rw[List.getElem?_append_left hl] at h;exact⟨0,idx,r,rfl,h,by simp⟩
  ·rw[List.getElem?_append_right (by omega)] at h
   obtain⟨i,j,r',h1,h2,h3⟩:=flat_at e _ x (fun r h=>hr r (by simp[h])) h
   have:=hr r (by simp)
   exact⟨i+1,j,r',by simpa using h1,h2,by rw[Nat.add_mul];omega⟩
theorem flat_len {α:Type} {sz:Nat} : ∀ (e:List (List α)),(∀ r∈e,r.length=sz)→e.flatten.length=e.length*sz
 | [],_=>by simp
 | r :: e,hr=>by
  have:=hr r (by simp)
  have ih:=flat_len e (fun r h=>hr r (by simp[h]))
  simp only[List.flatten_cons,List.length_append,List.length_cons,Nat.add_mul];omega
theorem heapCell0_le {l m:Nat} {x:AV} (h:heapCell0 l x=true) (hl:l≤m):heapCell0 m x=true:=by
 cases x<;>first|exact h|(simp only[heapCell0,Nat.ble_eq] at h ⊢;omega)
theorem heapPart_le {l m:Nat} {x:AV} (h:heapPart l x=true) (hl:l≤m):heapPart m x=true:=by
 unfold heapPart at h ⊢
 split
 ·exact List.all_eq_true.2 fun y hy=>heapCell0_le (List.all_eq_true.1 h y hy) hl
 ·rename_i hn
  split at h
  ·exact absurd rfl (hn _)
  ·exact heapCell0_le h hl
theorem heapCell_le {l m:Nat} {x:AV} (h:heapCell l x=true) (hl:l≤m):heapCell m x=true:=by
 cases x
 case func f fs cs =>
  simp only[heapCell,Bool.and_eq_true,List.all_eq_true] at h ⊢
  exact⟨fun y hy=>heapPart_le (h.1 y hy) hl,fun y hy=>heapPart_le (h.2 y hy) hl⟩
 all_goals first|exact h|(simp only[heapCell,Nat.ble_eq] at h ⊢;omega)
theorem WRel.arr (hW:WRel G base H gh w) {gh' : Gh} {touch:Owner→Prop} (st:Step touch H.length gh w gh' w') {H' : AHeap} (hlen:H'.length=H.length)
  (hold:∀ (loc:Nat) (o:AObj),H'[loc]?=some o→(H[loc]?=some o∧¬ touch (.hb loc)∧∀ j,¬ touch (.hs loc j))∨o=.dead)
  (hs:∀ b o,gh'.S b o→gh.S b o) (hk:∀ b,gh'.κ b≠.none→base≤b∧b<w'.heap.size) {cs:List AV}
  (hB:BoxAt gh' (H.length+1) w' (gh'.ρ H.length) (.hb H.length) (fun j=>.hs H.length j) cs) (hr:cs.all (heapCell H.length)=true):WRel G base (H'++[.box freeTy cs]) gh' w':=by
 have last:∀ {loc:Nat} {o:AObj},(H'++[AObj.box freeTy cs])[loc]?=some o→(loc<H.length∧H'[loc]?=some o)∨(loc=H.length∧o=.box freeTy cs):=by
  intro loc o hl
  by_cases hlt:loc<H'.length
  ·rw[List.getElem?_append_left hlt] at hl;exact .inl ⟨by omega,hl⟩
  ·rw[List.getElem?_append_right (by omega)] at hl
   have hz:loc=H'.length:=by
    have:=(List.getElem?_eq_some_iff.1 hl).1
    simp at this;omega
   subst hz
   simp at hl
   exact .inr ⟨hlen,hl.symm⟩
 have hln:(H'++[AObj.box freeTy cs]).length=H.length+1:=by simp[hlen]
 refine⟨Nat.le_trans hW.size st.size,fun b o ho=>Nat.lt_of_lt_of_le (hW.sLt b o (hs b o ho)) st.size,hk,fun g j x hx=>?_,fun loc ty ds hl=>?_,fun loc ty ds hl=>?_,fun g hg=>(hW.tabs g hg).imp fun ty h=>st.len g ty _ h,hW.bytes_step st (fun b o m h=>.inl (hs b o h)),fun loc o hl=>?_,fun loc ty ds hl hf=>?_⟩
 ·obtain⟨v,h1,h2,h3⟩:=hW.glob g j x hx
  exact⟨v,(st.cell g j h3).trans h1,h2.mono st.S st.cell st.mp,st.S g j h3⟩
 ·rw[hln]
  rcases last hl with ⟨hlt,hl⟩|⟨rfl,ho⟩
  ·rcases hold loc _ hl with ⟨h0,h1,h2⟩|h0
   ·rw[st.ρ loc hlt];exact (hW.boxes loc ty ds h0).mono st (Nat.le_succ _) h1 h2
   ·cases h0
  ·injection ho with e1 e2
   subst e1 e2
   exact hB
 ·rcases last hl with ⟨hlt,hl⟩|⟨rfl,ho⟩
  ·rcases hold loc _ hl with ⟨h0,_⟩|h0
   ·exact hW.refs loc ty ds h0
   ·cases h0
  ·injection ho with e1 e2
   subst e1 e2
   exact hr
 ·rw[hln]
  rcases last hl with ⟨hlt,hl⟩|⟨rfl,rfl⟩
  ·rcases hold loc _ hl with ⟨h0,h1,h2⟩|rfl
   ·rw[st.ρ loc hlt];exact (hW.more loc o h0).mono st (Nat.le_succ _) h1 h2
   ·trivial
  ·trivial
 ·rcases last hl with ⟨hlt,hl⟩|⟨rfl,ho⟩
  ·rcases hold loc _ hl with ⟨h0,_⟩|h0
   ·rw[st.ρ loc hlt];exact st.len _ _ _ (hW.types loc ty ds h0 hf)
   ·cases h0
  ·injection ho with e1 e2
   exact absurd e1 hf
def Gh.rename (gh:Gh) (l n b:Nat):Gh where
 S:=gh.S
 κ:=fun x=>match gh.κ x with
  | .hb i=>if i=l then .hb n else .hb i
  | .hs i j=>if i=l then .hs n j else .hs i j
  | k=>k
 ρ:=fun i=>if i=n then b else gh.ρ i
theorem rename_κ {l n b x:Nat} (h:gh.κ x≠.hb l∧∀ j,gh.κ x≠.hs l j):(gh.rename l n b).κ x=gh.κ x:=by
 simp only[Gh.rename]
 generalize gh.κ x=k at h
 cases k with
 | hb i=>simp only;rw[if_neg (fun e=>h.1 (by rw[e]))]
 | hs i j=>simp only;rw[if_neg (fun e=>h.2 j (by rw[e]))]
 | _=>rfl
theorem rename_none {l n b x:Nat} : (gh.rename l n b).κ x=.none↔gh.κ x=.none:=by
 simp only[Gh.rename]
 generalize gh.κ x=k
 cases k with
 | hb i=>simp only;split<;>simp
 | hs i j=>simp only;split<;>simp
 | _=>simp
theorem rename_outer {l n b x:Nat} : (gh.rename l n b).κ x=.outer↔gh.κ x=.outer:=by
 simp only[Gh.rename]
 generalize gh.κ x=k
 cases k with
 | hb i=>simp only;split<;>simp
 | hs i j=>simp only;split<;>simp
 | _=>simp
def touchObj (l:Nat) (r:Owner):Prop:=r=.hb l∨∃ j,r=.hs l j
theorem Step.renamed {touch:Owner→Prop} {m l n b:Nat} (st:Step touch m gh w gh1 w') (hn:m≤n) (ht:∀ r,touch r→touchObj l r):Step (touchObj l) m gh w (gh1.rename l n b) w':=by
 refine⟨st.S,st.cell,st.size,st.os,st.tape,st.output,fun x hx hno=>?_,fun x hx=>?_,fun loc hl=>?_,st.len,st.mp⟩
 ·obtain⟨k1,k2,k3⟩:=st.blk x hx (fun h=>hno (ht _ h))
  refine⟨k1,?_,k3⟩
  rw[rename_κ (by rw[k2];exact⟨fun h=>hno (.inl h),fun j h=>hno (.inr ⟨j,h⟩)⟩),k2]
 ·intro h
  exact st.fresh x hx (rename_outer.1 h)
 ·show (if loc=n then _ else _)=_
  rw[if_neg (by omega)]
  exact st.ρ loc hl
theorem CR.rename {m m' l n b j:Nat} {v:Value} {x:AV} (h:CR gh m w (.hs l j) v x) (hf:∀ b,w.heap.size≤b→gh.κ b≠.outer) (hm:m≤n) (hm' : m≤m'):CR (gh.rename l n b) m' w (.hs n j) v x:=by
 have st:Step (touchObj l) m gh w (gh.rename l n b) w:=Step.renamed (touch:=fun _=>False) (Step.refl _ _ _ _ hf) hm (fun _ h=>h.elim)
 rcases h with h|⟨e,rfl,h1,b',cap,C,ty,lo,hi,sz,hv,hk,he,hb,hC,hr,hl,hh,hS⟩
 ·exact .inl (h.mono st hm')
 ·exact .inr ⟨e,rfl,h1,b',cap,C,ty,lo,hi,sz,hv,by simp[Gh.rename,hk],he,hb,hC,hr,hl,hh,hS⟩
theorem touchObj_frame (l:Nat) (i:Nat):¬ touchObj l (.bx i)∧¬ touchObj l (.sl i)∧∀ j,¬ touchObj l (.sc i j):=by
 refine⟨?_,?_,fun j=>?_⟩<;>(rintro (h|⟨_,h⟩)<;>cases h)
theorem touchObj_any (l:Nat) (r:Owner) (h:touchObj l r):touchAny r:=by
 rcases h with rfl|⟨j,rfl⟩<;>exact⟨by simp,by simp⟩
theorem Out.arr (hF:FR L nt gh w a s) {d:Option Nat} (hd:∀ k,d=some k→k<nt) {gh' : Gh} {l:Nat} (st:Step (touchObj l) s.H.length gh w gh' w') (ho:∀ b,gh'.κ b=.outer→gh.κ b=.outer) {H' : AHeap} {lo k cap z:Nat} (hlen:H'.length=s.H.length) {cs:List AV}
  (hW:WRel G base (H'++[.box freeTy cs]) gh' w') (hk:k≤cap) (hz:∃ ty,BlkLen w' (gh'.ρ s.H.length) ty (0+cap*z)) :
  Out G base nt L gh w a s d (.sref s.H.length 0 k z) (s.chg ⟨H'++[.box freeTy cs],lo⟩) (.slice (some ⟨gh'.ρ s.H.length,0,none⟩) k cap) gh' w':=by
 have hv:VR gh' (H'++[AObj.box freeTy cs]).length w' (.slice (some ⟨gh'.ρ s.H.length,0,none⟩) k cap) (.sref s.H.length 0 k z):=.sref _ 0 k cap z (by simp[hlen]) hk (fun _=>hz)
 exact⟨hW,hF.put st (touchObj_frame l) (by simp[hlen]) d hd (.of_VR hv),⟨st.mono (touchObj_any l),ho⟩⟩
theorem flat_rows {sz:Nat} {A:Array Value} {E:List (List AV)} {S:Nat→Nat→Prop} (h:RowsP S w sz A E) {j:Nat} {x:AV} (hx:E.flatten[j]?=some x):∃ v,A[j]?=some v∧PR S w v x:=by
 obtain⟨i,k,r,h1,h2,rfl⟩:=flat_at E j x (fun r hm=>by obtain⟨i,hi⟩:=List.getElem?_of_mem hm;exact h.2.1 i r hi) hx
 exact h.2.2 i k r x h1 h2
theorem nil_shape {n:Nat} {p:Owner} {V:Value} (h:CR gh n w p V (.slice [] true)):∃ ao,V=.slice ao 0 0:=by
 rcases h with h|⟨e',heq,_,b,cap,C,ty,lo,hi,sz',hval,hk,hne,_⟩
 ·cases h with
  | plain _ _ h=>cases h
  | full ao k _ h hz =>
   cases h with
   | sliceNil=>exact⟨none,rfl⟩
   | slice b o _ _ sz' _ _ hn=>simp at hn;subst hn;exact⟨_,rfl⟩
 ·injection heq with h1;subst h1;exact absurd rfl hne
theorem src_nil {t e:TypeId} {sz:Nat} (ht:P.underlying t=some (.slice e)) (ao:Option Addr):Src P sz t (.slice ao 0 0) 0 [] w:=by
 refine⟨.inl ⟨_,ht⟩,fun _=>rfl,?_,?_,by simp,fun _ h=>by cases h⟩
 ·cases ao with
  | none=>exact run_firstCells_none w _ 0 0 0
  | some ad=>exact run_firstCells_some w _ 0 ad 0 0 [] (by simp) (fun j v h=>by simp at h)
 ·cases ao with
  | none=>exact run_firstCells_none w.drew _ 0 0 0
  | some ad=>exact run_firstCells_some w.drew _ 0 ad 0 0 [] (by simp) (fun j v h=>by simp at h)
theorem plainRows_all {f:List (List AV)} (h:plainRows f=true) {x:AV} (hx:x∈f.flatten):x.plain=true:=by
 obtain⟨r,hr,hx⟩:=List.mem_flatten.1 hx
 exact List.all_eq_true.1 (List.all_eq_true.1 h r hr) x hx
theorem heap_of_plain {x:AV} (h:x.plain=true) (n:Nat):heapCell n x=true:=heapCell_plain h
theorem ev_appendO (hW:WRel G base s.H gh w) (hF:FR L nt gh w a s) {o:Oper} {c:Call} {x y:Operand} {t u e:TypeId} {sz bytes:Nat} {yx yy:IArg} {z:AV} {s' : Option AS}
  (ho:o.op=.call c) (hcal:c.callee=.builtin .append) (hargs:c.args.toList=[x,y]) (htys:c.argTypes.toList=[t,u]) (hT:ElemT P t e sz bytes) (hu:(∃ e',P.underlying u=some (.slice e'))∨P.underlying u=some .string)
  (hcx:compArg nt x=some yx) (hcy:compArg nt y=some yy) (he:evAppendO s sz bytes (yx.addr G s.T) (yy.eval G s.T)=some (z,s')) (hd:∀ k,o.dst=some k→k<nt) :
  ∃ v' gh' w',Ran P a o w v' w'∧Out G base nt L gh w a s o.dst z (s'.getD s) v' gh' w':=by
 have hfresh:=fun b hb=>hW.not_outer (gh:=gh) b hb
 simp only[evAppendO,Option.bind_eq_some_iff] at he
 obtain⟨f,hf,he⟩:=he
 obtain⟨i,zv,hi,_,rfl,_⟩:=hT.hi
 have fresh:∀ ao,a.eval x=.slice ao 0 0→cond (!f.isEmpty&&fitsRows i.size bytes [] f&&plainRows f) (some (AV.sref s.H.length 0 f.length i.size,some (s.chg ⟨s.H++[.box freeTy f.flatten],s.H.length⟩))) none=some (z,s') →
   ∃ v' gh' w',Ran P a o w v' w'∧Out G base nt L gh w a s o.dst z (s'.getD s) v' gh' w':=by
  intro ao hV he
  obtain⟨h0,he⟩:=cond_some he
  simp only[Option.some.injEq,Prod.mk.injEq] at he
  obtain⟨rfl,rfl⟩:=he
  simp only[Bool.and_eq_true,fitsRows,Nat.ble_eq,List.length_nil,Nat.zero_add,Bool.not_eq_true',List.isEmpty_eq_false_iff] at h0
  obtain⟨⟨hne,⟨⟨hb1,hb2⟩,_⟩,hh⟩,hpl⟩:=h0
  obtain⟨news,hs,hrows⟩:=src_arg (P:=P) hW hF hcy hf hh hu
  have hflen:0<f.length:=List.length_pos_iff.2 hne
  obtain⟨cap',C',hrun,hcap,hC',hpre⟩:=grow (P:=P) (ty:=o.type) (ao:=ao) (sLen:=0) (sCap:=0) hT (src_nil (w:=w) hT.ht ao).cellsD (by simp) hs (by omega) (by omega) (by simpa using hb1)
  have hp' : Pushed w (w.drew.alloc (.cells C' e)) (.cells C' e):=.drew w _
  have st0:=pushBox_step hW hp'
  have st:Step (touchObj s.H.length) s.H.length gh w (gh.pushBox w.heap.size s.H.length) (w.drew.alloc (.cells C' e)):=st0.mono (fun _ h=>h.elim)
  have hρ:(gh.pushBox w.heap.size s.H.length).ρ s.H.length=w.heap.size:=by simp[Gh.pushBox]
  have hflat:f.flatten.length≤C'.size:=by
   have h1:f.flatten.length=f.length*i.size:=flat_len f (fun r hm=>by obtain⟨k,hk⟩:=List.getElem?_of_mem hm;exact hrows.2.1 k r hk)
   rw[h1,hC']
   exact Nat.mul_le_mul_right _ (by omega)
  have hB:BoxAt (gh.pushBox w.heap.size s.H.length) (s.H.length+1) (w.drew.alloc (.cells C' e)) ((gh.pushBox w.heap.size s.H.length).ρ s.H.length) (.hb s.H.length) (fun j=>.hs s.H.length j) f.flatten:=by
   rw[hρ]
   refine⟨by simp[Gh.pushBox,Gh.alloc],?_,C',e,hp'.new,hflat,fun j v x hv hx=>?_⟩
   ·rintro o (ho|⟨_,ho⟩)
    ·have:=hW.sLt _ o ho;omega
    ·exact ho
   ·obtain⟨v',hv',hp⟩:=flat_rows hrows hx
    have hlt:=(Array.getElem?_eq_some_iff.1 hv').1
    rw[hpre j (by simpa using hlt)] at hv
    simp only[List.nil_append] at hv
    rw[hv'] at hv
    injection hv with hv
    subst hv
    exact⟨hp.oneCell,.inl (.plain _ _ (hp.mono st.S st.cell st.mp))⟩
  have hr:f.flatten.all (heapCell s.H.length)=true:=List.all_eq_true.2 fun x hx=>heap_of_plain (plainRows_all hpl hx) _
  have hW':=hW.arr st0 (H':=s.H) rfl (fun loc o h=>.inl ⟨h,id,fun _=>id⟩) (fun b o h=>h.elim id (fun h=>h.2.elim)) (fun b hb=>by
   rw[hp'.size]
   have hb' : (if b=w.heap.size then Owner.hb s.H.length else gh.κ b)≠.none:=hb
   split at hb'
   ·have:=hW.size;omega
   ·have:=hW.kLt b hb';omega) hB hr
  refine⟨_,gh.pushBox w.heap.size s.H.length,w.drew.alloc (.cells C' e),.inl (run_call_append ho hcal hargs htys (by rw[hV];exact hrun)),?_⟩
  have:=Out.arr (lo:=s.H.length) (k:=0+f.length) (cap:=cap') (z:=i.size) hF hd st (fun b hb=>(pushBox_ext hW hp').out b hb) rfl hW' hcap ⟨e,by rw[hρ];exact⟨C',(0,0),hp'.new,by rw[hC',Nat.zero_add]⟩⟩
  rw[hρ,Nat.zero_add] at this
  rw[Nat.zero_add]
  exact this
 split at he
 ·rename_i hx
  have hCR:∃ p,CR gh s.H.length w p (a.eval x) (.slice [] true):=by
   cases yx with
   | tmp t0 =>
    obtain⟨rfl,ht⟩:=compArg_tmp hcx
    have hT0:s.T t0=.slice [] true:=by
     simp only[IArg.addr] at hx
     split at hx<;>first|cases hx|exact hx
    exact⟨_,arg_own hF ht hT0⟩
   | con v =>
    simp only[IArg.addr] at hx
    subst hx
    cases x with
    | tmp k =>
     simp only[compArg] at hcx
     rcases Bool.eq_false_or_eq_true (Nat.blt k nt) with hb|hb<;>rw[hb] at hcx<;>simp at hcx
    | const u =>
     simp only[compArg,Option.map_eq_some_iff] at hcx
     obtain⟨zz,hz,h⟩:=hcx
     injection h with h
     subst h
     exact⟨.none,.inl (constArg_VR hz)⟩
    | global g=>simp[compArg] at hcx
    | func f=>simp[compArg] at hcx
   | glob g=>simp[IArg.addr] at hx
   | fn f=>simp[IArg.addr] at hx
  obtain⟨_,hCR⟩:=hCR
  obtain⟨ao,hV⟩:=nil_shape hCR
  exact fresh ao hV he
 ·rename_i hx
  exact fresh none (arg_VR' hW hF hcx hx rfl).inv_nilsl he
 ·rename_i l of n zz hx
  split at he
  ·rename_i ty cs hH
   obtain⟨h0,he⟩:=cond_some he
   simp only[Option.some.injEq,Prod.mk.injEq] at he
   obtain⟨rfl,rfl⟩:=he
   simp only[Bool.and_eq_true,nbeq,decide_eq_true_eq,Nat.ble_eq] at h0
   obtain⟨⟨⟨⟨⟨⟨rfl,rfl⟩,hcs⟩,hb1⟩,hb2⟩,hh⟩,hpl⟩:=h0
   obtain⟨news,hs,hrows⟩:=src_arg (P:=P) hW hF hcy hf hh hu
   obtain⟨hlt,cap,hncap,hzB,hV⟩:=VR.inv_sref (arg_VR' hW hF hcx hx rfl)
   obtain⟨tyb,Cb,frb,hbb,hCb⟩:=hzB (by have:=hT.pos;omega)
   obtain⟨hκ,hS,C,ty1,hb,hle,hcell⟩:=hW.boxes l ty cs hH
   rw[hb] at hbb
   injection hbb with hbb
   injection hbb with e1 e2 e3
   subst e1 e2 e3
   rw[Nat.zero_add] at hCb
   have holen:(C.toList.take (n*i.size)).length=n*i.size:=by simp;omega
   have hold:∀ {j:Nat} {x:AV},cs[j]?=some x→∃ v,C[j]?=some v∧v.oneCell'=true∧CR gh s.H.length w (.hs l j) v x:=by
    intro j x hj
    have h1:=(List.getElem?_eq_some_iff.1 hj).1
    have hv:C[j]?=some C[j]:=Array.getElem?_eq_getElem (by omega)
    obtain⟨k1,k2⟩:=hcell j _ x hv hj
    exact⟨_,hv,k1,k2⟩
   have hone:∀ v∈C.toList.take (n*i.size),v.oneCell'=true:=by
    intro v hv
    obtain⟨j,hj⟩:=List.getElem?_of_mem hv
    have h1:j<n*i.size:=by rw[← holen];exact (List.getElem?_eq_some_iff.1 hj).1
    rw[List.getElem?_take,if_pos h1] at hj
    obtain⟨v',k1,k2,_⟩:=hold (List.getElem?_eq_getElem (show j<cs.length by omega))
    rw[Array.getElem?_toList,k1] at hj
    injection hj with hj
    subst hj
    exact k2
   have hsV:Src P i.size t (.slice (some ⟨gh.ρ l,0,none⟩) n cap) n (C.toList.take (n*i.size)) w:=.ofSlice w hT.ht ⟨gh.ρ l,0,none⟩ n cap _ holen (fun j u hj=>by
    rw[addr_add,Nat.zero_add,cell_of_row w _ j C ty1 _ hb]
    rw[List.getElem?_take] at hj
    split at hj
    ·simpa using hj
    ·cases hj) hone
   have hnl:news.length=f.length*i.size:=hs.newsLen
   have hfl:f.flatten.length=f.length*i.size:=flat_len f (fun r hm=>by obtain⟨k,hk⟩:=List.getElem?_of_mem hm;exact hrows.2.1 k r hk)
   have hrefs:(cs++f.flatten).all (heapCell s.H.length)=true:=by
    rw[List.all_append,Bool.and_eq_true]
    refine⟨List.all_eq_true.2 fun x hx=>?_,List.all_eq_true.2 fun x hx=>heap_of_plain (plainRows_all hpl hx) _⟩
    exact heapCell_le (List.all_eq_true.1 (hW.refs l ty cs hH) x hx) (by omega)
   have hdead:∀ {touch:Owner→Prop},(∀ r,touch r→touchObj l r)→∀ (loc:Nat) (o:AObj),(s.H.set l .dead)[loc]?=some o→(s.H[loc]?=some o∧¬ touch (.hb loc)∧∀ j,¬ touch (.hs loc j))∨o=.dead:=by
    intro touch ht loc o h
    rw[List.getElem?_set] at h
    split at h
    ·injection h with h;exact .inr h.symm
    ·rename_i hne
     refine .inl ⟨h,fun k=>?_,fun j k=>?_⟩
     ·rcases ht _ k with k|⟨_,k⟩
      ·injection k with k;exact hne k.symm
      ·cases k
     ·rcases ht _ k with k|⟨_,k⟩
      ·cases k
      ·injection k with k;exact hne k.symm
   by_cases hgr:cap<n+f.length
   ·
    obtain⟨cap',C',hrun,hcap,hC',hpre⟩:=grow (P:=P) (ty:=o.type) hT hsV.cellsD holen hs hgr hb2 hb1
    have hp' : Pushed w (w.drew.alloc (.cells C' e)) (.cells C' e):=.drew w _
    have st0:=alloc_step hW hp' (p:=.hb l) (by simp) (fun _=>False) s.H.length
    have st:=st0.renamed (n:=s.H.length) (b:=w.heap.size) (l:=l) (Nat.le_refl _) (fun _ h=>h.elim)
    have hρ:((gh.alloc w.heap.size (.hb l) fun _=>False).rename l s.H.length w.heap.size).ρ s.H.length=w.heap.size:=by simp[Gh.rename]
    have hfr' : ∀ b,(w.drew.alloc (.cells C' e)).heap.size≤b→(gh.alloc w.heap.size (.hb l) fun _=>False).κ b≠.outer:=fun b hb=>by
     have hb0:=hp'.size ▸ hb
     show (if b=w.heap.size then Owner.hb l else gh.κ b)≠_
     rw[if_neg (by omega)]
     exact hW.not_outer b (by omega)
    have hB:BoxAt ((gh.alloc w.heap.size (.hb l) fun _=>False).rename l s.H.length w.heap.size) (s.H.length+1) (w.drew.alloc (.cells C' e)) (((gh.alloc w.heap.size (.hb l) fun _=>False).rename l s.H.length w.heap.size).ρ s.H.length) (.hb s.H.length) (fun j=>.hs s.H.length j) (cs++f.flatten):=by
     rw[hρ]
     refine⟨by simp[Gh.rename,Gh.alloc],?_,C',e,hp'.new,?_,fun j v x hv hx=>?_⟩
     ·rintro o (ho|⟨_,ho⟩)
      ·have:=hW.sLt _ o ho;omega
      ·exact ho
     ·rw[List.length_append,hcs,hfl,hC',← Nat.add_mul]
      exact Nat.mul_le_mul_right _ hcap
     ·have hj:j<(C.toList.take (n*i.size)++news).toArray.size:=by
       have:=(List.getElem?_eq_some_iff.1 hx).1
       rw[List.length_append,hcs,hfl] at this
       simp only[List.size_toArray,List.length_append,holen,hnl];exact this
      rw[hpre j hj] at hv
      simp only[List.getElem?_toArray,List.getElem?_append,holen] at hv
      rw[List.getElem?_append,hcs] at hx
      split at hv
      ·rename_i h1
       rw[if_pos h1] at hx
       obtain⟨v',k1,k2,k3⟩:=hold hx
       rw[List.getElem?_take,if_pos h1,Array.getElem?_toList,k1] at hv
       injection hv with hv
       subst hv
       exact⟨k2,(k3.mono st0 (Nat.le_refl _) id).rename hfr' (Nat.le_refl _) (Nat.le_succ _)⟩
      ·rename_i h1
       rw[if_neg h1] at hx
       obtain⟨v',k1,k2⟩:=flat_rows hrows hx
       simp only[List.getElem?_toArray] at k1
       rw[k1] at hv
       injection hv with hv
       subst hv
       exact⟨k2.oneCell,.inl (.plain _ _ (k2.mono st.S st.cell st.mp))⟩
    have hW':=hW.arr st (H':=s.H.set l .dead) (by simp) (hdead (fun _ h=>h)) (fun b o h=>h.elim id (fun h=>h.2.elim)) (fun b hb=>by
     rw[hp'.size]
     have hb1:(gh.alloc w.heap.size (.hb l) fun _=>False).κ b≠.none:=fun h=>hb (rename_none.2 h)
     have hb' : (if b=w.heap.size then Owner.hb l else gh.κ b)≠.none:=hb1
     split at hb'
     ·have:=hW.size;omega
     ·have:=hW.kLt b hb';omega) hB hrefs
    refine⟨_,(gh.alloc w.heap.size (.hb l) fun _=>False).rename l s.H.length w.heap.size,w.drew.alloc (.cells C' e),.inl (run_call_append ho hcal hargs htys (by rw[hV];exact hrun)),?_⟩
    have:=Out.arr (lo:=l) (k:=n+f.length) (cap:=cap') (z:=i.size) hF hd st (fun b hb=>by
     have hb1:=rename_outer.1 hb
     have hb' : (if b=w.heap.size then Owner.hb l else gh.κ b)=.outer:=hb1
     split at hb'
     ·cases hb'
     ·exact hb') (by simp) hW' hcap ⟨e,by rw[hρ];exact⟨C',(0,0),hp'.new,by rw[hC',Nat.zero_add]⟩⟩
    rw[hρ] at this
    exact this
   ·
    have hroom:n+f.length≤cap:=by omega
    have hfit:n*i.size+news.length≤C.size:=by rw[hnl,hCb,← Nat.add_mul];exact Nat.mul_le_mul_right _ hroom
    have hrun:=room (P:=P) (ty:=o.type) hT hs hb (Nat.zero_le _) hroom hfit
    have hfit' : n*i.size+news.toArray.size≤C.size:=by simpa using hfit
    have hno:∀ o,gh.S (gh.ρ l) o→(rowPut C (n*i.size) news.toArray)[o]?=C[o]?:=fun o ho=>(hS o ho).elim
    have st0:=row_step0 hW hb (rowPut_size hfit') hno s.H.length
    rw[hκ] at st0
    have st:=st0.renamed (n:=s.H.length) (b:=gh.ρ l) (l:=l) (Nat.le_refl _) (fun r h=>.inl h)
    have hρ:(gh.rename l s.H.length (gh.ρ l)).ρ s.H.length=gh.ρ l:=by simp[Gh.rename]
    have hsz:(w.setRow (gh.ρ l) (rowPut C (n*i.size) news.toArray)).heap.size=w.heap.size:=by simp
    have hblt:gh.ρ l<w.heap.size:=(Array.getElem?_eq_some_iff.1 hb).1
    have hfr' : ∀ b,(w.setRow (gh.ρ l) (rowPut C (n*i.size) news.toArray)).heap.size≤b→gh.κ b≠.outer:=fun b hb=>hW.not_outer b (by rw[hsz] at hb;exact hb)
    have hB:BoxAt (gh.rename l s.H.length (gh.ρ l)) (s.H.length+1) (w.setRow (gh.ρ l) (rowPut C (n*i.size) news.toArray)) ((gh.rename l s.H.length (gh.ρ l)).ρ s.H.length) (.hb s.H.length) (fun j=>.hs s.H.length j) (cs++f.flatten):=by
     rw[hρ]
     refine⟨by simp[Gh.rename,hκ],hS,_,ty1,setRow_heap w _ C _ ty1 _ hb,?_,fun j v x hv hx=>?_⟩
     ·rw[List.length_append,hcs,hfl,rowPut_size hfit',hCb,← Nat.add_mul]
      exact Nat.mul_le_mul_right _ hroom
     ·rw[rowPut_get hfit'] at hv
      have hjl:=(List.getElem?_eq_some_iff.1 hx).1
      rw[List.length_append,hcs,hfl] at hjl
      rw[List.getElem?_append,hcs] at hx
      simp only[List.size_toArray] at hv
      split at hx
      ·rename_i h1
       rw[if_neg (by omega)] at hv
       obtain⟨v',k1,k2,k3⟩:=hold hx
       rw[k1] at hv
       injection hv with hv
       subst hv
       exact⟨k2,(k3.mono st0 (Nat.le_refl _) (by simp)).rename hfr' (Nat.le_refl _) (Nat.le_succ _)⟩
      ·rename_i h1
       rw[if_pos (by omega)] at hv
       obtain⟨v',k1,k2⟩:=flat_rows hrows hx
       rw[k1] at hv
       injection hv with hv
       subst hv
       exact⟨k2.oneCell,.inl (.plain _ _ (k2.mono st.S st.cell st.mp))⟩
    have hW':=hW.arr st (H':=s.H.set l .dead) (by simp) (hdead (fun _ h=>h)) (fun b o h=>h) (fun b hb=>by
     rw[hsz]
     exact hW.kLt b (fun h=>hb (rename_none.2 h))) hB hrefs
    refine⟨_,gh.rename l s.H.length (gh.ρ l),w.setRow (gh.ρ l) (rowPut C (n*i.size) news.toArray),.inl (run_call_append ho hcal hargs htys (by rw[hV];exact hrun)),?_⟩
    have:=Out.arr (lo:=l) (k:=n+f.length) (cap:=cap) (z:=i.size) hF hd st (fun b hb=>rename_outer.1 hb) (by simp) hW' hroom ⟨ty1,by rw[hρ];exact⟨_,(0,0),setRow_heap w _ C _ ty1 _ hb,by rw[rowPut_size hfit',hCb,Nat.zero_add]⟩⟩
    rw[hρ] at this
    exact this
  ·cases he
 ·cases he
theorem ev_mksliceO (hW:WRel G base s.H gh w) (hF:FR L nt gh w a s) {o:Oper} {t e:TypeId} {len sz:Nat} {parts:Array (Nat × Operand)} {z:List AV} {E:List (List AV)} {ps:List (Nat × IArg)}
  (ho:o.op=.buildSlice t len parts) (hu:P.underlying t=some (.slice e)) (hs:sizeT P e=some sz) (hz:zeroT P e=some z) (hp:compElems nt parts.toList=some ps)
  (hsmall:len*sz≤16777216) (hzl:z.length=sz) (hpos:0<sz) (hpl:plainRows E=true)
  (he:sliceParts sz (List.replicate len (z.map AV.drop)) (ps.map fun p=>(p.1,(p.2.eval G s.T).drop))=some E) (hd:∀ k,o.dst=some k→k<nt) :
  ∃ v' gh' w',Ran P a o w v' w'∧Out G base nt L gh w a s o.dst (.sref s.H.length 0 E.length sz) (s.chg ⟨s.H++[.box freeTy E.flatten],s.H.length⟩) v' gh' w':=by
 obtain⟨C',hrun,hrows,hlenE⟩:=mkslice_run (P:=P) hW hF hu hs hz hp hsmall hzl hpos he
 have hp':=Pushed.alloc w (.cells C' e)
 have st0:=pushBox_step hW hp'
 have st:Step (touchObj s.H.length) s.H.length gh w (gh.pushBox w.heap.size s.H.length) (w.alloc (.cells C' e)):=st0.mono (fun _ h=>h.elim)
 have hρ:(gh.pushBox w.heap.size s.H.length).ρ s.H.length=w.heap.size:=by simp[Gh.pushBox]
 have hfl:E.flatten.length=E.length*sz:=flat_len E (fun r hm=>by obtain⟨k,hk⟩:=List.getElem?_of_mem hm;exact hrows.2.1 k r hk)
 have hB:BoxAt (gh.pushBox w.heap.size s.H.length) (s.H.length+1) (w.alloc (.cells C' e)) ((gh.pushBox w.heap.size s.H.length).ρ s.H.length) (.hb s.H.length) (fun j=>.hs s.H.length j) E.flatten:=by
  rw[hρ]
  refine⟨by simp[Gh.pushBox,Gh.alloc],?_,C',e,hp'.new,by rw[hfl,hrows.1];exact Nat.le_refl _,fun j v x hv hx=>?_⟩
  ·rintro o (ho|⟨_,ho⟩)
   ·have:=hW.sLt _ o ho;omega
   ·exact ho
  ·obtain⟨v',hv',hp⟩:=flat_rows hrows hx
   rw[hv'] at hv
   injection hv with hv
   subst hv
   exact⟨hp.oneCell,.inl (.plain _ _ (hp.mono st.S st.cell st.mp))⟩
 have hr:E.flatten.all (heapCell s.H.length)=true:=List.all_eq_true.2 fun x hx=>heap_of_plain (plainRows_all hpl hx) _
 have hW':=hW.arr st0 (H':=s.H) rfl (fun loc o h=>.inl ⟨h,id,fun _=>id⟩) (fun b o h=>h.elim id (fun h=>h.2.elim)) (fun b hb=>by
  rw[hp'.size]
  have hb' : (if b=w.heap.size then Owner.hb s.H.length else gh.κ b)≠.none:=hb
  split at hb'
  ·have:=hW.size;omega
  ·have:=hW.kLt b hb';omega) hB hr
 refine⟨.slice (some ⟨w.heap.size,0,none⟩) len len,gh.pushBox w.heap.size s.H.length,w.alloc (.cells C' e),.inl ?_,?_⟩
 ·have:(parts.map fun x=>(x.1,a.eval x.2))=parts.map fun p=>(p.1,a.eval p.2):=rfl
  simp[execOp,ho,hrun]
 ·have:=Out.arr (lo:=s.H.length) (k:=E.length) (cap:=len) (z:=sz) hF hd st (fun b hb=>(pushBox_ext hW hp').out b hb) rfl hW' (Nat.le_of_eq hlenE) ⟨e,by rw[hρ];exact⟨_,(0,0),hp'.new,by rw[hrows.1,hlenE,Nat.zero_add]⟩⟩
  rw[hρ,← hlenE] at this
  rw[← hlenE]
  exact this
theorem ev_mkarr (hW:WRel G base s.H gh w) (hF:FR L nt gh w a s) {o:Oper} {t e:TypeId} {i:TypeInfo} {zv:Value} {zero:List AV} {x y:Operand} {yx:IArg} {z:AV} {s' : Option AS}
  (ho:o.op=.makeSlice t x y) (hxy:sameTmp x y=true) (ht:P.underlying t=some (.slice e)) (hi:P.info? e=some i) (hz:i.zero=some zv) (hzc:constCells zv.cells.toList=some zero) (hzs:zv.cells.size=i.size) (hpos:0<i.size)
  (hcx:compArg nt x=some yx) (he:evMkarr s i.size i.bytes (zero.map AV.drop) (yx.eval G s.T)=some (z,s')) (hd:∀ k,o.dst=some k→k<nt) :
  ∃ v' gh' w',Ran P a o w v' w'∧Out G base nt L gh w a s o.dst z (s'.getD s) v' gh' w':=by
 simp only[evMkarr,Option.bind_eq_some_iff] at he
 obtain⟨k,hk,he⟩:=he
 obtain⟨h0,he⟩:=cond_some he
 simp only[Option.some.injEq,Prod.mk.injEq] at he
 obtain⟨rfl,rfl⟩:=he
 simp only[Bool.and_eq_true,Nat.ble_eq] at h0
 obtain⟨hb1,hb2⟩:=h0
 obtain⟨kd,hik⟩:=asNat_inv hW hF hcx hk
 have hyx:a.eval y=a.eval x:=by
  cases x<;>cases y<;>simp only[sameTmp] at hxy<;>try (cases hxy;done)
  rw[Nat.eq_of_beq_eq_true hxy]
 have hrun:=run_make (P:=P) w t e i zv ht hi hz kd kd (k:Int) (k:Int) (by omega) (by omega) (by
  have:(i.bytes:Int)*k=((k*i.bytes:Nat):Int):=by rw[Nat.mul_comm];simp
  rw[this];omega) (by omega)
 have hp' : Pushed w (w.alloc (.cells (madeCells zv.cells (k*i.size)) e)) (.cells (madeCells zv.cells (k*i.size)) e):=.alloc w _
 have st0:=pushBox_step hW hp'
 have st:Step (touchObj s.H.length) s.H.length gh w (gh.pushBox w.heap.size s.H.length) (w.alloc (.cells (madeCells zv.cells (k*i.size)) e)):=st0.mono (fun _ h=>h.elim)
 have hρ:(gh.pushBox w.heap.size s.H.length).ρ s.H.length=w.heap.size:=by simp[Gh.pushBox]
 obtain⟨hzl,hzv⟩:=constCells_VR (gh:=gh) (n:=s.H.length) (w:=w) hzc
 have hzl' : zero.length=i.size:=by rw[← hzs];simpa using hzl.symm
 have hrowl:∀ r∈List.replicate k (zero.map AV.drop),r.length=i.size:=fun r hr=>by rw[List.eq_of_mem_replicate hr];simpa using hzl'
 have hfl:(List.replicate k (zero.map AV.drop)).flatten.length=k*i.size:=by rw[flat_len _ hrowl];simp
 have hpl:∀ x,x∈(List.replicate k (zero.map AV.drop)).flatten→x.plain=true:=by
  intro x hx
  obtain⟨r,hr,hx⟩:=List.mem_flatten.1 hx
  rw[List.eq_of_mem_replicate hr] at hx
  obtain⟨y,hy,rfl⟩:=List.mem_map.1 hx
  exact constCells_all hzc y hy
 have hB:BoxAt (gh.pushBox w.heap.size s.H.length) (s.H.length+1) (w.alloc (.cells (madeCells zv.cells (k*i.size)) e)) ((gh.pushBox w.heap.size s.H.length).ρ s.H.length) (.hb s.H.length) (fun j=>.hs s.H.length j) (List.replicate k (zero.map AV.drop)).flatten:=by
  rw[hρ]
  refine⟨by simp[Gh.pushBox,Gh.alloc],?_,_,e,hp'.new,by rw[hfl,size_madeCells];exact Nat.le_refl _,fun j v x hv hx=>?_⟩
  ·rintro o (ho|⟨_,ho⟩)
   ·have:=hW.sLt _ o ho;omega
   ·exact ho
  ·obtain⟨m,q,r,h1,h2,rfl⟩:=flat_at _ j x hrowl hx
   have hr:r=zero.map AV.drop:=List.eq_of_mem_replicate (List.mem_of_getElem? h1)
   subst hr
   have hq:q<i.size:=by rw[← hzl'];simpa using (List.getElem?_eq_some_iff.1 h2).1
   simp only[List.getElem?_map,Option.map_eq_some_iff] at h2
   obtain⟨y,hy,rfl⟩:=h2
   have hjl:=(Array.getElem?_eq_some_iff.1 hv).1
   rw[size_madeCells] at hjl
   simp only[madeCells,Array.getElem?_map,Array.getElem?_range,if_pos hjl,Option.map_some,Option.some.injEq] at hv
   have hmod:(m*i.size+q) % zv.cells.size=q:=by rw[hzs,Nat.mul_comm,Nat.mul_add_mod,Nat.mod_eq_of_lt hq]
   rw[hmod] at hv
   have hqz:q<zv.cells.size:=by omega
   have hc:zv.cells[q]?=some zv.cells[q]:=Array.getElem?_eq_getElem hqz
   have hv2:v=zv.cells[q]:=by rw[← hv];exact getElem!_pos zv.cells q hqz
   subst hv2
   obtain⟨k1,k2⟩:=hzv q _ y (by rw[Array.getElem?_toList];exact hc) hy
   exact⟨k2,.inl ((k1.dropped).mono st (Nat.le_succ _))⟩
 have hr:(List.replicate k (zero.map AV.drop)).flatten.all (heapCell s.H.length)=true:=List.all_eq_true.2 fun x hx=>heap_of_plain (hpl x hx) _
 have hW':=hW.arr st0 (H':=s.H) rfl (fun loc o h=>.inl ⟨h,id,fun _=>id⟩) (fun b o h=>h.elim id (fun h=>h.2.elim)) (fun b hb=>by
  rw[hp'.size]
  have hb' : (if b=w.heap.size then Owner.hb s.H.length else gh.κ b)≠.none:=hb
  split at hb'
  ·have:=hW.size;omega
  ·have:=hW.kLt b hb';omega) hB hr
 refine⟨.slice (some ⟨w.heap.size,0,none⟩) k k,gh.pushBox w.heap.size s.H.length,w.alloc (.cells (madeCells zv.cells (k*i.size)) e),.inl ?_,?_⟩
 ·have e1:(k:Int).toNat=k:=by simp
  rw[e1] at hrun
  simp only[execOp,ho,hyx,hik]
  simp[hrun]
 ·have:=Out.arr (lo:=s.H.length) (k:=k) (cap:=k) (z:=i.size) hF hd st (fun b hb=>(pushBox_ext hW hp').out b hb) rfl hW' (Nat.le_refl _) ⟨e,by rw[hρ];exact⟨_,(0,0),hp'.new,by rw[size_madeCells,Nat.zero_add]⟩⟩
  rw[hρ] at this
  exact this
end
end Go.Abs
end
section
namespace Go.Abs
set_option linter.unusedSimpArgs false
set_option linter.unusedVariables false
section
variable {P:Program} {G:Nat→List AV} {base nt:Nat} {L:List Nat} {gh gh1:Gh} {w w' : World} {a:Act} {s:AS} {H:AHeap}
theorem ev_nilS (hW:WRel G base s.H gh w) (hF:FR L nt gh w a s) {o:Oper} {op:BinOp} {t u:TypeId} {x y:Operand} {ix:IArg} {neg b:Bool}
  (ho:o.op=.binOp op t x y u) (hc:compArg nt x=some ix) (hn:nilNeg P op t y=some neg) (he:nilSl (ix.eval G s.T)=some b) :
  ∃ v,(execOp a.eval o).run P w=.ok (.value v) w∧Val gh s.H.length nt w s.T s.gen (tmv a) v (.bool (neg != b)):=by
 unfold nilNeg at hn
 split at hn
 ·rename_i e hu
  have hx:∃ ad n c,a.eval x=.slice ad n c∧ad.isNone=b:=by
   generalize hX:ix.eval G s.T=X at he
   unfold nilSl at he
   split at he
   ·injection he with he
    subst he
    have hv:=arg_VR hW hF hc hX rfl
    generalize a.eval x=V at hv
    cases hv with
    | plain _ _ h=>cases h;exact⟨_,_,_,rfl,rfl⟩
   ·injection he with he
    subst he
    rename_i r es own
    have hp:=(arg_VR hW hF hc hX rfl).inv_slice
    generalize a.eval x=V at hp
    cases hp with
    | slice b of n cap sz _ f hn hcap hrow hcell hrel=>exact⟨_,_,_,rfl,rfl⟩
   ·cases he
  obtain⟨ad,n,c,hA,hb⟩:=hx
  have hg:(eqGuard op t x (.const (.slice none 0 0)) (.slice ad n c) (.slice none 0 0)).run P w=.ok () w:=run_eqGuard_other (by intro c;simp) (.inl (by simp))
  split at hn
  ·injection hn with hn
   subst hn
   have hr:=Lib.run_eql_slice_nil w t e ad n c 0 0 hu
   refine⟨.bool ad.isNone,?_,.of_VR (.plain _ _ ?_)⟩
   ·simp only[execOp,ho,hA,show a.eval (.const (.slice none 0 0))=.slice none 0 0 from rfl,Sem.run_bind,hg,hr,Result.andThen_ok,Sem.run_pure]
   ·rw[hb];cases b<;>exact .bool _
  ·injection hn with hn
   subst hn
   have hr:=run_neq_slice_nil_any w t e ad n c 0 0 hu
   refine⟨.bool (!ad.isNone),?_,.of_VR (.plain _ _ ?_)⟩
   ·simp only[execOp,ho,hA,show a.eval (.const (.slice none 0 0))=.slice none 0 0 from rfl,Sem.run_bind,hg,hr,Result.andThen_ok,Sem.run_pure]
   ·rw[hb];cases b<;>exact .bool _
  ·cases hn
 ·cases hn
theorem ev_boxO (hW:WRel G base s.H gh w) (hF:FR L nt gh w a s) {o:Oper} {t:TypeId} {x:Operand} {y:IArg} {cs:List AV} (ho:o.op=.box t x) (hc:compArg nt x=some y) (hcs:(y.eval G s.T).drop.cells=some cs)
  (hd:∀ k,o.dst=some k→k<nt) :
  ∃ v' gh' w',Ran P a o w v' w'∧Out G base nt L gh w a s o.dst (.ref s.H.length 0) (s.chg ⟨s.H++[.obox (cs.map AV.drop)],s.H.length⟩) v' gh' w':=by
 have hrow:=(part_rel hW hF hc cs hcs).dropped
 have hp:Pushed w (w.alloc (.cells (a.eval x).cells t)) (.cells (a.eval x).cells t):=.alloc w _
 have st:=pushBox_step hW hp
 have hρ:(gh.pushBox w.heap.size s.H.length).ρ s.H.length=w.heap.size:=by simp[Gh.pushBox]
 have hB:BoxAt (gh.pushBox w.heap.size s.H.length) (s.H.length+1) (w.alloc (.cells (a.eval x).cells t)) w.heap.size (.hb s.H.length) (fun j=>.hs s.H.length j) (cs.map AV.drop):=by
  refine⟨by simp[Gh.pushBox,Gh.alloc],?_,_,t,hp.new,Nat.le_of_eq hrow.1.symm,fun j v x hv hx=>?_⟩
  ·rintro o (ho|⟨_,ho⟩)
   ·have:=hW.sLt _ o ho;omega
   ·exact ho
  ·obtain⟨h1,h2⟩:=hrow.2 j v x hv hx
   exact⟨h2,.inl (h1.mono st (Nat.le_succ _))⟩
 have hv:VR (gh.pushBox w.heap.size s.H.length) (s.H++[AObj.obox (cs.map AV.drop)]).length (w.alloc (.cells (a.eval x).cells t)) (.pointer (some ⟨w.heap.size,0,none⟩)) (.ref s.H.length 0):=by
  have:=VR.ref (gh:=gh.pushBox w.heap.size s.H.length) (w:=w.alloc (.cells (a.eval x).cells t)) (n:=(s.H++[AObj.obox (cs.map AV.drop)]).length) s.H.length 0 (by simp)
  rw[hρ] at this;exact this
 refine⟨_,_,_,.inl ?_,⟨hW.pushMore hp (fun _ _ h=>by cases h) hB,hF.put st (fun i=>⟨id,id,fun _=>id⟩) (by simp) o.dst hd (.of_VR hv),pushBox_ext hW hp⟩⟩
 simp[execOp,ho,Instr.box,newVar,newRow]
theorem run_call_copy {o:Oper} {c:Call} {x y:Operand} {t u:TypeId} (ho:o.op=.call c) (hcal:c.callee=.builtin .copy) (hargs:c.args.toList=[x,y]) (htys:c.argTypes.toList=[t,u]) {v:Value}
  (hrun:(Builtin.copy_ #[t,u] o.type #[a.eval x,a.eval y]).run P w=.ok v w'):(execOp a.eval o).run P w=.ok (.value v) w':=by
 have e1:c.args=#[x,y]:=by apply Array.ext';simpa using hargs
 have e2:c.argTypes=#[t,u]:=by apply Array.ext';simpa using htys
 unfold execOp
 simp only[ho,resolve,hcal,e1,e2,invoke,builtin,Sem.run_bind,Sem.run_pure,Result.andThen_ok,List.map_toArray,List.map_cons,List.map_nil,hrun]
theorem range_at {k j j' : Nat} (h:(List.range k)[j]?=some j'):j<k∧j'=j:=by
 rw[List.getElem?_eq_some_iff] at h
 obtain⟨h1,h2⟩:=h
 simp at h1 h2
 exact⟨h1,h2.symm⟩
theorem copy_src {n:Nat} {V:Value} {f:List (List AV)} (h:PR gh.S w V (.slice f false)) (hh:headOk 1 f=true) {k:Nat} (hk:k≤f.length) :
  ∃ (ad:Option Addr) (ln cp:Nat) (vals:List Value),V=.slice ad ln cp∧ln=f.length∧vals.length=k∧(0<k→∃ q,ad=some q∧∀ j v,vals[j]?=some v→w.cell? (q.add j)=some v)∧(∀ r∈f.take k,r.length=1) ∧
   ∀ (j:Nat) (u:Value) (x:AV),vals[j]?=some u→((f.take k).flatten)[j]?=some x→u.oneCell'=true∧PR gh.S w u x:=by
 cases h with
 | sliceNil =>
  simp only[List.length_nil,Nat.le_zero] at hk
  subst hk
  exact⟨none,0,0,[],rfl,rfl,rfl,fun h=>absurd h (by omega),fun r hm=>by simp at hm,fun j u x h=>by simp at h⟩
 | slice b of ln cap sz _ g hn hcap hrow hcell hrel =>
  have hsz:f≠[]→sz=1:=fun hne=>headOk_inv hh hrow hne
  have row1:∀ (i:Nat) (r:List AV),f[i]?=some r→r.length=1:=fun i r hi=>by
   rw[hrow i r hi,hsz (by rintro rfl;simp at hi)]
  have vat:∀ j,j<k→∃ r x,f[j]?=some r∧r[0]?=some x:=fun j hj=>by
   have hr:=List.getElem?_eq_getElem (show j<f.length by omega)
   exact⟨_,_,hr,List.getElem?_eq_getElem (by rw[row1 _ _ hr];exact Nat.one_pos)⟩
  have hrows:∀ r∈f.take k,r.length=1:=fun r hm=>by
   obtain⟨i,hi⟩:=List.getElem?_of_mem (List.mem_of_mem_take hm);exact row1 i r hi
  refine⟨some ⟨b,of,none⟩,ln,cap,(List.range k).map fun j=>g j 0,rfl,hn.symm,by simp,fun _=>⟨_,rfl,fun j v hv=>?_⟩,hrows,fun j u x hu hx=>?_⟩
  ·simp only[List.getElem?_map,Option.map_eq_some_iff] at hv
   obtain⟨j',hj',rfl⟩:=hv
   obtain⟨hlt,rfl⟩:=range_at hj'
   obtain⟨r,x,h1,h2⟩:=vat _ hlt
   obtain⟨_,k2,_⟩:=hcell _ 0 r x h1 h2
   rw[hsz (by rintro rfl;simp at h1),Nat.mul_one,Nat.add_zero] at k2
   rw[addr_add];exact k2
  ·simp only[List.getElem?_map,Option.map_eq_some_iff] at hu
   obtain⟨j',hj',rfl⟩:=hu
   obtain⟨hlt,rfl⟩:=range_at hj'
   obtain⟨i,q,r,e1,e2,e3⟩:=flat_at (f.take k) _ x hrows hx
   have hq:q=0:=by
    have:=(List.getElem?_eq_some_iff.1 e2).1
    rw[hrows r (List.mem_of_getElem? e1)] at this;omega
   subst hq
   rw[Nat.mul_one,Nat.add_zero] at e3
   subst e3
   have e1' : f[j']?=some r:=by
    rw[List.getElem?_take,if_pos hlt] at e1
    exact e1
   exact⟨(hcell _ 0 r x e1' e2).2.2,hrel _ 0 r x e1' e2⟩
theorem ev_copyO (hW:WRel G base s.H gh w) (hF:FR L nt gh w a s) {o:Oper} {c:Call} {x y:Operand} {t u e:TypeId} {yx yy:IArg} {z:AV} {s' : Option AS}
  (ho:o.op=.call c) (hcal:c.callee=.builtin .copy) (hargs:c.args.toList=[x,y]) (htys:c.argTypes.toList=[t,u]) (hu:P.underlying t=some (.slice e)) (hs:sizeT P e=some 1)
  (hcx:compArg nt x=some yx) (hcy:compArg nt y=some yy) (he:evCopyO s (yx.addr G s.T) (yy.eval G s.T)=some (z,s')) (hd:∀ k,o.dst=some k→k<nt) :
  ∃ v' gh' w',Ran P a o w v' w'∧Out G base nt L gh w a s o.dst z (s'.getD s) v' gh' w':=by
 have hsz:(P.info? e).map (·.size)=some 1:=hs
 have hm:=arg_val hW hF hcx
 unfold evCopyO at he
 split at he
 ·
  rename_i l o0 n zz f own hX hY
  rw[hX] at hm
  obtain⟨hlt,cap,hk,_,hA⟩:=VR.inv_sref (hm:VR gh s.H.length w (a.eval x) (.sref l o0 n zz))
  have hp:=(arg_VR hW hF hcy hY rfl).inv_slice
  split at he
  ·rename_i cs hH
   obtain⟨h0,he2⟩:=cond_some he
   clear he
   simp only[Option.some.injEq,Prod.mk.injEq] at he2
   obtain⟨rfl,rfl⟩:=he2
   simp only[Bool.and_eq_true,nbeq,decide_eq_true_eq,Nat.ble_eq] at h0
   obtain⟨⟨⟨rfl,hh⟩,hpl⟩,hfit⟩:=h0
   obtain⟨hκ,hS,C,ty,hb,hC,hcs⟩:=(hW.more l _ hH:BoxAt gh s.H.length w (gh.ρ l) (.hb l) (fun j=>.hs l j) cs)
   have hkl:Nat.min f.length n≤f.length:=Nat.min_le_left _ _
   have hkn:Nat.min f.length n≤n:=Nat.min_le_right _ _
   obtain⟨ad,ln,cp,vals,hV,hln,hvl,hq,hrow1,hrel⟩:=copy_src (n:=0) hp hh hkl
   generalize hkk:Nat.min f.length n=k at *
   have hone:∀ u∈vals,u.oneCell'=true:=by
    intro u hu
    obtain⟨j,hj⟩:=List.getElem?_of_mem hu
    have hjl:j<k:=by rw[← hvl];exact (List.getElem?_eq_some_iff.1 hj).1
    have hfl:(f.take k).flatten.length=k:=by rw[flat_len _ hrow1];simp;omega
    exact (hrel j u _ hj (List.getElem?_eq_getElem (by rw[hfl];exact hjl))).1
   have hfitC:o0+vals.toArray.size≤C.size:=by simp;omega
   have hrun:(Builtin.copy_ #[t,u] o.type #[a.eval x,a.eval y]).run P w=.ok (.int .i64 (k:Int)) (w.setRow (gh.ρ l) (rowPut C o0 vals.toArray)):=by
    rw[hA,hV]
    by_cases hk0:k=0
    ·have hv0:vals=[]:=List.length_eq_zero_iff.1 (by omega)
     have hr0:rowPut C o0 (#[]:Array Value)=C:=by simp[rowPut]
     rw[hv0,hr0,setRow_self w _ C ty (0,0) hb]
     have:=run_copy_none (P:=P) w t u o.type e (some ⟨gh.ρ l,o0,none⟩) ad n cap ln cp hu hsz (by rw[hln,hkk];exact hk0)
     rw[this,hk0];rfl
    ·obtain⟨q,rfl,hsrc⟩:=hq (by omega)
     have:=run_copy_row (P:=P) w t u o.type e (gh.ρ l) o0 n cap q ln cp C ty vals hu hsz hb (by rw[hvl,hln,hkk]) hsrc (by simpa using hfitC) hone
     rw[this]
     simp[rowPut,hvl,goInt]
   have hno:∀ o,gh.S (gh.ρ l) o→(rowPut C o0 vals.toArray)[o]?=C[o]?:=fun o ho=>(hS o ho).elim
   have hrs:=rowPut_size hfitC
   have st:=row_step0 hW hb hrs hno s.H.length
   have hE:=row_ext0 hW hb hrs hno (by rw[hκ];simp) (by rw[hκ];simp) s.H.length
   rw[hκ] at st
   have hrows:(f.take k).flatten.length=k:=by
    rw[flat_len _ hrow1];simp;omega
   have hB:BoxAt gh s.H.length (w.setRow (gh.ρ l) (rowPut C o0 vals.toArray)) (gh.ρ l) (.hb l) (fun j=>.hs l j) (putAt cs o0 (f.take k).flatten):=by
    refine⟨hκ,hS,_,ty,setRow_heap w _ C _ ty _ hb,by rw[hrs,putAt_len (by rw[hrows];omega)];exact hC,fun j u x hju hjx=>?_⟩
    rw[rowPut_get hfitC] at hju
    rw[putAt_get (by rw[hrows];omega)] at hjx
    simp only[List.size_toArray,hvl] at hju
    rw[hrows] at hjx
    split at hju
    ·rename_i hc
     rw[if_pos hc] at hjx
     obtain⟨k1,k2⟩:=hrel _ u x (by simpa using hju) hjx
     exact⟨k1,.inl (.plain _ _ (k2.mono st.S st.cell st.mp))⟩
    ·rename_i hc
     rw[if_neg hc] at hjx
     obtain⟨k1,k2⟩:=hcs j u x hju hjx
     exact⟨k1,k2.mono st (Nat.le_refl _) (by simp)⟩
   have hW2:WRel G base (s.H.set l (.obox (putAt cs o0 (f.take k).flatten))) gh (w.setRow (gh.ρ l) (rowPut C o0 vals.toArray)) :=
    hW.setMore st hlt (by intro k hk;simp[hk]) (fun b o ho=>by simpa using hW.sLt b o ho) (fun b hb=>by simpa using hW.kLt b hb) (fun _ _ h=>by cases h) hB (fun _ _ _ h=>.inl h)
   refine⟨.int .i64 k,gh,_,.inl (run_call_copy ho hcal hargs htys hrun),hW2,?_,hE⟩
   exact hF.put (H':=s.H.set l (.obox (putAt cs o0 (f.take k).flatten))) (lo':=cond (Nat.blt l s.lo) l s.lo) st (fun i=>⟨by simp,by simp,by simp⟩) (by simp) o.dst hd (.of_VR (.plain _ _ (.int _ _)))
  ·cases he
 ·
  rename_i own f own' hX hY
  simp only[Option.some.injEq,Prod.mk.injEq] at he
  obtain⟨rfl,rfl⟩:=he
  rw[hX] at hm
  have h1:∃ ad cp,a.eval x=.slice ad 0 cp:=by
   have hp:=VR.inv_slice (hm:VR gh s.H.length w (a.eval x) (.slice [] false))
   generalize a.eval x=V at hp
   cases hp with
   | sliceNil=>exact⟨_,_,rfl⟩
   | slice b of n cap sz _ f hn _ _ _ _=>simp at hn;subst hn;exact⟨_,_,rfl⟩
  have h2:∃ ad n cp,a.eval y=.slice ad n cp:=by
   have hp:=(arg_VR hW hF hcy hY rfl).inv_slice
   generalize a.eval y=V at hp
   cases hp with
   | sliceNil=>exact⟨_,_,_,rfl⟩
   | slice b of n cap sz _ f hn _ _ _ _=>exact⟨_,_,_,rfl⟩
  obtain⟨ad,cp,h1⟩:=h1
  obtain⟨ad',n',cp',h2⟩:=h2
  have hrun:=run_copy_none (P:=P) w t u o.type e ad ad' 0 cp n' cp' hu hsz (Nat.min_zero _)
  rw[← h1,← h2] at hrun
  refine⟨.int .i64 0,gh,w,.inl (run_call_copy ho hcal hargs htys hrun),?_⟩
  exact Out.pure hW hF hd (.of_VR (.plain _ _ (.int _ _)))
 ·cases he
end
end Go.Abs
end
section
namespace Go.Abs
set_option linter.unusedSimpArgs false
set_option linter.unusedVariables false
theorem compGive_inv (takes:List Nat) (d:Option Nat) (g:IArg) (ys:List IArg):compGive takes d g ys=.call g ys∨∃ n pre x post,g=.fn n∧ys=pre++x :: post∧compGive takes d g ys=.callT n pre x post:=by
 unfold compGive
 split
 ·rename_i n
  split
  ·rename_i k hk
   split
   ·rename_i x post hd
    exact .inr ⟨n,ys.take k,x,post,rfl,by rw[← hd,List.take_append_drop],rfl⟩
   ·exact .inl rfl
  ·exact .inl rfl
 ·exact .inl rfl
section
variable {P:Program} {G:Nat→List AV} {base nt:Nat} {L:List Nat} {gh:Gh} {w w' : World} {a:Act} {s:AS} {H:AHeap}
theorem isLocal_mem {locals:List Nat} {d:Option Nat} (h:isLocal locals d=true):∃ k,d=some k∧k∈locals:=by
 cases d with
 | none=>cases h
 | some k=>exact⟨k,rfl,by simpa [isLocal] using h⟩
theorem isTake_mem {l:List Nat} {d:Option Nat} (h:isTake l d=true):∃ k,d=some k∧k∈l:=by
 cases d with
 | none=>cases h
 | some k=>exact⟨k,rfl,by simpa [isTake] using h⟩
theorem len_slice {k:LenKind} {V:Value} {e:List (List AV)} {z:AV} {t:TypeId} {ao:Option Addr} {cap:Nat} (hV:V=.slice ao e.length cap) (ht:match k with|.str=>P.underlying t=some .string|.sl=>∃ e,P.underlying t=some (.slice e)|.arr m=>∃ e,P.underlying t=some (.array m e))
  (he:lenAV k (.slice e false)=some z) (ty:TypeId) {n:Nat} : ∃ v,(Builtin.len_ #[t] ty #[V]).run P w=.ok v w∧VR gh n w v z:=by
 subst hV
 cases k<;>simp only[lenAV,Option.some.injEq,reduceCtorEq] at he<;>subst he
 ·obtain⟨e',ht⟩:=ht
  exact⟨.int .i64 e.length,by simp[Builtin.len_,run_underlying ht,goInt],.plain _ _ (.int _ _)⟩
 ·obtain⟨e',ht⟩:=ht
  exact⟨.int .i64 _,by simp[Builtin.len_,run_underlying ht,goInt],.plain _ _ (.int _ _)⟩
theorem ev_mm (hW:WRel G base s.H gh w) (hF:FR L nt gh w a s) {o:Oper} {c:Call} {x y:Operand} {ix iy:IArg} {mx:Bool} {z:AV} (ho:o.op=.call c) (hcal:c.callee=.builtin (cond mx .max .min)) (hargs:c.args.toList=[x,y])
  (hx:compArg nt x=some ix) (hy:compArg nt y=some iy) (he:mmAV mx (ix.eval G s.T) (iy.eval G s.T)=some z):∃ v,(execOp a.eval o).run P w=.ok (.value v) w∧Val gh s.H.length nt w s.T s.gen (tmv a) v z:=by
 generalize hX:ix.eval G s.T=X at he
 generalize hY:iy.eval G s.T=Y at he
 unfold mmAV at he
 split at he
 ·obtain⟨h0,he⟩:=cond_some he
  injection he with he
  subst he
  have h1:=(arg_VR hW hF hx hX rfl).inv_int
  have h2:=(arg_VR hW hF hy hY rfl).inv_int
  have e1:c.args=#[x,y]:=by apply Array.ext';simpa using hargs
  cases mx
  ·refine⟨_,?_,.of_VR (.plain _ _ (.int _ _))⟩
   unfold execOp
   simp only[ho,resolve,hcal,e1,invoke,builtin,Sem.run_bind,Sem.run_pure,Result.andThen_ok,List.map_toArray,List.map_cons,List.map_nil,cond_false,h1,h2,Builtin.min_,Builtin.min2,List.foldlM_cons,List.foldlM_nil]
  ·refine⟨_,?_,.of_VR (.plain _ _ (.int _ _))⟩
   unfold execOp
   simp only[ho,resolve,hcal,e1,invoke,builtin,Sem.run_bind,Sem.run_pure,Result.andThen_ok,List.map_toArray,List.map_cons,List.map_nil,cond_true,h1,h2,Builtin.max_,Builtin.max2,List.foldlM_cons,List.foldlM_nil]
 ·cases he
theorem len_arr {m:Nat} {V:Value} {t e:TypeId} (ht:P.underlying t=some (.array m e)) (ty:TypeId) {n:Nat} : ∃ v,(Builtin.len_ #[t] ty #[V]).run P w=.ok v w∧VR gh n w v (.int .i64 m) :=
 ⟨.int .i64 _,by simp[Builtin.len_,run_underlying ht,goInt],.plain _ _ (.int _ _)⟩
theorem ev_len (hW:WRel G base s.H gh w) (hF:FR L nt gh w a s) {o:Oper} {c:Call} {x:Operand} {t:TypeId} {y:IArg} {k:LenKind} {z:AV} {s' : Option AS} {cf:CallF}
  (ho:o.op=.call c) (hcal:c.callee=.builtin .len) (hargs:c.args.toList=[x]) (htys:c.argTypes.toList=[t]) (hc:compArg nt x=some y)
  (ht:match k with|.str=>P.underlying t=some .string|.sl=>∃ e,P.underlying t=some (.slice e)|.arr m=>∃ e,P.underlying t=some (.array m e))
  (he:evOp G cf s (.len k y)=some (z,s')):s'=none∧∃ v,(execOp a.eval o).run P w=.ok (.value v) w∧Val gh s.H.length nt w s.T s.gen (tmv a) v z:=by
 simp only[evOp] at he
 have fin:∀ {zz:AV},(∃ v,(Builtin.len_ #[t] o.type #[a.eval x]).run P w=.ok v w∧VR gh s.H.length w v zz)→∃ v,(execOp a.eval o).run P w=.ok (.value v) w∧Val gh s.H.length nt w s.T s.gen (tmv a) v zz :=
  fun ⟨v,h1,h2⟩=>⟨v,run_call_len ho hcal hargs htys h1,.of_VR h2⟩
 split at he
 ·rename_i tt g hy
  split at he
  ·rename_i g' e hT
   obtain⟨h0,he⟩:=cond_some he
   have hgg:g=g':=by simpa [nbeq] using h0
   simp only[Option.map_eq_some_iff,Prod.mk.injEq] at he
   obtain⟨z',hz,rfl,rfl⟩:=he
   refine⟨rfl,fin ?_⟩
   have hv:=arg_val hW hF hc
   rw[hy] at hv
   obtain⟨hb,_,hr⟩:=(hv:_∧_∧_)
   have hax:=hr (by rw[hT,← hgg];rfl)
   obtain⟨ad,cap,hV,_⟩:=sr_lsl hF hb hT
   exact len_slice (hax.trans hV) ht hz o.type
  ·cases he
 ·simp only[Option.map_eq_some_iff,Prod.mk.injEq] at he
  obtain⟨z',hz,rfl,rfl⟩:=he
  refine⟨rfl,fin ?_⟩
  cases k with
  | arr m =>
   obtain⟨e,ht⟩:=ht
   simp only[lenAV,Option.some.injEq] at hz
   subst hz
   exact len_arr ht o.type
  | _ =>
   have hfr:frameCell (y.addr G s.T)=true:=by
    generalize y.addr G s.T=Y at hz
    cases Y<;>first|rfl|(simp[lenAV] at hz)
   exact ev_lenV (arg_VR' hW hF hc rfl hfr) ht hz o.type
theorem evOp_sound {cf:CallF} (hcf:CallsSound P G cf) (hW:WRel G base s.H gh w) (hF:FR L nt gh w a s) {takes locals muts:List Nat} {o:Oper} {io:IOp} (hco:compOp P takes locals muts nt o.dst o.op=some io)
  (hLl:∀ x,x∈locals→x∈L) (hLm:∀ x,x∈muts→x∈L) {z:AV} {s' : Option AS} (he:evOp G cf s io=some (z,s')) (hd:∀ k,o.dst=some k→k<nt) (K:Act→World→Prop) (Q:Exit→Act→World→Prop)
  (hK:∀ v' gh' w',Out G base nt L gh w a s o.dst z (s'.getD s) v' gh' w'→K (a.put o.dst v') w'):o.wp P a w K Q:=by
 have fin:s'=none→(∃ v,(execOp a.eval o).run P w=.ok (.value v) w∧Val gh s.H.length nt w s.T s.gen (tmv a) v z)→o.wp P a w K Q:=by
  rintro rfl ⟨v,h1,h2⟩
  exact Ran.wp (.inl h1) (hK v gh w (Out.pure hW hF hd h2))
 have fin2:(∃ v' gh' w',Ran P a o w v' w'∧Out G base nt L gh w a s o.dst z (s'.getD s) v' gh' w')→o.wp P a w K Q:=by
  rintro ⟨v',gh',w',h1,h2⟩
  exact Ran.wp h1 (hK v' gh' w' h2)
 have hmov:∀ x y,(o.op=.move x∨o.op=.assign x)→compArg nt x=some y→io=.mov (isTake takes o.dst) (isTake muts o.dst) (cond (isTake muts o.dst) (nilArg y) y)→o.wp P a w K Q:=by
  intro x y ho hc hio
  subst hio
  simp only[evOp] at he
  by_cases hnil:∃ v,y=.con v∧isTake muts o.dst=true
  ·obtain⟨v,rfl,hm⟩:=hnil
   rw[hm] at he
   simp only[cond_true,nilArg,evMov,Option.some.injEq,Prod.mk.injEq,IArg.eval] at he
   obtain⟨rfl,rfl⟩:=he
   refine fin rfl ⟨a.eval x,?_,.of_VR ?_⟩
   ·rcases ho with ho|ho<;>simp[execOp,ho]
   ·cases x with
    | tmp k =>
     simp only[compArg] at hc
     rcases Bool.eq_false_or_eq_true (Nat.blt k nt) with hb|hb<;>rw[hb] at hc<;>simp at hc
    | const u =>
     simp only[compArg,Option.map_eq_some_iff] at hc
     obtain⟨zz,hz,h⟩:=hc
     injection h with h
     subst h
     exact constArg_nil hz
    | global g=>simp[compArg] at hc
    | func f=>simp[compArg] at hc
  have hsame:cond (isTake muts o.dst) (nilArg y) y=y:=by
   cases hm:isTake muts o.dst with
   | false=>rfl
   | true=>cases y<;>first|rfl|exact absurd ⟨_,rfl,hm⟩ hnil
  rw[hsame] at he
  cases s' with
  | none =>
   refine fin rfl ⟨a.eval x,?_,ev_mov hW hF hc he⟩
   rcases ho with ho|ho<;>simp[execOp,ho]
  | some s' =>
   refine fin2 (ev_mov_state hW hF ho hc he hd (fun h k hk=>?_))
   obtain⟨k',h1,h2⟩:=isTake_mem h
   rw[h1] at hk;injection hk with hk;subst hk
   exact hLm _ h2
 cases hop:o.op with
 | move x =>
  rw[hop] at hco
  simp only[compOp,Option.map_eq_some_iff] at hco
  obtain⟨y,hc,rfl⟩:=hco
  exact hmov x y (.inl hop) hc rfl
 | assign x =>
  rw[hop] at hco
  simp only[compOp,Option.map_eq_some_iff] at hco
  obtain⟨y,hc,rfl⟩:=hco
  exact hmov x y (.inr hop) hc rfl
 | pick c x y =>
  rw[hop] at hco
  simp only[compOp,Option.bind_eq_some_iff,Option.map_eq_some_iff] at hco
  obtain⟨ic,hc,ix,hx,iy,hy,rfl⟩:=hco
  simp only[evOp] at he
  split at he
  ·rename_i t ht
   simp only[Option.some.injEq,Prod.mk.injEq] at he
   obtain⟨rfl,rfl⟩:=he
   exact fin rfl (ev_pick hW hF hop hc hx hy ht)
  ·cases he
 | alloc t =>
  rw[hop] at hco
  simp only[compOp,Option.bind_eq_some_iff] at hco
  obtain⟨zz,hz,hco⟩:=hco
  cases hl:isLocal locals o.dst with
  | true =>
   rw[hl] at hco
   simp only[cond_true,Option.some.injEq] at hco
   subst hco
   simp only[evOp,Option.some.injEq,Prod.mk.injEq] at he
   obtain⟨rfl,rfl⟩:=he
   obtain⟨k,hk,hkl⟩:=isLocal_mem hl
   exact fin2 (ev_allocL hW hF hop hz (fun k' hk'=>⟨hd k' hk',by rw[hk] at hk';injection hk' with e;subst e;exact hLl _ hkl⟩))
  | false =>
   rw[hl] at hco
   simp only[cond_false,Option.some.injEq] at hco
   subst hco
   simp only[evOp,Option.some.injEq,Prod.mk.injEq] at he
   obtain⟨rfl,rfl⟩:=he
   exact fin2 (ev_allocH hW hF hop hz hd)
 | box t x =>
  rw[hop] at hco
  simp only[compOp,Option.map_eq_some_iff] at hco
  obtain⟨y,hc,rfl⟩:=hco
  cases hl:isLocal locals o.dst with
  | true =>
   rw[hl] at he
   simp only[cond_true,evOp,Option.map_eq_some_iff,Prod.mk.injEq] at he
   obtain⟨cs,hcs,rfl,rfl⟩:=he
   obtain⟨k,hk,hkl⟩:=isLocal_mem hl
   exact fin2 (ev_boxL hW hF hop hc hcs (fun k' hk'=>⟨hd k' hk',by rw[hk] at hk';injection hk' with e;subst e;exact hLl _ hkl⟩))
  | false =>
  rw[hl,cond_false] at he
  rcases Bool.eq_false_or_eq_true (flagD 500000 muts o.dst) with hm|hm
  ·rw[hm] at he
   simp only[cond_true,evOp,Option.bind_eq_some_iff] at he
   obtain⟨cs,hcs,he⟩:=he
   obtain⟨h0,he⟩:=cond_some he
   simp only[Option.some.injEq,Prod.mk.injEq] at he
   obtain⟨rfl,rfl⟩:=he
   exact fin2 (ev_boxO hW hF hop hc hcs hd)
  ·rw[hm] at he
   simp only[cond_false,evOp,Option.bind_eq_some_iff] at he
   obtain⟨cs,hcs,he⟩:=he
   obtain⟨h0,he⟩:=cond_some he
   simp only[Option.some.injEq,Prod.mk.injEq] at he
   obtain⟨rfl,rfl⟩:=he
   exact fin2 (ev_box hW hF hop hc hcs h0 hd)
 | build t parts =>
  rw[hop] at hco
  simp only[compOp,Option.bind_eq_some_iff] at hco
  obtain⟨zz,hz,hco⟩:=hco
  split at hco
  ·rename_i fs hu
   obtain⟨h0,hco⟩:=cond_some hco
   simp only[Option.map_eq_some_iff] at hco
   obtain⟨ps,hp,rfl⟩:=hco
   simp only[evOp,Option.map_eq_some_iff,Prod.mk.injEq] at he
   obtain⟨Z,hZ,rfl,rfl⟩:=he
   exact fin rfl (ev_build_struct hW hF hop hz hu hp (Option.isSome_iff_exists.1 h0) hZ)
  ·rename_i n e hu
   simp only[Option.bind_eq_some_iff,Option.map_eq_some_iff] at hco
   obtain⟨sz,hs,ps,hp,rfl⟩:=hco
   simp only[evOp,Option.map_eq_some_iff,Prod.mk.injEq] at he
   obtain⟨Z,hZ,rfl,rfl⟩:=he
   exact fin rfl (ev_build_array hW hF hop hz hu hs hp hZ)
  ·cases hco
 | buildSlice t len parts =>
  rw[hop] at hco
  simp only[compOp] at hco
  split at hco
  ·rename_i e hu
   simp only[Option.bind_eq_some_iff] at hco
   obtain⟨sz,hs,zz,hz,ps,hp,hco⟩:=hco
   obtain⟨h0,hco⟩:=cond_some hco
   injection hco with hco
   subst hco
   simp only[Bool.and_eq_true,Nat.ble_eq,nbeq,decide_eq_true_eq,Nat.blt_eq] at h0
   cases hl:isLocal locals o.dst with
   | true =>
    rw[hl] at he
    simp only[cond_true,evOp,Option.bind_eq_some_iff] at he
    obtain⟨E,hE,he⟩:=he
    obtain⟨hok,he⟩:=cond_some he
    simp only[Option.some.injEq,Prod.mk.injEq] at he
    obtain⟨rfl,rfl⟩:=he
    exact fin2 (ev_mksliceO hW hF hop hu hs hz hp h0.1.1 h0.1.2 h0.2 hok hE hd)
   | false =>
   rw[hl] at he
   simp only[cond_false,evOp,Option.bind_eq_some_iff] at he
   obtain⟨E,hE,he⟩:=he
   obtain⟨hok,he⟩:=cond_some he
   simp only[Option.some.injEq,Prod.mk.injEq] at he
   obtain⟨rfl,rfl⟩:=he
   exact fin2 (ev_mkslice hW hF hop hu hs hz hp hok (fun h=>Nat.eq_of_beq_eq_true h) h0.1.1 h0.1.2 h0.2 hE hd)
  ·cases hco
 | load t x =>
  rw[hop] at hco
  simp only[compOp,Option.bind_eq_some_iff,Option.map_eq_some_iff] at hco
  obtain⟨y,hc,g,hg,sz,hs,rfl⟩:=hco
  simp only[evOp] at he
  cases s' with
  | none =>
   obtain⟨v,h1,h2⟩:=ev_load (P:=P) hW hF hc hg hs he
   exact fin rfl ⟨v,by simp[execOp,hop,h1],h2⟩
  | some s'=>exact fin2 (ev_load_take hW hF hop hc hg hs he hd)
 | store t x y =>
  rw[hop] at hco
  simp only[compOp,Option.bind_eq_some_iff,Option.map_eq_some_iff] at hco
  obtain⟨ya,hca,yv,hcv,sz,hs,rfl⟩:=hco
  simp only[evOp,Option.map_eq_some_iff,Prod.mk.injEq] at he
  obtain⟨s1,he,rfl,rfl⟩:=he
  exact fin2 (ev_store hW hF hop hca hcv hs he hd)
 | nilCheck x =>
  rw[hop] at hco
  simp only[compOp,Option.map_eq_some_iff] at hco
  obtain⟨y,hc,rfl⟩:=hco
  simp only[evOp] at he
  obtain⟨h0,he⟩:=cond_some he
  simp only[Option.some.injEq,Prod.mk.injEq] at he
  obtain⟨rfl,rfl⟩:=he
  exact fin rfl (ev_nilCheck hW hF hop hc h0)
 | binOp op t x y u =>
  rw[hop] at hco
  simp only[compOp,Option.bind_eq_some_iff] at hco
  obtain⟨ix,hx,iy,hy,hco⟩:=hco
  split at hco
  ·rename_i neg hn
   injection hco with hco
   subst hco
   simp only[evOp,Option.map_eq_some_iff,Prod.mk.injEq] at he
   obtain⟨b,hb,rfl,rfl⟩:=he
   exact fin rfl (ev_nilS hW hF hop hx hn hb)
  ·injection hco with hco
   subst hco
   simp only[evOp,Option.map_eq_some_iff,Prod.mk.injEq] at he
   obtain⟨z',hz,rfl,rfl⟩:=he
   exact fin rfl (ev_bin hW hF hop hx hy hz)
 | unOp op t x =>
  rw[hop] at hco
  simp only[compOp,Option.map_eq_some_iff] at hco
  obtain⟨y,hc,rfl⟩:=hco
  simp only[evOp,Option.map_eq_some_iff,Prod.mk.injEq] at he
  obtain⟨z',hz,rfl,rfl⟩:=he
  exact fin rfl (ev_un hW hF hop hc hz)
 | convert st dt x =>
  rw[hop] at hco
  simp only[compOp,Option.bind_eq_some_iff] at hco
  obtain⟨y,hc,hco⟩:=hco
  split at hco
  ·rename_i k' k h1 h2
   injection hco with hco
   subst hco
   simp only[evOp,Option.map_eq_some_iff,Prod.mk.injEq] at he
   obtain⟨z',hz,rfl,rfl⟩:=he
   exact fin rfl (ev_toInt hW hF hop hc h1 h2 hz)
  ·rename_i h1 h2
   injection hco with hco
   subst hco
   simp only[evOp,Option.map_eq_some_iff,Prod.mk.injEq] at he
   obtain⟨z',hz,rfl,rfl⟩:=he
   exact fin rfl (ev_strSame hW hF hop hc h1 h2 hz)
  ·rename_i e h1 h2
   split at hco
   ·rename_i hE
    injection hco with hco
    subst hco
    simp only[evOp,Option.map_eq_some_iff,Prod.mk.injEq] at he
    obtain⟨z',hz,rfl,rfl⟩:=he
    exact fin rfl (ev_bytesStr hW hF hop hc h1 hE h2 hz)
   ·cases hco
  ·cases hco
 | makeInterface t x =>
  rw[hop] at hco
  simp only[compOp,Option.bind_eq_some_iff] at hco
  obtain⟨y,hc,hco⟩:=hco
  split at hco
  ·cases hco
  ·rename_i d hn hu
   injection hco with hco
   subst hco
   simp only[evOp,Option.map_eq_some_iff,Prod.mk.injEq] at he
   obtain⟨z',hz,rfl,rfl⟩:=he
   exact fin rfl (ev_mkiface hW hF hop hc ⟨_,hu,fun m h=>hn m h⟩ hz)
  ·cases hco
 | makeFunc f first captured =>
  rw[hop] at hco
  simp only[compOp,Option.bind_eq_some_iff,Option.map_eq_some_iff] at hco
  obtain⟨fs,h1,cs,h2,rfl⟩:=hco
  simp only[evOp] at he
  obtain⟨h0,he⟩:=cond_some he
  simp only[Option.some.injEq,Prod.mk.injEq] at he
  obtain⟨rfl,rfl⟩:=he
  simp only[Bool.and_eq_true] at h0
  exact fin rfl (ev_mkfunc hW hF hop h1 h2 h0.1 h0.2)
 | slice t x lo hi mx =>
  rw[hop] at hco
  simp only[compOp,Option.bind_eq_some_iff] at hco
  obtain⟨ix,hc,ilo,h1,ihi,h2,imx,h3,hco⟩:=hco
  split at hco
  ·rename_i hu
   injection hco with hco
   subst hco
   simp only[evOp,Option.map_eq_some_iff,Prod.mk.injEq] at he
   obtain⟨z',hz,rfl,rfl⟩:=he
   exact fin rfl (ev_slice_str hW hF hop hc h1 h2 h3 hu hz)
  ·rename_i e hu
   simp only[Option.map_eq_some_iff] at hco
   obtain⟨sz,hs,rfl⟩:=hco
   simp only[evOp,Option.map_eq_some_iff,Prod.mk.injEq] at he
   obtain⟨z',hz,rfl,rfl⟩:=he
   exact fin rfl (ev_slice_sl hW hF hop hc h1 h2 h3 hu hs hz)
  ·rename_i n e hu
   simp only[Option.bind_eq_some_iff] at hco
   obtain⟨sz,hs,hco⟩:=hco
   obtain⟨h0,hco⟩:=cond_some hco
   injection hco with hco
   subst hco
   simp only[evOp,Option.map_eq_some_iff,Prod.mk.injEq] at he
   obtain⟨z',hz,rfl,rfl⟩:=he
   exact fin rfl (ev_slice_arr hW hF hop hc h1 h2 h3 hu hs (by simpa [Nat.blt_eq] using h0) hz)
  ·cases hco
 | fieldAddr t x f =>
  rw[hop] at hco
  simp only[compOp,Option.bind_eq_some_iff] at hco
  obtain⟨ix,hc,hco⟩:=hco
  split at hco
  ·rename_i fs hu
   simp only[Option.bind_eq_some_iff] at hco
   obtain⟨q,hq,sz,hs,hco⟩:=hco
   obtain⟨h0,hco⟩:=cond_some hco
   injection hco with hco
   subst hco
   simp only[evOp] at he
   obtain⟨hl,he⟩:=cond_some he
   simp only[Option.map_eq_some_iff,Prod.mk.injEq] at he
   obtain⟨z',hz,rfl,rfl⟩:=he
   exact fin rfl (ev_fieldAddr hW hF hop hc hu hq hs (by simpa [Nat.blt_eq] using h0) hl hz)
  ·cases hco
 | field t x f =>
  rw[hop] at hco
  simp only[compOp,Option.bind_eq_some_iff] at hco
  obtain⟨ix,hc,hco⟩:=hco
  split at hco
  ·rename_i fs hu
   simp only[Option.bind_eq_some_iff,Option.map_eq_some_iff] at hco
   obtain⟨q,hq,sz,hs,g,hg,rfl⟩:=hco
   simp only[evOp] at he
   split at he
   ·rename_i cs hz
    simp only[Option.map_eq_some_iff,Prod.mk.injEq] at he
    obtain⟨z',hl,rfl,rfl⟩:=he
    exact fin rfl (ev_field hW hF hop hc hu hq hs hg hz hl)
   ·cases he
  ·cases hco
 | indexAddr t x i =>
  rw[hop] at hco
  simp only[compOp,Option.bind_eq_some_iff] at hco
  obtain⟨ix,hc,ii,hi,hco⟩:=hco
  split at hco
  ·rename_i e hu
   simp only[Option.map_eq_some_iff] at hco
   obtain⟨sz,hs,rfl⟩:=hco
   simp only[evOp] at he
   split at he
   ·rename_i el own hy
    simp only[Option.bind_eq_some_iff] at he
    obtain⟨k,hk,r,hr,he⟩:=he
    obtain⟨h0,he⟩:=cond_some he
    simp only[Option.some.injEq,Prod.mk.injEq] at he
    obtain⟨rfl,rfl⟩:=he
    exact fin rfl (ev_ixSl hW hF hop hc hi hu hs hk hy hr (by simpa [nbeq] using h0))
   ·rename_i l of m hy
    simp only[Option.bind_eq_some_iff] at he
    obtain⟨k,hk,he⟩:=he
    obtain⟨h0,he⟩:=cond_some he
    simp only[Option.some.injEq,Prod.mk.injEq] at he
    obtain⟨rfl,rfl⟩:=he
    exact fin rfl (ev_ixSref hW hF hop hc hi hu hs hk hy (by simpa [Nat.blt_eq] using h0))
   ·rename_i b g hy
    split at he
    ·rename_i g' el hT
     obtain⟨h0,he⟩:=cond_some he
     have hgg:g=g':=by simpa [nbeq] using h0
     simp only[Option.bind_eq_some_iff] at he
     obtain⟨k,hk,r,hr,he⟩:=he
     obtain⟨h0,he⟩:=cond_some he
     simp only[Option.some.injEq,Prod.mk.injEq] at he
     obtain⟨rfl,rfl⟩:=he
     exact fin rfl (ev_ixLsr hW hF hop hc hi hu hs hk hy (by rw[hT,hgg]) hr (by simpa [nbeq] using h0))
    ·cases he
   ·cases he
  ·rename_i n e hu
   simp only[Option.map_eq_some_iff] at hco
   obtain⟨sz,hs,rfl⟩:=hco
   simp only[evOp,Option.bind_eq_some_iff] at he
   obtain⟨k,hk,he⟩:=he
   obtain⟨h0,he⟩:=cond_some he
   simp only[Bool.and_eq_true,Nat.blt_eq] at h0
   simp only[Option.map_eq_some_iff,Prod.mk.injEq] at he
   obtain⟨z',hz,rfl,rfl⟩:=he
   exact fin rfl (ev_ixArr hW hF hop hc hi hu hs hk h0.1 h0.2 hz)
  ·cases hco
 | index t x i =>
  rw[hop] at hco
  simp only[compOp,Option.bind_eq_some_iff] at hco
  obtain⟨ix,hc,ii,hi,hco⟩:=hco
  split at hco
  ·rename_i hu
   injection hco with hco
   subst hco
   simp only[evOp] at he
   split at he
   ·rename_i l hz
    simp only[Option.bind_eq_some_iff,Option.map_eq_some_iff,Prod.mk.injEq] at he
    obtain⟨k,hk,b,hb,rfl,rfl⟩:=he
    exact fin rfl (ev_indexStr hW hF hop hc hi hu hk hz hb)
   ·cases he
  ·rename_i n e hu
   simp only[Option.bind_eq_some_iff,Option.map_eq_some_iff] at hco
   obtain⟨sz,hs,g,hg,rfl⟩:=hco
   simp only[evOp,Option.bind_eq_some_iff] at he
   obtain⟨k,hk,he⟩:=he
   obtain⟨h0,he⟩:=cond_some he
   split at he
   ·rename_i cs hz
    simp only[Option.map_eq_some_iff,Prod.mk.injEq] at he
    obtain⟨z',hl,rfl,rfl⟩:=he
    exact fin rfl (ev_index hW hF hop hc hi hu hs hg hk (by simpa [Nat.blt_eq] using h0) hz hl)
   ·cases he
  ·cases hco
 | extract x i =>
  rw[hop] at hco
  simp only[compOp,Option.map_eq_some_iff] at hco
  obtain⟨y,hc,rfl⟩:=hco
  simp only[evOp] at he
  split at he
  ·rename_i vs hz
   simp only[Option.map_eq_some_iff,Prod.mk.injEq] at he
   obtain⟨z',hz',rfl,rfl⟩:=he
   exact fin rfl (ev_extract hW hF hop hc hz hz')
  ·cases he
 | call c =>
  rw[hop] at hco
  simp only[compOp,compCall] at hco
  split at hco
  ·rename_i fx hcal
   simp only[Option.bind_eq_some_iff,Option.map_eq_some_iff] at hco
   obtain⟨yf,hcx,ys,hcy,hgo⟩:=hco
   rcases compGive_inv takes o.dst yf ys with hcg|⟨n,pre,x,post,hyf,hys,hcg⟩
   ·rw[hcg] at hgo
    subst hgo
    simp only[evOp] at he
    split at he
    ·rename_i f fs cs hfun
     obtain⟨h0,he⟩:=cond_some he
     simp only[Option.map_eq_some_iff,Prod.mk.injEq] at he
     obtain⟨⟨r,ch⟩,hr,rfl,rfl⟩:=he
     exact ev_call hcf hW hF hop hcal hcx hcy hfun h0 hr hd K Q hK
    ·cases he
   ·rw[hcg] at hgo
    subst hgo hyf hys
    simp only[evOp] at he
    obtain⟨h0,he⟩:=cond_some he
    simp only[Bool.and_eq_true,Option.bind_eq_some_iff,Option.map_eq_some_iff,Prod.mk.injEq] at h0 he
    obtain⟨⟨xv,s1⟩,hx,⟨r,ch⟩,hr,rfl,rfl⟩:=he
    have hfn:fx=.func n:=by
     cases fx<;>simp[compArg] at hcx
     ·rename_i t
      rcases Bool.eq_false_or_eq_true (Nat.blt t nt) with hb|hb<;>rw[hb] at hcx<;>simp at hcx
     ·rw[hcx]
    subst hfn
    exact ev_callT hcf hW hF hop hcal hcy h0.1 h0.2 hx hr hd K Q hK
  ·rename_i hcal
   split at hco
   ·rename_i x t hargs htys
    simp only[Option.bind_eq_some_iff] at hco
    obtain⟨y,hc,hco⟩:=hco
    split at hco
    ·rename_i hu
     injection hco with hco
     subst hco
     obtain⟨h1,h2⟩:=ev_len (P:=P) hW hF hop hcal hargs htys hc (k:=.str) hu he
     exact fin h1 h2
    ·rename_i e hu
     injection hco with hco
     subst hco
     obtain⟨h1,h2⟩:=ev_len (P:=P) hW hF hop hcal hargs htys hc (k:=.sl) ⟨_,hu⟩ he
     exact fin h1 h2
    ·rename_i n e hu
     injection hco with hco
     subst hco
     obtain⟨h1,h2⟩:=ev_len (P:=P) hW hF hop hcal hargs htys hc (k:=.arr n) ⟨_,hu⟩ he
     exact fin h1 h2
    ·rename_i hu
     injection hco with hco
     subst hco
     obtain⟨h1,h2⟩:=ev_mlen (P:=P) hW hF hop hcal hargs htys hc hu he
     exact fin h1 h2
    ·cases hco
   ·cases hco
  ·rename_i hcal
   split at hco
   ·rename_i x y t u hargs htys
    simp only[Option.bind_eq_some_iff] at hco
    obtain⟨yx,hcx,yy,hcy,hco⟩:=hco
    have go:∀ e,P.underlying t=some (.slice e)→((∃ e',P.underlying u=some (.slice e'))∨P.underlying u=some .string) →
      ((P.info? e).bind fun i=>cond (Nat.blt 0 i.size&&(i.zero.map fun z=>Nat.beq z.cells.size i.size).getD false) (some (cond (isLocal locals o.dst) (IOp.appendO i.size i.bytes yx yy) (IOp.append (Nat.beq e byteTy) (isTake muts o.dst) i.size i.bytes yx yy))) none)=some io→o.wp P a w K Q:=by
     intro e ht hu hco
     simp only[Option.bind_eq_some_iff] at hco
     obtain⟨i,hi,hco⟩:=hco
     obtain⟨h0,hco⟩:=cond_some hco
     injection hco with hco
     subst hco
     simp only[Bool.and_eq_true,Nat.blt_eq] at h0
     obtain⟨h0,h1⟩:=h0
     have hT:ElemT P t e i.size i.bytes:=by
      cases hz:i.zero with
      | none=>rw[hz] at h1;cases h1
      | some zv=>rw[hz] at h1;exact⟨ht,⟨i,zv,hi,hz,rfl,rfl,by simpa [nbeq] using h1⟩,h0⟩
     cases hob:isLocal locals o.dst with
     | true =>
      rw[hob] at he
      simp only[cond_true,evOp] at he
      exact fin2 (ev_appendO hW hF hop hcal hargs htys hT hu hcx hcy he hd)
     | false =>
     rw[hob] at he
     simp only[cond_false,evOp] at he
     refine fin2 (ev_append hW hF hop hcal hargs htys hT (fun h=>Nat.eq_of_beq_eq_true h) hu hcx hcy he hd (fun h k hk=>?_))
     obtain⟨k',h1,h2⟩:=isTake_mem h
     rw[h1] at hk;injection hk with hk;subst hk
     exact hLm _ h2
    split at hco
    ·rename_i e e' ht hu
     exact go e ht (.inl ⟨_,hu⟩) hco
    ·rename_i e ht hu
     exact go e ht (.inr hu) hco
    ·cases hco
   ·cases hco
  ·rename_i hcal
   split at hco
   ·rename_i x y t u hargs htys
    simp only[Option.bind_eq_some_iff] at hco
    obtain⟨ix,hx,iy,hy,hco⟩:=hco
    split at hco
    ·rename_i e e' ht hu
     simp only[Option.bind_eq_some_iff] at hco
     obtain⟨sz,hs,hco⟩:=hco
     obtain⟨h0,hco⟩:=cond_some hco
     injection hco with hco
     subst hco
     simp only[nbeq,decide_eq_true_eq] at h0
     subst h0
     simp only[evOp] at he
     exact fin2 (ev_copyO hW hF hop hcal hargs htys ht hs hx hy he hd)
    ·cases hco
   ·cases hco
  ·rename_i hcal
   split at hco
   ·rename_i x y hargs
    simp only[Option.bind_eq_some_iff,Option.map_eq_some_iff] at hco
    obtain⟨ix,hx,iy,hy,rfl⟩:=hco
    simp only[evOp,Option.map_eq_some_iff,Prod.mk.injEq] at he
    obtain⟨z',hz,rfl,rfl⟩:=he
    exact fin rfl (ev_mm (mx:=true) hW hF hop hcal hargs hx hy hz)
   ·cases hco
  ·rename_i hcal
   split at hco
   ·rename_i x y hargs
    simp only[Option.bind_eq_some_iff,Option.map_eq_some_iff] at hco
    obtain⟨ix,hx,iy,hy,rfl⟩:=hco
    simp only[evOp,Option.map_eq_some_iff,Prod.mk.injEq] at he
    obtain⟨z',hz,rfl,rfl⟩:=he
    exact fin rfl (ev_mm (mx:=false) hW hF hop hcal hargs hx hy hz)
   ·cases hco
  ·cases hco
 | makeSlice t x y =>
  rw[hop] at hco
  simp only[compOp,Option.bind_eq_some_iff] at hco
  obtain⟨yx,hcx,hco⟩:=hco
  obtain⟨hxy,hco⟩:=cond_some hco
  split at hco
  ·rename_i e ht
   simp only[Option.bind_eq_some_iff] at hco
   obtain⟨i,hi,zv,hz,zero,hzc,hco⟩:=hco
   obtain⟨h0,hco⟩:=cond_some hco
   injection hco with hco
   subst hco
   simp only[Bool.and_eq_true,Nat.blt_eq,nbeq,decide_eq_true_eq] at h0
   simp only[evOp] at he
   exact fin2 (ev_mkarr hW hF hop hxy ht hi hz hzc h0.2 h0.1 hcx he hd)
  ·cases hco
 | makeMap t r =>
  rw[hop] at hco
  cases r with
  | some r=>simp[compOp] at hco
  | none =>
   simp only[compOp,Option.map_eq_some_iff] at hco
   obtain⟨m,hm,rfl⟩:=hco
   simp only[evOp,Option.some.injEq,Prod.mk.injEq] at he
   obtain⟨rfl,rfl⟩:=he
   exact fin2 (ev_mkmap hW hF hop hd _ _ _)
 | lookup t x i ok =>
  rw[hop] at hco
  simp only[compOp,Option.bind_eq_some_iff,Option.map_eq_some_iff] at hco
  obtain⟨ya,hca,yb,hcb,m,hm,rfl⟩:=hco
  obtain⟨kt,et,z,hT⟩:=mapK_inv hm
  cases hb:(!ok&&!m.2.2.1&&isTake takes o.dst) with
  | false =>
   rw[hb] at he
   simp only[cond_false,evOp] at he
   obtain⟨h1,h2⟩:=ev_look hW hF hT hop hca hcb he
   exact fin h1 h2
  | true =>
   rw[hb] at he
   simp only[cond_true,evOp] at he
   simp only[Bool.and_eq_true,Bool.not_eq_true'] at hb
   obtain⟨⟨hok,hva⟩,_⟩:=hb
   subst hok
   rw[hva] at hT
   exact fin2 (ev_lookT hW hF hT hop hca hcb he hd)
 | mapUpdate t x i v =>
  rw[hop] at hco
  simp only[compOp,Option.bind_eq_some_iff,Option.map_eq_some_iff] at hco
  obtain⟨ya,hca,yb,hcb,yc,hcc,m,hm,rfl⟩:=hco
  obtain⟨kt,et,z,hT⟩:=mapK_inv hm
  simp only[evOp,Option.map_eq_some_iff,Prod.mk.injEq] at he
  obtain⟨s1,he,rfl,rfl⟩:=he
  exact fin2 (ev_mset hW hF hT (.inl hop) hca hcb hcc he hd)
 | insert t x i v =>
  rw[hop] at hco
  simp only[compOp,Option.bind_eq_some_iff,Option.map_eq_some_iff] at hco
  obtain⟨ya,hca,yb,hcb,yc,hcc,m,hm,rfl⟩:=hco
  obtain⟨kt,et,z,hT⟩:=mapK_inv hm
  simp only[evOp,Option.map_eq_some_iff,Prod.mk.injEq] at he
  obtain⟨s1,he,rfl,rfl⟩:=he
  exact fin2 (ev_mset hW hF hT (.inr hop) hca hcb hcc he hd)
 | range t x =>
  rw[hop] at hco
  simp only[compOp] at hco
  obtain⟨h0,hco⟩:=cond_some hco
  simp only[Option.bind_eq_some_iff,Option.map_eq_some_iff] at hco
  obtain⟨ya,hca,m,hm,rfl⟩:=hco
  obtain⟨kt,et,z,hT⟩:=mapK_inv hm
  obtain⟨k',h1,h2⟩:=isTake_mem h0
  exact fin2 (ev_rng hW hF hop hca hT.ht he (fun k hk=>⟨hd k hk,by rw[h1] at hk;injection hk with hk;subst hk;exact hLm _ h2⟩))
 | next x b =>
  rw[hop] at hco
  cases b with
  | true=>simp[compOp] at hco
  | false =>
   simp only[compOp,Option.map_eq_some_iff] at hco
   obtain⟨ya,hca,rfl⟩:=hco
   simp[evOp] at he
 | entry x =>
  rw[hop] at hco
  simp only[compOp,Option.map_eq_some_iff] at hco
  obtain⟨ya,hca,rfl⟩:=hco
  obtain⟨h1,h2⟩:=ev_ent hW hF hop hca he
  exact fin h1 h2
 | _=>rw[hop] at hco;simp[compOp] at hco
end
end Go.Abs
end
