/-
  A part of the proof of PrintKept: AbsMap2, AbsMap3, AbsMap4, AbsMap5, AbsMap6.
-/
import Derived.Maps.RangeRun
import Derived.Test.YtaedakihpnghjaaGreatDoorP05
set_option linter.unusedSimpArgs false
set_option linter.unusedVariables false
section
namespace Go.Abs
set_option linter.unusedSimpArgs false
set_option linter.unusedVariables false
section
variable {P:Program} {G:Nat→List AV} {base nt:Nat} {L:List Nat} {gh:Gh} {w w' : World} {a:Act} {s:AS} {H:AHeap}
def mapW (w:World) (b:Nat) (E:Array MapEntry) (ck:Nat):World:={ w with heap:=w.heap.setIfInBounds b (Obj.map E ck) }
theorem setMap_same {b:Nat} {E E' : Array MapEntry} {ck ck' : Nat} (hb:w.heap[b]?=some (.map E ck)):(mapW w b E' ck').heap[b]?=some (.map E' ck'):=by
 have hlt:b<w.heap.size:=(Array.getElem?_eq_some_iff.1 hb).1
 simp[mapW,hlt]
theorem setMap_other {b b' : Nat} {E' : Array MapEntry} {ck' : Nat} (h:b'≠b):(mapW w b E' ck').heap[b']?=w.heap[b']?:=by
 simp[mapW,Ne.symm h]
theorem run_setMap {b:Nat} {E E' : Array MapEntry} {ck ck' : Nat} (hb:w.heap[b]?=some (.map E ck)):(setObj b (.map E' ck')).run P w=.ok () (mapW w b E' ck'):=by
 simp[setObj,Sem.run,hb,mapW]
theorem map_step (hW:WRel G base H gh w) {b:Nat} {E E' : Array MapEntry} {ck ck' : Nat} (hb:w.heap[b]?=some (.map E ck)) (hS:∀ o,¬ gh.S b o) (n:Nat):Step (fun r=>r=gh.κ b) n gh w gh (mapW w b E' ck'):=by
 have hne:∀ b' o,gh.S b' o→b'≠b:=fun b' o h=>by rintro rfl;exact hS o h
 refine⟨fun _ _ h=>h,fun b' o h=>cell_of_heap (setMap_other (hne b' o h)),by simp[mapW],rfl,rfl,rfl,fun b' hb' hn=>?_,fun b' hb'=>?_,fun _ _=>rfl,fun b' ty m hm=>?_,fun b' E1 c1 hs hm=>?_⟩
 ·have hne' : b'≠b:=by rintro rfl;exact hn rfl
  exact⟨.inl (setMap_other hne'),rfl,fun _ h=>h⟩
 ·have:w.heap.size≤b':=by simpa [mapW] using hb'
  exact hW.not_outer b' this
 ·obtain⟨C,fr,h1,h2⟩:=hm
  have hne' : b'≠b:=by rintro rfl;rw[hb] at h1;cases h1
  exact⟨C,fr,by rw[setMap_other hne'];exact h1,h2⟩
 ·rw[setMap_other (hne b' 0 hs)];exact hm
structure MapT (P:Program) (t kt et:TypeId) (ks:List CK) (ka va:Bool) (vz:Nat) (z:Value) (zero:List AV):Prop where
 ht:P.underlying t=some (.map kt et)
 key:KeyT P kt ks ka
 vz1:va=false→vz=1
 hz:∃ i,P.info? et=some i∧i.zero=some z
 cells:constCells z.cells.toList=some zero
 agg:aggV z=va
 len:zero.length=vz
theorem KeyT.kz {kt:TypeId} {ks:List CK} {ka:Bool} (h:KeyT P kt ks ka) (hf:ka=false):ks.length=1:=by
 rcases h.cases with ⟨_,⟨_,h⟩|⟨_,_,h⟩|⟨_,h⟩⟩|⟨rfl,_⟩
 ·rw[h];rfl
 ·rw[h];rfl
 ·rw[h];rfl
 ·cases hf
theorem mapK_inv {t:TypeId} {m:List CK × Bool × Bool × List AV} (h:mapK P t=some m):∃ kt et z,MapT P t kt et m.1 m.2.1 m.2.2.1 m.2.2.2.length z m.2.2.2:=by
 unfold mapK at h
 split at h
 ·rename_i kt et hu
  simp only[Option.bind_eq_some_iff] at h
  obtain⟨ks,hks,ka,hka,i,hi,z,hz,zero,hzc,h⟩:=h
  obtain⟨h0,h⟩:=cond_some h
  injection h with h
  subst h
  refine⟨kt,et,z,hu,⟨hks,hka⟩,fun hv=>?_,⟨i,hi,hz⟩,hzc,rfl,rfl⟩
  simp only at hv ⊢
  rw[hv] at h0
  simpa [nbeq] using h0
 ·cases h
theorem ev_mkmap (hW:WRel G base s.H gh w) (hF:FR L nt gh w a s) {o:Oper} {t:TypeId} (ho:o.op=.makeMap t none) (hd:∀ k,o.dst=some k→k<nt) (kz:Nat) (ka va:Bool) :
  ∃ v' gh' w',Ran P a o w v' w'∧Out G base nt L gh w a s o.dst (.mref s.H.length) (s.chg ⟨s.H++[.map kz ka va []],s.H.length⟩) v' gh' w':=by
 have hp:=Pushed.alloc w (.map #[] 0)
 have hρ:(gh.pushBox w.heap.size s.H.length).ρ s.H.length=w.heap.size:=by simp[Gh.pushBox]
 have hv:VR (gh.pushBox w.heap.size s.H.length) (s.H++[AObj.map kz ka va []]).length (w.alloc (.map #[] 0)) (.map (some w.heap.size)) (.mref s.H.length):=by
  have:=VR.mref (gh:=gh.pushBox w.heap.size s.H.length) (w:=w.alloc (.map #[] 0)) (n:=(s.H++[AObj.map kz ka va []]).length) s.H.length (by simp)
  rw[hρ] at this;exact this
 have hM:MoreAt (gh.pushBox w.heap.size s.H.length) (s.H.length+1) (w.alloc (.map #[] 0)) w.heap.size s.H.length (.map kz ka va []):=by
  refine⟨⟨by simp[Gh.pushBox,Gh.alloc],?_,#[],0,fun _ _=>undef,hp.new,⟨rfl,rfl,fun i e h=>by simp at h,fun i e h=>by simp at h,fun i j e e' h=>by simp at h,fun i e r h=>by simp at h⟩,fun i j r x h=>by simp at h,fun i j r x h=>by simp at h⟩,rfl⟩
  rintro o (ho|⟨_,ho⟩)
  ·have:=hW.sLt _ o ho;omega
  ·exact ho
 refine⟨_,_,_,.inl ?_,hW.pushMore hp (fun _ _ h=>by cases h) hM,hF.put (pushBox_step hW hp) (fun i=>⟨id,id,fun _=>id⟩) (by simp) o.dst hd (.of_VR hv),pushBox_ext hW hp⟩
 simp[execOp,ho,Instr.makeMap,newObj,Sem.run]
theorem mkV_VR {n:Nat} {va:Bool} {m:Nat} {g:Nat→Value} {cs:List AV} (hm:cs.length=m) (h1:va=false→m=1) (h:∀ (j:Nat) (x:AV),cs[j]?=some x→VR gh n w (g j) x.drop∧(g j).oneCell'=true) :
  VR gh n w (mkV va m g) (cond va (.agg (cs.map AV.drop)) ((cs.headD .undef).drop)):=by
 cases va with
 | true =>
  refine .agg _ _ (by simp[hm]) (fun j v hv=>?_) (fun j v x hv hx=>?_)
  ·simp only[List.getElem?_toArray,List.getElem?_map,Option.map_eq_some_iff] at hv
   obtain⟨i,hi,rfl⟩:=hv
   obtain⟨hlt,hij⟩:=List.getElem?_eq_some_iff.1 hi
   simp at hlt hij
   subst hij
   exact (h _ _ (List.getElem?_eq_getElem (by omega))).2
  ·simp only[List.getElem?_toArray,List.getElem?_map,Option.map_eq_some_iff] at hv hx
   obtain⟨i,hi,rfl⟩:=hv
   obtain⟨hlt,hij⟩:=List.getElem?_eq_some_iff.1 hi
   simp at hlt hij
   subst hij
   obtain⟨y,hy,rfl⟩:=hx
   exact (h _ y hy).1
 | false =>
  have:=h1 rfl
  cases cs with
  | nil=>simp at hm;omega
  | cons x cs=>exact (h 0 x rfl).1
theorem zero_VR {n:Nat} {t kt et:TypeId} {ks:List CK} {ka va:Bool} {vz:Nat} {z:Value} {zero:List AV} (hT:MapT P t kt et ks ka va vz z zero):VR gh n w z (cond va (.agg (zero.map AV.drop)) ((zero.headD .undef).drop)):=by
 obtain⟨hl,hv⟩:=constCells_VR (gh:=gh) (n:=n) (w:=w) hT.cells
 have hag:=hT.agg
 cases z
 case agg C =>
  simp[aggV] at hag
  subst hag
  refine .agg C _ (by simpa [Value.cells] using hl) (fun j v hv'=>?_) (fun j v x hv' hx=>?_)
  ·have hlt:=(Array.getElem?_eq_some_iff.1 hv').1
   have hz:zero[j]?=some zero[j]:=List.getElem?_eq_getElem (by
    have:C.toList.length=zero.length:=by simpa [Value.cells] using hl
    simp at this;omega)
   exact (hv j v _ (by simpa [Value.cells] using hv') hz).2
  ·simp only[List.getElem?_map,Option.map_eq_some_iff] at hx
   obtain⟨y,hy,rfl⟩:=hx
   exact (hv j v y (by simpa [Value.cells] using hv') hy).1.dropped
 all_goals
  simp[aggV] at hag
  subst hag
  have h1:zero.length=1:=by rw[hT.len];exact hT.vz1 rfl
  obtain⟨x,rfl⟩:=List.length_eq_one_iff.1 h1
  exact (hv 0 _ x rfl rfl).1.dropped
theorem lookV_VR {n:Nat} {ok va:Bool} {cs:List AV} {v:Value} (h:VR gh n w v (cond va (.agg (cs.map AV.drop)) ((cs.headD .undef).drop))) (found:Bool) :
  VR gh n w (if ok then .tuple #[v,.bool found] else v) (lookV ok va cs found):=by
 unfold lookV
 simp only
 cases ok with
 | false=>exact h
 | true =>
  refine .tuple _ _ rfl (fun j u x hu hx=>?_)
  match j with
  | 0=>injection hu with hu;injection hx with hx;subst hu hx;exact h
  | 1=>injection hu with hu;injection hx with hx;subst hu hx;exact .plain _ _ (.bool _)
  | j+2=>simp at hx
structure Rows (gh:Gh) (n:Nat) (w:World) (E:Array MapEntry) (kz:Nat) (ka va:Bool) (es:List (List AV)):Prop where
 size:E.size=es.length
 key:∀ (i:Nat) (e:MapEntry) (r:List AV),E[i]?=some e→es[i]?=some r→KeyAt gh.S w kz ka e.key r
 val:∀ (i:Nat) (e:MapEntry) (r:List AV),E[i]?=some e→es[i]?=some r→kz≤r.length∧(va=false→r.length=kz+1)∧∃ g,e.val=mkV va (r.length-kz) g∧∀ (j:Nat) (x:AV),(r.drop kz)[j]?=some x→VR gh n w (g j) x.drop∧(g j).oneCell'=true
theorem rows_of_PR {n b kz:Nat} {ka va:Bool} {es:List (List AV)} {v:Value} (h:PR gh.S w v (.fmap kz ka va es)):∃ b E ck,v=.map (some b)∧w.heap[b]?=some (.map E ck)∧Rows gh n w E kz ka va es:=by
 cases h with
 | fmap b _ _ _ _ E ck f hS hb hE hrel =>
  refine⟨b,E,ck,rfl,hb,hE.size,fun i e r h1 h2=>⟨f i,(hE.row i e r h1 h2).2.2.2.1,fun j x hj _=>hrel i j r x h2 hj⟩,fun i e r h1 h2=>?_⟩
  obtain⟨k1,_,k2,_,k3⟩:=hE.row i e r h1 h2
  refine⟨k1,k2,fun j=>f i (kz+j),k3,fun j x hj=>?_⟩
  rw[List.getElem?_drop] at hj
  have:=hrel i (kz+j) r x h2 hj
  exact⟨VR.dropped (.plain _ _ this),this.oneCell⟩
theorem rows_of_At {n b kz:Nat} {p:Owner} {q:Nat→Owner} {ka va:Bool} {es:List (List AV)} (h:MapAt gh n w b p q kz ka va es):∃ E ck,w.heap[b]?=some (.map E ck)∧Rows gh n w E kz ka va es:=by
 obtain⟨_,_,E,ck,f,hb,hE,h1,h2⟩:=h
 refine⟨E,ck,hb,hE.size,fun i e r k1 k2=>⟨f i,(hE.row i e r k1 k2).2.2.2.1,fun j x hj hl=>h1 i j r x k2 hj hl⟩,fun i e r k1 k2=>?_⟩
 obtain⟨l1,_,l2,_,l3⟩:=hE.row i e r k1 k2
 refine⟨l1,l2,fun j=>f i (kz+j),l3,fun j x hj=>?_⟩
 rw[List.getElem?_drop] at hj
 obtain⟨m1,_,m2⟩:=h2 i (kz+j) r x k2 hj (by omega)
 exact⟨m2.dropped,m1⟩
theorem find_lt:∀ {ks:List CK} {kc:List AV} {es:List (List AV)} {i:Nat},findE ks kc es=some (some i)→i<es.length
 | ks,kc,[],i,h=>by simp[findE] at h
 | ks,kc,r :: es,i,h=>by
  simp only[findE,Option.bind_eq_some_iff] at h
  obtain⟨b,_,h⟩:=h
  cases b with
  | true=>simp at h;subst h;simp
  | false =>
   simp only[cond_false,Option.map_eq_some_iff] at h
   obtain⟨o,ho,h⟩:=h
   cases o with
   | none=>simp at h
   | some j=>simp at h;subst h;have:=find_lt ho;simp;omega
theorem run_look {n:Nat} {t kt et:TypeId} {ks:List CK} {ka va:Bool} {vz:Nat} {z:Value} {zero:List AV} (hT:MapT P t kt et ks ka va vz z zero) {kv:Value} {k:AV} {kc:List AV} (hk:VR gh n w kv k) (hkc:k.cells=some kc) (hl:kc.length=ks.length) (hka:ka=k.isAgg)
  {b:Nat} {E:Array MapEntry} {ck:Nat} {es:List (List AV)} (hb:w.heap[b]?=some (.map E ck)) (hR:Rows gh n w E ks.length ka va es) {o:Option Nat} (hf:findE ks kc es=some o) (ok:Bool) :
  ∃ v,(Instr.lookup t (.map (some b)) kv ok).run P w=.ok v w∧VR gh n w v (lookO ok va zero ks.length es o):=by
 have hch:=run_check hT.key hk hkc hl hka E.isEmpty
 have hfi:=run_find hT.key hk hkc hl hka (l:=E.toList) (by simpa using hR.size) (fun i e r h1 h2=>hR.key i e r (by simpa using h1) h2) hf
 obtain⟨i0,hi0,hz0⟩:=hT.hz
 have hzr:(zeroValue et).run P w=.ok z w:=by simp[zeroValue,typeInfo,hi0,hz0]
 cases o with
 | none =>
  refine⟨if ok then .tuple #[z,.bool false] else z,?_,lookV_VR (zero_VR hT) false⟩
  simp[Instr.lookup,run_underlying hT.ht,getObj,Sem.run,hb]
  simp[hch,hfi,hzr]
 | some i =>
  have hi:=find_lt hf
  have hiE:i<E.size:=by rw[hR.size];exact hi
  have hE:E[i]?=some E[i]:=Array.getElem?_eq_getElem hiE
  have he:es[i]?=some es[i]:=List.getElem?_eq_getElem hi
  obtain⟨k1,k2,g,k3,k4⟩:=hR.val i _ _ hE he
  have hgd:es.getD i []=es[i]:=by simp[List.getD,he]
  have hed:E.toList.getD i default=E[i]:=by
   have:E.toList[i]?=some E[i]:=by rw[Array.getElem?_toList];exact hE
   simp[List.getD,this]
  have hv:=mkV_VR (gh:=gh) (n:=n) (w:=w) (va:=va) (m:=es[i].length-ks.length) (g:=g) (cs:=es[i].drop ks.length) (by simp) (fun hva=>by have:=k2 hva;omega) k4
  rw[← k3] at hv
  refine⟨if ok then .tuple #[E[i].val,.bool true] else E[i].val,?_,by simp only[lookO];rw[hgd];exact lookV_VR hv true⟩
  simp only[Option.map_some,hed] at hfi
  simp[Instr.lookup,run_underlying hT.ht,getObj,Sem.run,hb]
  simp[hch,hfi]
theorem run_look_nil {n:Nat} {t kt et:TypeId} {ks:List CK} {ka va:Bool} {vz:Nat} {z:Value} {zero:List AV} (hT:MapT P t kt et ks ka va vz z zero) {kv:Value} {k:AV} {kc:List AV} (hk:VR gh n w kv k) (hkc:k.cells=some kc) (hl:kc.length=ks.length) (hka:ka=k.isAgg) (ok:Bool) :
  ∃ v,(Instr.lookup t (.map none) kv ok).run P w=.ok v w∧VR gh n w v (lookV ok va zero false):=by
 have hch:=run_check hT.key hk hkc hl hka true
 have hfi:=run_find hT.key hk hkc hl hka (l:=[]) (es:=[]) rfl (fun i e r h1 h2=>by simp at h1) (o:=none) rfl
 obtain⟨i0,hi0,hz0⟩:=hT.hz
 have hzr:(zeroValue et).run P w=.ok z w:=by simp[zeroValue,typeInfo,hi0,hz0]
 refine⟨if ok then .tuple #[z,.bool false] else z,?_,lookV_VR (zero_VR hT) false⟩
 simp[Instr.lookup,run_underlying hT.ht]
 simp[hch,hfi,hzr]
end
end Go.Abs
end
section
namespace Go.Abs
set_option linter.unusedSimpArgs false
set_option linter.unusedVariables false
section
variable {P:Program} {G:Nat→List AV} {base nt:Nat} {L:List Nat} {gh:Gh} {w w' : World} {a:Act} {s:AS} {H:AHeap}
theorem find_spec {a:List UInt8} : ∀ (es:List (List AV)),(∀ r,r∈es→∃ b,strKey r=some b)→∃ o,findE [.s] [.str a] es=some o ∧
  ((o=none∧∀ r,r∈es→strKey r≠some a)∨∃ i r,o=some i∧es[i]?=some r∧strKey r=some a)
 | [],_=>⟨none,rfl,.inl ⟨rfl,fun r h=>by cases h⟩⟩
 | r :: es,h=>by
  obtain⟨b,hb⟩:=h r (List.mem_cons_self ..)
  obtain⟨q,rfl⟩:∃ q,r=.str b :: q:=by
   unfold strKey at hb
   split at hb
   ·injection hb with hb;subst hb;exact⟨_,rfl⟩
   ·cases hb
  obtain⟨o,ho,hs⟩:=find_spec (a:=a) es (fun r hr=>h r (List.mem_cons_of_mem _ hr))
  by_cases hab:a=b
  ·subst hab
   exact⟨some 0,by simp[findE,eqFlat],.inr ⟨0,_,rfl,rfl,rfl⟩⟩
  ·have hne:(a==b)=false:=by simpa using hab
   refine⟨o.map (· + 1),by simp[findE,eqFlat,hne,ho],?_⟩
   rcases hs with ⟨rfl,hs⟩|⟨i,r,rfl,h1,h2⟩
   ·refine .inl ⟨rfl,fun r hr=>?_⟩
    rcases List.mem_cons.1 hr with rfl|hr
    ·simp only[strKey];intro h;injection h with h;exact hab h.symm
    ·exact hs r hr
   ·exact .inr ⟨i+1,r,rfl,by simpa using h1,h2⟩
theorem apart_spec:∀ {es:List (List AV)},apartS es=true→(∀ r,r∈es→∃ b,strKey r=some b)∧∀ r r',r∈es→r'∈es→strKey r=strKey r'→r=r'
 | [],_=>⟨fun r h=>(by cases h),fun r r' h=>(by cases h)⟩
 | q :: es,h=>by
  simp only[apartS,Bool.and_eq_true] at h
  obtain⟨h1,h2⟩:=h
  obtain⟨i1,i2⟩:=apart_spec h2
  cases hq:strKey q with
  | none=>rw[hq] at h1;cases h1
  | some a =>
   rw[hq] at h1
   simp only[List.all_eq_true] at h1
   have hne:∀ r,r∈es→strKey r≠some a:=by
    intro r hr hra
    have:=h1 r hr
    rw[hra] at this
    simp at this
   refine⟨fun r hr=>?_,fun r r' hr hr' he=>?_⟩
   ·rcases List.mem_cons.1 hr with rfl|hr
    ·exact⟨a,hq⟩
    ·exact i1 r hr
   ·rcases List.mem_cons.1 hr with e1|k1<;>rcases List.mem_cons.1 hr' with e2|k2
    ·rw[e1,e2]
    ·rw[e1] at he;exact absurd (he.symm.trans hq) (hne r' k2)
    ·rw[e2] at he;exact absurd (he.trans hq) (hne r k1)
    ·exact i2 r r' k1 k2 he
theorem find_perm {a:List UInt8} {es es' : List (List AV)} (hp:es'.Perm es) (ha:apartS es=true) {o:Option Nat} (hf:findE [.s] [.str a] es=some o) (ok va:Bool) (zero:List AV) (kz:Nat) :
  ∃ o',findE [.s] [.str a] es'=some o'∧lookO ok va zero kz es' o'=lookO ok va zero kz es o:=by
 obtain⟨h1,h2⟩:=apart_spec ha
 obtain⟨o1,e1,s1⟩:=find_spec (a:=a) es h1
 rw[hf] at e1
 injection e1 with e1
 subst e1
 obtain⟨o',e2,s2⟩:=find_spec (a:=a) es' (fun r hr=>h1 r (hp.mem_iff.1 hr))
 refine⟨o',e2,?_⟩
 rcases s1 with ⟨rfl,s1⟩|⟨i,r,rfl,k1,k2⟩
 ·rcases s2 with ⟨rfl,_⟩|⟨i',r',rfl,k1',k2'⟩
  ·rfl
  ·exact absurd k2' (s1 r' (hp.mem_iff.1 (List.mem_of_getElem? k1')))
 ·rcases s2 with ⟨rfl,s2⟩|⟨i',r',rfl,k1',k2'⟩
  ·exact absurd k2 (s2 r (hp.mem_iff.2 (List.mem_of_getElem? k1)))
  ·have:r'=r:=h2 r' r (hp.mem_iff.1 (List.mem_of_getElem? k1')) (List.mem_of_getElem? k1) (k2'.trans k2.symm)
   subst this
   simp only[lookO,List.getD,k1,k1']
theorem ev_look (hW:WRel G base s.H gh w) (hF:FR L nt gh w a s) {o:Oper} {t kt et:TypeId} {ks:List CK} {ka va:Bool} {vz:Nat} {zv:Value} {zero:List AV} (hT:MapT P t kt et ks ka va vz zv zero) {x i:Operand} {y yi:IArg} {ok:Bool} {z:AV} {s' : Option AS}
  (ho:o.op=.lookup t x i ok) (hc:compArg nt x=some y) (hi:compArg nt i=some yi) (he:evLook s ok ks.length ka va ks zero (y.addr G s.T) (yi.eval G s.T)=some (z,s')) :
  s'=none∧∃ v,(execOp a.eval o).run P w=.ok (.value v) w∧Val gh s.H.length nt w s.T s.gen (tmv a) v z:=by
 simp only[evLook,Option.bind_eq_some_iff] at he
 obtain⟨kc,hkc,he⟩:=he
 obtain⟨h0,he⟩:=cond_some he
 simp only[Bool.and_eq_true,nbeq,decide_eq_true_eq,beq_iff_eq] at h0
 obtain⟨hl,hka⟩:=h0
 have hfr:frameCell (yi.eval G s.T)=true:=by rw[← frameCell_drop];exact frameCell_of_cells hkc
 have hk:=arg_VR hW hF hi rfl hfr
 have fin:∀ {M:Value} {zz:AV},a.eval x=M→(∃ v,(Instr.lookup t M (a.eval i) ok).run P w=.ok v w∧VR gh s.H.length w v zz)→∃ v,(execOp a.eval o).run P w=.ok (.value v) w∧Val gh s.H.length nt w s.T s.gen (tmv a) v zz:=by
  rintro M zz rfl ⟨v,h1,h2⟩
  exact⟨v,by simp[execOp,ho,h1],.of_VR h2⟩
 have hm:=arg_val hW hF hc
 split at he
 ·rename_i hM
  simp only[Option.some.injEq,Prod.mk.injEq] at he
  obtain⟨rfl,rfl⟩:=he
  rw[hM] at hm
  refine⟨rfl,fin (M:=.map none) ?_ (run_look_nil hT hk hkc hl hka ok)⟩
  generalize a.eval x=V at hm
  cases (hm:VR gh s.H.length w V .nilmap) with
  | plain _ _ h=>cases h;rfl
 ·rename_i kz' ka' va' es hM
  obtain⟨h1,he2⟩:=cond_some he
  clear he
  simp only[Option.map_eq_some_iff,Prod.mk.injEq] at he2
  obtain⟨r,hf,rfl,rfl⟩:=he2
  simp only[Bool.and_eq_true,nbeq,decide_eq_true_eq,beq_iff_eq] at h1
  obtain⟨⟨⟨⟨rfl,rfl⟩,rfl⟩,hap⟩,hsk⟩:=h1
  obtain⟨str,rfl,rfl⟩:∃ str,ks=[.s]∧kc=[.str str]:=by
   unfold isSK at hsk
   split at hsk
   ·exact⟨_,rfl,rfl⟩
   ·cases hsk
  refine⟨rfl,?_⟩
  rw[hM] at hm
  have hp:PR gh.S w (a.eval x) (.gmap [CK.s].length ka va es):=by
   generalize a.eval x=V at hm
   cases (hm:VR gh s.H.length w V (.gmap [CK.s].length ka va es)) with
   | plain _ _ h=>exact h
  generalize hV:a.eval x=V at hp
  cases hp with
  | gmap b _ _ _ _ es' E ck f hS hb hE hpm hrow hrel =>
   obtain⟨o',hf',hlk⟩:=find_perm hpm hap hf ok va zero [CK.s].length
   rw[← hlk]
   have hR:Rows gh s.H.length w E [CK.s].length ka va es':=by
    refine⟨hE,fun i e r h1 h2=>⟨f i,(hrow i e r h1 h2).2.2.2.1,fun j x hj _=>hrel i j r x h2 hj⟩,fun i e r h1 h2=>?_⟩
    obtain⟨k1,_,k2,_,k3⟩:=hrow i e r h1 h2
    refine⟨k1,k2,_,k3,fun j x hj=>?_⟩
    rw[List.getElem?_drop] at hj
    have:=hrel i _ r x h2 hj
    exact⟨VR.dropped (.plain _ _ this),this.oneCell⟩
   exact fin hV (run_look hT hk hkc hl hka hb hR hf' ok)
 ·simp only[Option.bind_eq_some_iff,Option.map_eq_some_iff,Prod.mk.injEq] at he
  obtain⟨es,hrows,r,hf,rfl,rfl⟩:=he
  refine⟨rfl,?_⟩
  have key:∃ b E ck,a.eval x=.map (some b)∧w.heap[b]?=some (.map E ck)∧Rows gh s.H.length w E ks.length ka va es:=by
   generalize hY:y.addr G s.T=Y at hm hrows
   have hp:∀ kz' ka' va' es',Y=.fmap kz' ka' va' es'→PR gh.S w (a.eval x) (.fmap kz' ka' va' es'):=by
    rintro _ _ _ _ rfl
    generalize a.eval x=V at hm
    cases (hm:VR gh s.H.length w V (.fmap _ _ _ _)) with
    | plain _ _ h=>exact h
   unfold mapRows at hrows
   split at hrows
   ·obtain⟨h1,hrows⟩:=cond_some hrows
    injection hrows with hrows
    subst hrows
    simp only[Bool.and_eq_true,nbeq,decide_eq_true_eq,beq_iff_eq] at h1
    obtain⟨⟨rfl,rfl⟩,rfl⟩:=h1
    exact rows_of_PR (b:=0) (hp _ _ _ _ rfl)
   ·obtain⟨hlt,hax⟩:=VR.inv_mref (hm:VR gh s.H.length w (a.eval x) (.mref _))
    split at hrows
    ·rename_i hH
     obtain⟨h1,hrows⟩:=cond_some hrows
     injection hrows with hrows
     subst hrows
     simp only[Bool.and_eq_true,nbeq,decide_eq_true_eq,beq_iff_eq] at h1
     obtain⟨⟨rfl,rfl⟩,rfl⟩:=h1
     obtain⟨E,ck,hb,hR⟩:=rows_of_At (hW.more _ _ hH).1
     exact⟨_,E,ck,hax,hb,hR⟩
    ·rename_i hH
     obtain⟨h1,hrows⟩:=cond_some hrows
     injection hrows with hrows
     subst hrows
     simp only[Bool.and_eq_true,nbeq,decide_eq_true_eq,beq_iff_eq] at h1
     obtain⟨⟨rfl,rfl⟩,rfl⟩:=h1
     obtain⟨b,E,ck,hv,hb,hR⟩:=rows_of_PR (b:=0) (n:=s.H.length) (hW.more _ _ hH:PR gh.S w _ _)
     exact⟨b,E,ck,hax.trans hv,hb,hR⟩
    ·cases hrows
   ·cases hrows
  obtain⟨b,E,ck,hax,hb,hR⟩:=key
  exact fin hax (run_look hT hk hkc hl hka hb hR hf ok)
theorem find_eq:∀ {ks:List CK} {kc:List AV} {es:List (List AV)} {i:Nat} {r:List AV},findE ks kc es=some (some i)→es[i]?=some r→eqFlat ks kc r=some true
 | ks,kc,[],i,r,h,_=>by simp[findE] at h
 | ks,kc,q :: es,i,r,h,hr=>by
  simp only[findE,Option.bind_eq_some_iff] at h
  obtain⟨b,hb,h⟩:=h
  cases b with
  | true=>simp at h;subst h;simp at hr;subst hr;exact hb
  | false =>
   simp only[cond_false,Option.map_eq_some_iff] at h
   obtain⟨o,ho,h⟩:=h
   cases o with
   | none=>simp at h
   | some j=>simp at h;subst h;exact find_eq ho (by simpa using hr)
theorem bits_cell {n m:Nat} {c:CK} {u v:Value} {x y:AV} (hu:VR gh n w u x) (hv:PR gh.S w v y) (h:eqFlat [c] [x] [y]=some true):Instr.sameBits m v u=true:=by
 cases c<;>cases x<;>try (cases h;done)
 all_goals (cases y<;>try (cases h;done))
 ·obtain rfl:=hu.inv_bool
  cases hv
  simp[eqFlat] at h
  cases m<;>simp[Instr.sameBits,h]
 ·obtain rfl:=hu.inv_int
  cases hv
  simp only[eqFlat] at h
  obtain⟨h0,h⟩:=cond_some h
  simp at h h0
  cases m<;>simp[Instr.sameBits,h,h0]
 ·obtain⟨p,rfl,rfl⟩:=hu.inv_str
  cases hv with
  | str q _ hq =>
   simp[eqFlat] at h
   have:q=p:=by
    cases p;cases q
    congr 1
    exact Array.ext' (by rw[hq];simp at h ⊢;rw[h])
   subst this
   have hb:(q==q)=true:=show (q.data==q.data)=true by simp
   cases m<;>simp[Instr.sameBits,hb]
theorem flat_true:∀ {ks:List CK} {X Y:List AV},eqFlat ks X Y=some true→∀ (j:Nat) (c:CK),ks[j]?=some c→∃ x y,X[j]?=some x∧Y[j]?=some y∧eqFlat [c] [x] [y]=some true
 | [],X,Y,h,j,c,hj=>by simp at hj
 | c0 :: ks,X,Y,h,j,c,hj=>by
  have one:∀ (x y:AV) (X' Y' : List AV) (e:Bool),X=x :: X'→Y=y :: Y'→eqFlat [c0] [x] [y]=some e→(eqFlat ks X' Y').map (e&&·)=some true→∃ x y,X[j]?=some x∧Y[j]?=some y∧eqFlat [c] [x] [y]=some true:=by
   rintro x y X' Y' e rfl rfl h1 h2
   simp only[Option.map_eq_some_iff,Bool.and_eq_true] at h2
   obtain⟨b,hb,rfl,rfl⟩:=h2
   cases j with
   | zero=>simp at hj;subst hj;exact⟨x,y,rfl,rfl,h1⟩
   | succ j =>
    obtain⟨x',y',k1,k2,k3⟩:=flat_true hb j c (by simpa using hj)
    exact⟨x',y',by simpa using k1,by simpa using k2,k3⟩
  cases c0<;>cases X<;>try (cases h;done)
  all_goals (rename_i x X';cases x<;>try (cases h;done))
  all_goals (cases Y<;>try (cases h;done))
  all_goals (rename_i y Y';cases y<;>try (cases h;done))
  ·exact one _ _ _ _ _ rfl rfl (by simp[eqFlat]) h
  ·simp only[eqFlat] at h
   obtain⟨h0,h⟩:=cond_some h
   exact one _ _ _ _ _ rfl rfl (by simp only[eqFlat,h0,cond_true];simp) h
  ·exact one _ _ _ _ _ rfl rfl (by simp[eqFlat]) h
theorem bits_key {kt:TypeId} {ks:List CK} {ka:Bool} (hK:KeyT P kt ks ka) {n:Nat} {kv:Value} {k:AV} {kc:List AV} (hk:VR gh n w kv k) (hkc:k.cells=some kc) (hl:kc.length=ks.length) (hka:ka=k.isAgg)
  {v:Value} {r:List AV} (hv:KeyAt gh.S w ks.length ka v r) (he:eqFlat ks kc r=some true):Instr.sameBits 10000 v kv=true:=by
 obtain⟨f,rfl,hf⟩:=hv
 have hft:=flat_true he
 cases ka with
 | false =>
  have h1:=hK.kz rfl
  obtain⟨c,rfl⟩:=List.length_eq_one_iff.1 h1
  have hkc1:kc=[k]:=by
   cases k<;>first|(cases hka;done)|(injection hkc with hkc;exact hkc.symm)|(cases hkc;done)
  subst hkc1
  obtain⟨x,y,k1,k2,k3⟩:=hft 0 c rfl
  simp at k1
  subst k1
  exact bits_cell hk (hf 0 y k2 (by simp)) k3
 | true =>
  obtain⟨C,rfl⟩:=agg_value hk hka
  have hC:Row gh n w C kc:=by
   rcases val_cells hk hkc with ⟨C',e,_,hr⟩|⟨_,h1⟩
   ·injection e with e;subst e;exact hr
   ·simp[Value.oneCell'] at h1
  show Instr.sameBits (9999+1) (.agg ((List.range ks.length).map f).toArray) (.agg C)=true
  simp only[Instr.sameBits,Bool.and_eq_true,beq_iff_eq,List.all_eq_true]
  refine⟨by simp[hC.1,hl],fun p hp=>?_⟩
  obtain⟨j,hj⟩:=List.getElem?_of_mem hp
  rw[List.getElem?_zip_eq_some] at hj
  obtain⟨h1,h2⟩:=hj
  simp only[List.getElem?_map,Option.map_eq_some_iff] at h1
  obtain⟨i,hi,hfi⟩:=h1
  obtain⟨hlt,hij⟩:=List.getElem?_eq_some_iff.1 hi
  simp at hlt hij
  subst hij
  have hc:ks[j]?=some ks[j]:=List.getElem?_eq_getElem hlt
  obtain⟨x,y,k1,k2,k3⟩:=hft j _ hc
  have hu:=hC.2 j p.2 x (by simpa using h2) k1
  obtain⟨p1,p2⟩:=p
  simp only at hfi hu ⊢
  rw[← hfi]
  exact bits_cell hu (hf j y k2 hlt) k3
theorem value_mkV {n:Nat} {v:Value} {x:AV} {cs:List AV} (h:VR gh n w v x) (hc:x.cells=some cs):v=mkV x.isAgg cs.length (fun j=>v.cells.getD j undef)∧∀ (j:Nat) (y:AV),cs[j]?=some y→VR gh n w (v.cells.getD j undef) y∧(v.cells.getD j undef).oneCell'=true:=by
 have hr:=cells_rel h hc
 refine⟨?_,fun j y hj=>?_⟩
 ·rcases val_cells h hc with ⟨C,rfl,rfl,hrow⟩|⟨rfl,hone⟩
  ·simp only[mkV,AV.isAgg,cond_true,Value.cells]
   congr 1
   refine Array.ext (by simp[hrow.1]) (fun i h1 h2=>by simp[h1])
  ·have hag:x.isAgg=false:=by
    cases x<;>first|rfl|skip
    obtain⟨C,rfl,_⟩:=h.inv_agg
    simp[Value.oneCell'] at hone
   have hv:v.cells=#[v]:=by cases v<;>first|rfl|(simp[Value.oneCell'] at hone)
   simp[mkV,hag,hv]
 ·have hlt:j<v.cells.size:=by rw[hr.1];exact (List.getElem?_eq_some_iff.1 hj).1
  have hv:v.cells[j]?=some v.cells[j]:=Array.getElem?_eq_getElem hlt
  obtain⟨h1,h2⟩:=hr.2 j _ y hv hj
  simp only[Array.getD_eq_getD_getElem?,hv,Option.getD_some]
  exact⟨h1,h2⟩
end
end Go.Abs
end
section
namespace Go.Abs
set_option linter.unusedSimpArgs false
set_option linter.unusedVariables false
section
variable {P:Program} {G:Nat→List AV} {base nt:Nat} {L:List Nat} {gh:Gh} {w w' : World} {a:Act} {s:AS} {H:AHeap}
theorem mkV_congr {agg:Bool} {n:Nat} {f g:Nat→Value} (h:∀ j,j<n→f j=g j) (hn:agg=false→0<n):mkV agg n f=mkV agg n g:=by
 cases agg with
 | true =>
  simp only[mkV,cond_true]
  congr 2
  exact List.map_congr_left fun j hj=>h j (by simpa using hj)
 | false=>exact h 0 (hn rfl)
def setE (E:Array MapEntry) (ck:Nat) (o:Option Nat) (kv vv:Value):Array MapEntry × Nat :=
 match o with
 | none=>(E.push { key:=kv,val:=vv,born:=ck },ck+1)
 | some i=>(E.modify i fun e=>{ e with key:=kv,val:=vv },ck)
theorem run_mset {n:Nat} {t kt et:TypeId} {ks:List CK} {ka va:Bool} {vz:Nat} {zv:Value} {zero:List AV} (hT:MapT P t kt et ks ka va vz zv zero) {kv vv:Value} {k:AV} {kc:List AV} (hk:VR gh n w kv k) (hkc:k.cells=some kc) (hl:kc.length=ks.length) (hka:ka=k.isAgg)
  {b:Nat} {E:Array MapEntry} {ck:Nat} {es:List (List AV)} (hb:w.heap[b]?=some (.map E ck)) (hR:Rows gh n w E ks.length ka va es) {o:Option Nat} (hf:findE ks kc es=some o) :
  (Instr.mapUpdate t (.map (some b)) kv vv).run P w=.ok () (mapW w b (setE E ck o kv vv).1 (setE E ck o kv vv).2):=by
 have hch:=run_check hT.key hk hkc hl hka false
 have hfi:=run_find hT.key hk hkc hl hka (l:=E.toList) (by simpa using hR.size) (fun i e r h1 h2=>hR.key i e r (by simpa using h1) h2) hf
 cases o with
 | none =>
  have hs:=run_setMap (P:=P) (w:=w) (E':=E.push { key:=kv,val:=vv,born:=ck }) (ck':=ck+1) hb
  simp[Instr.mapUpdate,run_underlying hT.ht,getObj,Sem.run,hb]
  simp[hch,hfi,setE]
  exact hs
 | some i =>
  have hi:=find_lt hf
  have hiE:i<E.size:=by rw[hR.size];exact hi
  have hE:E[i]?=some E[i]:=Array.getElem?_eq_getElem hiE
  have he:es[i]?=some es[i]:=List.getElem?_eq_getElem hi
  have hbits:=bits_key hT.key hk hkc hl hka (hR.key i _ _ hE he) (find_eq hf he)
  have hs:=run_setMap (P:=P) (w:=w) (E':=E.modify i fun e=>{ e with key:=kv,val:=vv }) (ck':=ck) hb
  simp[Instr.mapUpdate,run_underlying hT.ht,getObj,Sem.run,hb]
  simp only[Option.map_some] at hfi
  simp[hch,hfi,setE,hiE,Instr.keyThatStays,hbits]
  exact hs
theorem set_At {n l b kz:Nat} {ka va:Bool} {es:List (List AV)} {E:Array MapEntry} {ck:Nat} {f:Nat→Nat→Value} (hW:WRel G base H gh w) (hκ:gh.κ b=.hb l) (hS:∀ o,¬ gh.S b o) (hb:w.heap[b]?=some (.map E ck)) (hE:EntOK E ck kz ka va es f)
  (h1:∀ (i j:Nat) (r:List AV) (x:AV),es[i]?=some r→r[j]?=some x→j<kz→PR gh.S w (f i j) x)
  (h2:∀ (i j:Nat) (r:List AV) (x:AV),es[i]?=some r→r[j]?=some x→kz≤j→(f i j).oneCell'=true∧(va=true→VR gh n w (f i j) x)∧CR gh n w (.hs l i) (f i j) x)
  {kc vc:List AV} {fk fv:Nat→Value} (hkz:kc.length=kz) (hk1:ka=false→kz=1) (hv1:va=false→vc.length=1) (hkk:∀ (j:Nat) (x:AV),kc[j]?=some x→PR gh.S w (fk j) x)
  {o:Option Nat} (ho:∀ i,o=some i→i<es.length) (hvv:∀ (j:Nat) (x:AV),vc[j]?=some x→(fv j).oneCell'=true∧(va=true→VR gh n w (fv j) x)∧CR gh n w (.hs l (o.getD es.length)) (fv j) x) :
  MapAt gh n (mapW w b (setE E ck o (mkV ka kz fk) (mkV va vc.length fv)).1 (setE E ck o (mkV ka kz fk) (mkV va vc.length fv)).2) b (.hb l) (fun i=>.hs l i) kz ka va (setR es o (kc++vc)):=by
 have st:=map_step (E':=(setE E ck o (mkV ka kz fk) (mkV va vc.length fv)).1) (ck':=(setE E ck o (mkV ka kz fk) (mkV va vc.length fv)).2) hW hb hS n
 rw[hκ] at st
 let idx:=o.getD es.length
 let f' : Nat→Nat→Value:=fun i j=>if i=idx then (if j<kz then fk j else fv (j-kz)) else f i j
 have hrow:∀ i r,(setR es o (kc++vc))[i]?=some r→(i=idx∧r=kc++vc)∨(i≠idx∧es[i]?=some r):=by
  intro i r hr
  cases o with
  | none =>
   simp only[setR] at hr
   by_cases hlt:i<es.length
   ·rw[List.getElem?_append_left hlt] at hr
    exact .inr ⟨by show i≠es.length;omega,hr⟩
   ·rw[List.getElem?_append_right (by omega)] at hr
    have hz:i=es.length:=by
     have:=(List.getElem?_eq_some_iff.1 hr).1
     simp at this;omega
    subst hz
    simp at hr
    exact .inl ⟨rfl,hr.symm⟩
  | some i0 =>
   simp only[setR] at hr
   rw[List.getElem?_set] at hr
   split at hr
   ·rename_i e
    subst e
    split at hr
    ·injection hr with hr
     exact .inl ⟨rfl,hr.symm⟩
    ·cases hr
   ·rename_i e
    exact .inr ⟨Ne.symm e,hr⟩
 have hnewrow:kz≤(kc++vc).length∧(ka=false→kz=1)∧(va=false→(kc++vc).length=kz+1)∧mkV ka kz fk=mkV ka kz (f' idx)∧mkV va vc.length fv=mkV va ((kc++vc).length-kz) (fun j=>f' idx (kz+j)):=by
  rw[List.length_append,hkz]
  refine⟨by omega,hk1,fun h=>by rw[hv1 h],mkV_congr (fun j hj=>?_) (fun h=>by rw[hk1 h];omega),?_⟩
  ·simp only[f',if_pos rfl,if_pos hj]
  ·rw[Nat.add_sub_cancel_left]
   refine mkV_congr (fun j hj=>?_) (fun h=>by rw[hv1 h];omega)
   have e:¬ kz+j<kz:=by omega
   simp only[f',if_pos rfl,if_neg e,Nat.add_sub_cancel_left]
 refine⟨hκ,hS,_,_,f',setMap_same hb,?_,fun i j r x hi hj hl=>?_,fun i j r x hi hj hl=>?_⟩
 ·cases o with
  | none =>
   refine⟨by simp[setE,setR,hE.size],by simp[setE,hE.clk],fun i e he=>?_,fun i e he=>?_,fun i j e e' he he' hbb=>?_,fun i e r he hr=>?_⟩
   ·simp only[setE] at he
    rw[Array.getElem?_push] at he
    split at he
    ·rename_i hi0;injection he with he;subst he;rw[hi0];exact hE.clk
    ·exact hE.at' i e he
   ·simp only[setE] at he ⊢
    rw[Array.getElem?_push] at he
    split at he
    ·injection he with he;subst he;simp
    ·have:=hE.born i e he;omega
   ·simp only[setE] at he he'
    rw[Array.getElem?_push] at he he'
    split at he<;>split at he'
    ·omega
    ·injection he with he;subst he
     have:=hE.born j e' he'
     simp only at hbb;omega
    ·injection he' with he';subst he'
     have:=hE.born i e he
     simp only at hbb;omega
    ·exact hE.apart i j e e' he he' hbb
   ·simp only[setE] at he
    rw[Array.getElem?_push] at he
    rcases hrow i r hr with ⟨hi,rfl⟩|⟨hi,hr⟩
    ·have hi' : i=es.length:=hi
     rw[if_pos (by rw[hE.size];exact hi')] at he
     injection he with he
     subst he
     subst hi
     exact hnewrow
    ·have hi' : i≠es.length:=hi
     rw[if_neg (by rw[hE.size];exact hi')] at he
     obtain⟨k1,k2,k3,k4,k5⟩:=hE.row i e r he hr
     refine⟨k1,k2,k3,?_,?_⟩
     ·rw[k4];refine mkV_congr (fun j _=>?_) (fun h=>by rw[k2 h];omega)
      simp only[f',if_neg hi]
     ·rw[k5];refine mkV_congr (fun j _=>?_) (fun h=>by rw[k3 h];omega)
      simp only[f',if_neg hi]
  | some i0 =>
   have hget:∀ {i:Nat} {e:MapEntry},(E.modify i0 fun e=>{ e with key:=mkV ka kz fk,val:=mkV va vc.length fv })[i]?=some e→∃ e0,E[i]?=some e0∧e=if i=i0 then { e0 with key:=mkV ka kz fk,val:=mkV va vc.length fv } else e0:=by
    intro i e he
    rw[Array.getElem?_modify] at he
    split at he
    ·rename_i hii
     simp only[Option.map_eq_some_iff] at he
     obtain⟨e0,h0,rfl⟩:=he
     exact⟨e0,h0,by rw[if_pos hii.symm]⟩
    ·rename_i hii
     exact⟨e,he,by rw[if_neg (Ne.symm hii)]⟩
   have hborn:∀ {i:Nat} {e e0:MapEntry},(e=if i=i0 then { e0 with key:=mkV ka kz fk,val:=mkV va vc.length fv } else e0)→e.born=e0.born:=by
    intro i e e0 h
    rw[h];split<;>rfl
   refine⟨by simp[setE,setR,hE.size],by simp[setE,hE.clk],fun i e he=>?_,fun i e he=>?_,fun i j e e' he he' hbb=>?_,fun i e r he hr=>?_⟩
   ·obtain⟨e0,h0,h⟩:=hget he
    rw[hborn h]
    exact hE.at' i e0 h0
   ·obtain⟨e0,h0,h⟩:=hget he
    rw[hborn h]
    exact hE.born i e0 h0
   ·obtain⟨e0,h0,h⟩:=hget he
    obtain⟨e0',h0',h'⟩:=hget he'
    rw[hborn h,hborn h'] at hbb
    exact hE.apart i j e0 e0' h0 h0' hbb
   ·obtain⟨e0,h0,h⟩:=hget he
    rcases hrow i r hr with ⟨hi,rfl⟩|⟨hi,hr⟩
    ·have hi' : i=i0:=hi
     rw[if_pos hi'] at h
     subst h
     subst hi
     exact hnewrow
    ·have hi' : i≠i0:=hi
     rw[if_neg hi'] at h
     subst h
     obtain⟨k1,k2,k3,k4,k5⟩:=hE.row i e r h0 hr
     refine⟨k1,k2,k3,?_,?_⟩
     ·rw[k4];refine mkV_congr (fun j _=>?_) (fun h=>by rw[k2 h];omega)
      simp only[f',if_neg hi]
     ·rw[k5];refine mkV_congr (fun j _=>?_) (fun h=>by rw[k3 h];omega)
      simp only[f',if_neg hi]
 ·rcases hrow i r hi with ⟨rfl,rfl⟩|⟨hne,hr⟩
  ·rw[List.getElem?_append_left (by omega)] at hj
   simp only[f',if_pos rfl,if_pos hl]
   exact (hkk j x hj).mono st.S st.cell st.mp
  ·simp only[f',if_neg hne]
   exact (h1 i j r x hr hj hl).mono st.S st.cell st.mp
 ·rcases hrow i r hi with ⟨rfl,rfl⟩|⟨hne,hr⟩
  ·rw[List.getElem?_append_right (by omega),hkz] at hj
   have e:¬ j<kz:=by omega
   simp only[f',if_pos rfl,if_neg e]
   obtain⟨k1,k2,k3⟩:=hvv (j-kz) x hj
   exact⟨k1,fun h=>(k2 h).mono st (Nat.le_refl _),k3.mono st (Nat.le_refl _) (by simp)⟩
  ·simp only[f',if_neg hne]
   obtain⟨k1,k2,k3⟩:=h2 i j r x hr hj hl
   exact⟨k1,fun h=>(k2 h).mono st (Nat.le_refl _),k3.mono st (Nat.le_refl _) (by simp)⟩
theorem heapCell_plain {l:Nat} {x:AV} (h:x.plain=true):heapCell l x=true:=by
 cases x<;>first|exact h|(simp[AV.plain] at h;done)|(simp only[heapCell,AV.drop];exact h)|(simp[heapCell,AV.drop,AV.plain] at h ⊢;done)|skip
 rename_i f fs cs
 cases fs<;>cases cs<;>first|rfl|(simp[AV.plain] at h)
theorem ev_mset (hW:WRel G base s.H gh w) (hF:FR L nt gh w a s) {o:Oper} {t kt et:TypeId} {ks:List CK} {ka va:Bool} {vz:Nat} {zv:Value} {zero:List AV} (hT:MapT P t kt et ks ka va vz zv zero) {xm xk xv:Operand} {ym yk yv:IArg} {s' : AS}
  (ho:o.op=.mapUpdate t xm xk xv∨o.op=.insert t xm xk xv) (hcm:compArg nt xm=some ym) (hck:compArg nt xk=some yk) (hcv:compArg nt xv=some yv)
  (he:evMset s ks.length ka va vz ks (ym.addr G s.T) (yk.eval G s.T) (yv.eval G s.T)=some s') (hd:∀ k,o.dst=some k→k<nt) :
  ∃ v' gh' w',Ran P a o w v' w'∧Out G base nt L gh w a s o.dst .undef (s'.spent yv) v' gh' w':=by
 have hm:=arg_val hW hF hcm
 unfold evMset at he
 generalize hY:ym.addr G s.T=Y at hm he
 cases Y<;>simp only at he<;>try (cases he;done)
 rename_i l
 obtain⟨hlt,hax⟩:=VR.inv_mref (hm:VR gh s.H.length w (a.eval xm) (.mref l))
 split at he
 ·rename_i kz' ka' va' es hH
  simp only[Option.bind_eq_some_iff] at he
  obtain⟨kc,hkc,vc,hvc,he1⟩:=he
  obtain⟨h0,he2⟩:=cond_some he1
  clear he1
  simp only[Bool.and_eq_true,nbeq,decide_eq_true_eq,beq_iff_eq] at h0
  obtain⟨⟨⟨⟨⟨⟨⟨⟨hl,hvl⟩,rfl⟩,rfl⟩,rfl⟩,hka⟩,hva⟩,hvall⟩,hkall⟩:=h0
  simp only[Option.map_eq_some_iff] at he2
  obtain⟨oi,hf,rfl⟩:=he2
  have hfrk:frameCell (yk.eval G s.T)=true:=by rw[← frameCell_drop];exact frameCell_of_cells hkc
  have hfrv:frameCell (yv.eval G s.T)=true:=frameCell_of_cells hvc
  have hk0:=arg_VR hW hF hck rfl hfrk
  obtain⟨gh1,hW1,hF1,hE1,st1,hCR⟩:=arg_spent hW hF hcv hfrv (.hs l (oi.getD es.length)) (by simp)
  have hρ:gh1.ρ l=gh.ρ l:=st1.ρ l hlt
  have hk:=hk0.mono st1 (Nat.le_refl _)
  obtain⟨⟨hκ,hS,E,ck,f,hb,hE,h1,h2⟩,hall⟩:=hW1.more l _ hH
  obtain⟨E2,ck2,hb2,hR⟩:=rows_of_At (hW1.more l _ hH).1
  have hEE:E2=E∧ck2=ck:=by
   rw[hb] at hb2
   injection hb2 with hb2
   injection hb2 with e1 e2
   exact⟨e1.symm,e2.symm⟩
  obtain⟨rfl,rfl⟩:=hEE
  obtain⟨hkv,hkcells⟩:=value_mkV hk hkc
  have hval:∃ fv:Nat→Value,a.eval xv=mkV va vc.length fv∧∀ (j:Nat) (x:AV),(cond va (vc.map AV.drop) vc)[j]?=some x→(fv j).oneCell'=true∧(va=true→VR gh1 s.H.length w (fv j) x)∧CR gh1 s.H.length w (.hs l (oi.getD es.length)) (fv j) x:=by
   cases hva' : va with
   | true =>
    have hag:(yv.eval G s.T).isAgg=true:=by rw[← hva,hva']
    have hvr:VR gh1 s.H.length w (a.eval xv) (yv.eval G s.T):=by
     rcases hCR with h|⟨e,h,_⟩
     ·exact h
     ·rw[h] at hag;cases hag
    obtain⟨hv1,hv2⟩:=value_mkV hvr hvc
    rw[hag] at hv1
    refine⟨_,hv1,fun j x hj=>?_⟩
    simp only[cond_true,List.getElem?_map,Option.map_eq_some_iff] at hj
    obtain⟨y,hy,rfl⟩:=hj
    obtain⟨m1,m2⟩:=hv2 j y hy
    exact⟨m2,fun _=>m1.dropped,.inl m1.dropped⟩
   | false =>
    have hag:(yv.eval G s.T).isAgg=false:=by rw[← hva,hva']
    have hvc1:vc=[yv.eval G s.T]:=by
     generalize yv.eval G s.T=V at hvc hag
     cases V<;>first|(cases hag;done)|(injection hvc with hvc;exact hvc.symm)|(cases hvc;done)
    refine⟨fun _=>a.eval xv,by simp[mkV],fun j x hj=>?_⟩
    rw[hvc1] at hj
    cases j with
    | succ j=>simp at hj
    | zero =>
     simp at hj
     subst hj
     refine⟨?_,(fun h=>by cases h),hCR⟩
     rcases hCR with h|⟨e,_,hp,_⟩
     ·exact h.oneCell (fun cs e=>by rw[e] at hag;cases hag) (fun cs e=>by rw[e] at hvc;cases hvc)
     ·exact hp.oneCell
  obtain⟨fv,hvv,hvcells⟩:=hval
  have hlen' : (cond va (vc.map AV.drop) vc).length=vc.length:=by cases va<;>simp
  have hvz1:va=false→(cond va (vc.map AV.drop) vc).length=1:=fun h=>by rw[hlen',hvl];exact hT.vz1 h
  have hrun:=run_mset (vv:=a.eval xv) hT hk hkc hl hka hb hR hf
  have hkv' : a.eval xk=mkV ka ks.length (fun j=>(a.eval xk).cells.getD j undef):=by rw[hka,← hl];exact hkv
  have hMA:=set_At (n:=s.H.length) (l:=l) (fk:=fun j=>(a.eval xk).cells.getD j undef) (fv:=fv) (vc:=cond va (vc.map AV.drop) vc) (o:=oi) hW1 hκ hS hb hE h1 h2 hl (fun h=>hT.key.kz h) hvz1
   (fun j x hj=>(hkcells j x hj).1.plain_PR (List.all_eq_true.1 hkall x (List.mem_of_getElem? hj))) (fun i hi=>by subst hi;exact find_lt hf) hvcells
  rw[hlen',← hkv',← hvv] at hMA
  have st2:=map_step (E':=(setE E2 ck2 oi (a.eval xk) (a.eval xv)).1) (ck':=(setE E2 ck2 oi (a.eval xk) (a.eval xv)).2) hW1 hb hS s.H.length
  rw[hκ] at st2
  have hall' : ((setR es oi (kc++cond va (vc.map AV.drop) vc)).all fun r=>r.all (heapCell l))=true:=by
   have hnew:(kc++cond va (vc.map AV.drop) vc).all (heapCell l)=true:=by
    rw[List.all_append,Bool.and_eq_true]
    refine⟨List.all_eq_true.2 fun x hx=>heapCell_plain (List.all_eq_true.1 hkall x hx),?_⟩
    cases va with
    | false=>exact hvall
    | true =>
     refine List.all_eq_true.2 fun x hx=>?_
     obtain⟨y,hy,rfl⟩:=List.mem_map.1 hx
     exact heapCell_drop (List.all_eq_true.1 hvall y hy)
   refine List.all_eq_true.2 fun r hr=>?_
   cases oi with
   | none =>
    simp only[setR,List.mem_append,List.mem_singleton] at hr
    rcases hr with hr|rfl
    ·exact List.all_eq_true.1 hall r hr
    ·exact hnew
   | some i =>
    simp only[setR] at hr
    rcases List.mem_or_eq_of_mem_set hr with hr|rfl
    ·exact List.all_eq_true.1 hall r hr
    ·exact hnew
  have hsz:(mapW w (gh1.ρ l) (setE E2 ck2 oi (a.eval xk) (a.eval xv)).1 (setE E2 ck2 oi (a.eval xk) (a.eval xv)).2).heap.size=w.heap.size:=by simp[mapW]
  have hW2:=hW1.setMore (o:=.map ks.length ka va (setR es oi (kc++cond va (vc.map AV.drop) vc))) st2 hlt (by intro k hk;simp[hk]) (fun b o ho=>by rw[hsz];exact hW1.sLt b o ho) (fun b hb=>by rw[hsz];exact hW1.kLt b hb) (fun _ _ h=>by cases h) ⟨hMA,hall'⟩ (fun _ _ _ h=>.inl h)
  have hS:=spent_H s yv
  have hE2:Ext s.H.length gh1 w gh1 (mapW w (gh1.ρ l) (setE E2 ck2 oi (a.eval xk) (a.eval xv)).1 (setE E2 ck2 oi (a.eval xk) (a.eval xv)).2):=⟨st2.mono (fun r h=>by rw[h];simp[touchAny]),fun b hb=>hb⟩
  have hF2:FR L nt gh1 _ a ((s.spent yv).chg ⟨s.H.set l (.map ks.length ka va (setR es oi (kc++cond va (vc.map AV.drop) vc))),l⟩):=hF1.grown (by rw[hS.1];exact st2) (fun i=>⟨by simp,by simp,by simp⟩) (by rw[hS.1];simp)
  refine⟨undef,gh1,mapW w (gh1.ρ l) (setE E2 ck2 oi (a.eval xk) (a.eval xv)).1 (setE E2 ck2 oi (a.eval xk) (a.eval xv)).2,.inr ⟨?_,rfl⟩,?_⟩
  rotate_left
  ·rw[spent_chg]
   exact Out.skip (s1:=(s.spent yv).chg ⟨s.H.set l (.map ks.length ka va (setR es oi (kc++cond va (vc.map AV.drop) vc))),l⟩) hW2 hF2 (hE1.trans hE2 (Nat.le_refl _)) hd
  ·rcases ho with ho|ho<;>simp[execOp,ho,hax,← hρ,hrun]
 ·cases he
end
end Go.Abs
end
section
namespace Go.Abs
set_option linter.unusedSimpArgs false
set_option linter.unusedVariables false
section
variable {P:Program} {G:Nat→List AV} {base nt:Nat} {L:List Nat} {gh:Gh} {w w' : World} {a:Act} {s:AS} {H:AHeap}
theorem entry_move {l b kz i:Nat} {ka:Bool} {es:List (List AV)} {n:Nat} (hW:WRel G base H gh w) (hM:MapAt gh n w b (.hb l) (fun i=>.hs l i) kz ka false es) {r:List AV} {v:AV} (hi:es[i]?=some r) (hv:r[kz]?=some v) (p:Owner) (hp:p≠.outer) (m:Nat) :
  ∃ gh' u E ck,(∀ b o,gh'.S b o→gh.S b o)∧Step (fun o=>o=.hs l i) m gh w gh' w∧Ext m gh w gh' w∧(∀ b o,gh'.S b o→b<w.heap.size)∧(∀ b,gh'.κ b≠.none→base≤b∧b<w.heap.size) ∧
   MapAt gh' n w b (.hb l) (fun i=>.hs l i) kz ka false (es.set i (takenAt kz r))∧w.heap[b]?=some (.map E ck)∧(E[i]?).map (·.val)=some u∧u.oneCell'=true∧CR gh' n w p u v:=by
 have hfresh:=fun b hb=>hW.not_outer (gh:=gh) b hb
 obtain⟨hκ,hS,E,ck,f,hb,hE,h1,h2⟩:=hM
 have hilt:i<es.length:=(List.getElem?_eq_some_iff.1 hi).1
 have hiE:i<E.size:=by rw[hE.size];exact hilt
 have hEi:E[i]?=some E[i]:=Array.getElem?_eq_getElem hiE
 obtain⟨r1,r2,r3,r4,r5⟩:=hE.row i _ r hEi hi
 have hrl:=r3 rfl
 have hval:E[i].val=f i kz:=by rw[r5];simp[mkV]
 obtain⟨c1,_,c2⟩:=h2 i kz r v hi hv (Nat.le_refl _)
 have hrow:∀ {k:Nat} {q:List AV},(es.set i (takenAt kz r))[k]?=some q→(k=i∧q=takenAt kz r)∨(k≠i∧es[k]?=some q):=by
  intro k q hq
  rw[List.getElem?_set] at hq
  split at hq
  ·rename_i e
   subst e
   injection hq with hq;exact .inl ⟨rfl,hq.symm⟩
  ·rename_i e;exact .inr ⟨Ne.symm e,hq⟩
 have hlen:(takenAt kz r).length=r.length:=by simp[takenAt]
 have hE' : EntOK E ck kz ka false (es.set i (takenAt kz r)) f:=by
  refine⟨by simp[hE.size],hE.clk,hE.at',hE.born,hE.apart,fun k e q he hq=>?_⟩
  rcases hrow hq with ⟨rfl,rfl⟩|⟨_,hq⟩
  ·have:=hE.row k e r he hi
   rw[hlen];exact this
  ·exact hE.row k e q he hq
 have cell:∀ {k j:Nat} {q:List AV} {x:AV},(es.set i (takenAt kz r))[k]?=some q→q[j]?=some x→∃ q0 x0,es[k]?=some q0∧q0[j]?=some x0∧((k=i∧j=kz∧x=x0.drop)∨(¬ (k=i∧j=kz)∧x=x0)):=by
  intro k j q x hq hx
  rcases hrow hq with ⟨rfl,rfl⟩|⟨hne,hq⟩
  ·rw[modify_get] at hx
   split at hx
   ·rename_i e
    simp only[Option.map_eq_some_iff] at hx
    obtain⟨x0,hx0,rfl⟩:=hx
    exact⟨r,x0,hi,hx0,.inl ⟨rfl,e,rfl⟩⟩
   ·rename_i e;exact⟨r,x,hi,hx,.inr ⟨fun h=>e h.2,rfl⟩⟩
  ·exact⟨q,x,hq,hx,.inr ⟨fun h=>hne h.1,rfl⟩⟩
 have keys:∀ {gh' : Gh},(∀ b o,gh.S b o→gh'.S b o)→∀ (k j:Nat) (q:List AV) (x:AV),(es.set i (takenAt kz r))[k]?=some q→q[j]?=some x→j<kz→PR gh'.S w (f k j) x:=by
  intro gh' hSS k j q x hq hx hj
  obtain⟨q0,x0,k1,k2,⟨_,e,_⟩|⟨_,rfl⟩⟩:=cell hq hx
  ·omega
  ·exact (h1 k j q0 x k1 k2 hj).mono hSS (fun _ _ _=>rfl) (fun _ _ _ _ h=>h)
 rcases c2 with hvr|⟨e,rfl,hPR,b',cap,C',ty',lo,hi',sz,hvl,hk,he,hb',hC',hr',hl,hh,hS'⟩
 ·refine⟨gh,E[i].val,E,ck,fun _ _ h=>h,Step.refl _ _ _ _ hfresh,Ext.refl _ _ _ hfresh,hW.sLt,hW.kLt,⟨hκ,hS,E,ck,f,hb,hE',keys (fun _ _ h=>h),fun k j q x hq hx hj=>?_⟩,hb,by rw[hEi];rfl,by rw[hval];exact c1,by rw[hval];exact .inl hvr⟩
  obtain⟨q0,x0,k1,k2,⟨rfl,rfl,rfl⟩|⟨_,rfl⟩⟩:=cell hq hx
  ·obtain⟨m1,_,m3⟩:=h2 k j q0 x0 k1 k2 hj
   exact⟨m1,(fun h=>by cases h),.inl m3.dropped⟩
  ·exact h2 k j q0 x k1 k2 hj
 ·have hlt:b' < w.heap.size:=(Array.getElem?_eq_some_iff.1 hb').1
  have st:=give_step hW hlt p m
  rw[hk] at st
  have stn:=give_step hW hlt p n
  rw[hk] at stn
  have hne:b≠b':=by rintro rfl;rw[hκ] at hk;cases hk
  have hn:gh.κ b'≠.none:=by rw[hk];simp
  refine⟨gh.give b' p,E[i].val,E,ck,fun _ _ h=>h,st,give_ext hW hlt hp hn (by rw[hk];simp) m,hW.sLt,?_,⟨by simp[Gh.give,hne,hκ],hS,E,ck,f,hb,hE',keys (fun _ _ h=>h),fun k j q x hq hx hj=>?_⟩,hb,by rw[hEi];rfl,by rw[hval];exact c1,
   by rw[hval];exact .inr ⟨e,rfl,hPR,b',cap,C',ty',lo,hi',sz,hvl,by simp[Gh.give],he,hb',hC',hr',hl,hh,hS'⟩⟩
  ·intro b1 hb1
   have hb2:(if b1=b' then p else gh.κ b1)≠.none:=hb1
   split at hb2
   ·rename_i e;rw[e];exact hW.kLt b' hn
   ·exact hW.kLt b1 hb2
  ·obtain⟨q0,x0,k1,k2,⟨rfl,rfl,rfl⟩|⟨hnot,rfl⟩⟩:=cell hq hx
   ·obtain⟨m1,_,m3⟩:=h2 k j q0 x0 k1 k2 hj
    exact⟨m1,(fun h=>by cases h),.inl ((m3.dropped).mono stn (Nat.le_refl _))⟩
   ·obtain⟨m1,m2,m3⟩:=h2 k j q0 x k1 k2 hj
    refine⟨m1,(fun h=>by cases h),m3.mono stn (Nat.le_refl _) (fun e=>?_)⟩
    injection e with _ e
    subst e
    have hq0:q0=r:=by rw[hi] at k1;injection k1 with k1;exact k1.symm
    subst hq0
    have:=(List.getElem?_eq_some_iff.1 k2).1
    exact hnot ⟨rfl,by omega⟩
theorem run_call_len {o:Oper} {c:Call} {x:Operand} {t:TypeId} (ho:o.op=.call c) (hcal:c.callee=.builtin .len) (hargs:c.args.toList=[x]) (htys:c.argTypes.toList=[t]) {v:Value}
  (hrun:(Builtin.len_ #[t] o.type #[a.eval x]).run P w=.ok v w'):(execOp a.eval o).run P w=.ok (.value v) w':=by
 have e1:c.args=#[x]:=by apply Array.ext';simpa using hargs
 have e2:c.argTypes=#[t]:=by apply Array.ext';simpa using htys
 unfold execOp
 simp only[ho,resolve,hcal,e1,e2,invoke,builtin,Sem.run_bind,Sem.run_pure,Result.andThen_ok,List.map_toArray,List.map_cons,List.map_nil,hrun]
theorem run_len_map {t kt et:TypeId} {o:Oper} {c:Call} {x:Operand} (ho:o.op=.call c) (hcal:c.callee=.builtin .len) (hargs:c.args.toList=[x]) (htys:c.argTypes.toList=[t]) (ht:P.underlying t=some (.map kt et)) {v:Value} {n:Nat}
  (h:(v=.map none∧n=0)∨∃ b E ck,v=.map (some b)∧w.heap[b]?=some (.map E ck)∧E.size=n) (hax:a.eval x=v):(execOp a.eval o).run P w=.ok (.value (.int .i64 n)) w:=by
 refine run_call_len ho hcal hargs htys ?_
 rw[hax]
 rcases h with ⟨rfl,rfl⟩|⟨b,E,ck,rfl,hb,rfl⟩
 ·simp[Builtin.len_,run_underlying ht,goInt]
 ·simp[Builtin.len_,run_underlying ht,goInt,getObj,Sem.run,hb]
theorem map_arg (hW:WRel G base s.H gh w) (hF:FR L nt gh w a s) {x:Operand} {y:IArg} (hc:compArg nt x=some y):(y.addr G s.T=.nilmap→a.eval x=.map none) ∧
  (∀ kz ka va es,y.addr G s.T=.fmap kz ka va es→PR gh.S w (a.eval x) (.fmap kz ka va es))∧∀ l,y.addr G s.T=.mref l→l<s.H.length∧a.eval x=.map (some (gh.ρ l)):=by
 have hm:=arg_val hW hF hc
 refine⟨fun h=>?_,fun kz ka va es h=>?_,fun l h=>?_⟩
 ·rw[h] at hm
  generalize a.eval x=V at hm
  cases (hm:VR gh s.H.length w V .nilmap) with
  | plain _ _ h=>cases h;rfl
 ·rw[h] at hm
  generalize a.eval x=V at hm
  cases (hm:VR gh s.H.length w V (.fmap _ _ _ _)) with
  | plain _ _ h=>exact h
 ·rw[h] at hm
  exact VR.inv_mref hm
theorem ev_mlen (hW:WRel G base s.H gh w) (hF:FR L nt gh w a s) {o:Oper} {c:Call} {x:Operand} {t kt et:TypeId} {y:IArg} {z:AV} {s' : Option AS} {cf:CallF}
  (ho:o.op=.call c) (hcal:c.callee=.builtin .len) (hargs:c.args.toList=[x]) (htys:c.argTypes.toList=[t]) (hc:compArg nt x=some y) (ht:P.underlying t=some (.map kt et))
  (he:evOp G cf s (.mlen y)=some (z,s')):s'=none∧∃ v,(execOp a.eval o).run P w=.ok (.value v) w∧Val gh s.H.length nt w s.T s.gen (tmv a) v z:=by
 obtain⟨m1,m2,m3⟩:=map_arg hW hF hc
 simp only[evOp] at he
 have fin:∀ {v:Value} {n:Nat},((v=.map none∧n=0)∨∃ b E ck,v=.map (some b)∧w.heap[b]?=some (.map E ck)∧E.size=n)→a.eval x=v→∃ u,(execOp a.eval o).run P w=.ok (.value u) w∧Val gh s.H.length nt w s.T s.gen (tmv a) u (.int .i64 n) :=
  fun h hax=>⟨_,run_len_map ho hcal hargs htys ht h hax,.of_VR (.plain _ _ (.int _ _))⟩
 split at he
 ·rename_i hY
  simp only[Option.some.injEq,Prod.mk.injEq] at he
  obtain⟨rfl,rfl⟩:=he
  exact⟨rfl,fin (n:=0) (.inl ⟨rfl,rfl⟩) (m1 hY)⟩
 ·rename_i hY
  simp only[Option.some.injEq,Prod.mk.injEq] at he
  obtain⟨rfl,rfl⟩:=he
  obtain⟨b,E,ck,hv,hb,hR⟩:=rows_of_PR (b:=0) (n:=0) (m2 _ _ _ _ hY)
  exact⟨rfl,fin (.inr ⟨b,E,ck,rfl,hb,hR.size⟩) hv⟩
 ·rename_i l hY
  obtain⟨hlt,hax⟩:=m3 l hY
  split at he
  ·rename_i hH
   simp only[Option.some.injEq,Prod.mk.injEq] at he
   obtain⟨rfl,rfl⟩:=he
   obtain⟨E,ck,hb,hR⟩:=rows_of_At (hW.more _ _ hH).1
   exact⟨rfl,fin (.inr ⟨_,E,ck,rfl,hb,hR.size⟩) hax⟩
  ·rename_i hH
   simp only[Option.some.injEq,Prod.mk.injEq] at he
   obtain⟨rfl,rfl⟩:=he
   obtain⟨b,E,ck,hv,hb,hR⟩:=rows_of_PR (b:=0) (n:=0) (hW.more _ _ hH:PR gh.S w _ _)
   exact⟨rfl,fin (.inr ⟨b,E,ck,rfl,hb,hR.size⟩) (hax.trans hv)⟩
  ·cases he
 ·cases he
theorem ev_lookT (hW:WRel G base s.H gh w) (hF:FR L nt gh w a s) {o:Oper} {t kt et:TypeId} {ks:List CK} {ka:Bool} {vz:Nat} {zv:Value} {zero:List AV} (hT:MapT P t kt et ks ka false vz zv zero) {x i:Operand} {y yi:IArg} {z:AV} {s' : Option AS}
  (ho:o.op=.lookup t x i false) (hc:compArg nt x=some y) (hi:compArg nt i=some yi) (he:evLookT s ks.length ka ks zero (y.addr G s.T) (yi.eval G s.T)=some (z,s')) (hd:∀ k,o.dst=some k→k<nt) :
  ∃ v' gh' w',Ran P a o w v' w'∧Out G base nt L gh w a s o.dst z (s'.getD s) v' gh' w':=by
 obtain⟨_,_,m3⟩:=map_arg hW hF hc
 unfold evLookT at he
 split at he
 ·rename_i l hY
  obtain⟨hlt,hax⟩:=m3 l hY
  split at he
  ·rename_i kz' ka' es hH
   simp only[Option.bind_eq_some_iff] at he
   obtain⟨kc,hkc,he1⟩:=he
   obtain⟨h0,he2⟩:=cond_some he1
   clear he1
   simp only[Bool.and_eq_true,nbeq,decide_eq_true_eq,beq_iff_eq] at h0
   obtain⟨⟨⟨hl,rfl⟩,rfl⟩,hka⟩:=h0
   simp only[Option.bind_eq_some_iff] at he2
   obtain⟨oi,hf,he3⟩:=he2
   have hfr:frameCell (yi.eval G s.T)=true:=by rw[← frameCell_drop];exact frameCell_of_cells hkc
   have hk:=arg_VR hW hF hi rfl hfr
   have hMA:=(hW.more l _ hH).1
   have hall:=(hW.more l _ hH).2
   obtain⟨E,ck,hb,hR⟩:=rows_of_At hMA
   have hch:=run_check hT.key hk hkc hl hka E.isEmpty
   have hfi:=run_find hT.key hk hkc hl hka (l:=E.toList) (by simpa using hR.size) (fun i e r h1 h2=>hR.key i e r (by simpa using h1) h2) hf
   cases oi with
   | none =>
    simp only[Option.some.injEq,Prod.mk.injEq] at he3
    obtain⟨rfl,rfl⟩:=he3
    obtain⟨i0,hi0,hz0⟩:=hT.hz
    have hzr:(zeroValue et).run P w=.ok zv w:=by simp[zeroValue,typeInfo,hi0,hz0]
    have hag:=hT.agg
    have h1:zero.length=1:=by rw[hT.len];exact hT.vz1 rfl
    obtain⟨x0,hx0⟩:=List.length_eq_one_iff.1 h1
    obtain⟨_,hv⟩:=constCells_VR (gh:=gh) (n:=s.H.length) (w:=w) hT.cells
    have hzc:zv.cells=#[zv]:=by cases zv<;>first|rfl|(simp[aggV] at hag)
    have hvr:VR gh s.H.length w zv (zero.headD .undef):=by
     rw[hx0] at hv ⊢
     exact (hv 0 zv x0 (by rw[hzc];rfl) rfl).1
    refine⟨zv,gh,w,.inl ?_,Out.pure hW hF hd (.of_VR hvr)⟩
    simp[execOp,ho,hax,Instr.lookup,run_underlying hT.ht,getObj,Sem.run,hb]
    simp[hch,hfi,hzr]
   | some j =>
    simp only[Option.map_eq_some_iff,Prod.mk.injEq] at he3
    obtain⟨v,hv,rfl,rfl⟩:=he3
    have hjlt:=find_lt hf
    have hej:es[j]?=some es[j]:=List.getElem?_eq_getElem hjlt
    have hgd:es.getD j []=es[j]:=by simp[List.getD,hej]
    rw[hgd] at hv ⊢
    obtain⟨gh',u,E',ck',hSS,st,hE,hs',hk',hM',hb',hu,hone,hCR⟩:=entry_move hW hMA hej hv (slo o.dst) (slo_out _) s.H.length
    have hEE:E'=E:=by
     rw[hb] at hb';injection hb' with hb';injection hb' with e1 _;exact e1.symm
    subst hEE
    have hρ:gh'.ρ l=gh.ρ l:=st.ρ l hlt
    have hall' : ((es.set j (takenAt ks.length es[j])).all fun r=>r.all (heapCell l))=true:=by
     refine List.all_eq_true.2 fun r hr=>?_
     rcases List.mem_or_eq_of_mem_set hr with hr|rfl
     ·exact List.all_eq_true.1 hall r hr
     ·exact takenAt_refs (List.all_eq_true.1 hall _ (List.getElem_mem hjlt))
    have hW' : WRel G base (s.H.set l (.map ks.length ka false (es.set j (takenAt ks.length es[j])))) gh' w :=
     hW.setMore st hlt (by intro k hk;exact⟨by simp,fun j' e=>by injection e with e _;exact hk e⟩) hs' hk' (fun _ _ h=>by cases h) (by rw[hρ];exact⟨hM',hall'⟩) (fun b o _ h=>.inl (hSS b o h))
    have hF' : FR L nt gh' w a (s.chg ⟨s.H.set l (.map ks.length ka false (es.set j (takenAt ks.length es[j]))),l⟩):=hF.grown st (fun i=>⟨by simp,by simp,by simp⟩) (by simp)
    have hjE:E'[j]?=some (E'[j]'(by rw[hR.size];exact hjlt)):=Array.getElem?_eq_getElem _
    have hed:(E'.toList.getD j default).val=u:=by
     have h1:E'.toList[j]?=some (E'[j]'(by rw[hR.size];exact hjlt)):=by rw[Array.getElem?_toList];exact hjE
     rw[hjE] at hu
     injection hu with hu
     simp only[List.getD,h1,Option.getD_some]
     exact hu
    refine⟨u,gh',w,.inl ?_,Out.of (s1:=s.chg ⟨s.H.set l (.map ks.length ka false (es.set j (takenAt ks.length es[j]))),l⟩) (gen':=s.gen) hW' hF' hE (Nat.le_refl _) hd (.inl (genOf_frameCell hCR.frameCell)) (fun k hk=>?_)⟩
    ·simp only[Option.map_some,hed] at hfi
     simp[execOp,ho,hax,Instr.lookup,run_underlying hT.ht,getObj,Sem.run,hb]
     simp[hch,hfi]
    ·rw[hk] at hCR
     have:(s.chg ⟨s.H.set l (.map ks.length ka false (es.set j (takenAt ks.length es[j]))),l⟩).H.length=s.H.length:=by simp[AS.chg]
     rw[this]
     exact sr_of_slot hCR.frameCell hCR
  ·cases he
 ·cases he
end
end Go.Abs
end
section
namespace Go.Abs
open Go.ChangeMaps (setBlock)
set_option linter.unusedSimpArgs false
set_option linter.unusedVariables false
section
variable {P:Program} {G:Nat→List AV} {base nt:Nat} {L:List Nat} {gh:Gh} {w w' : World} {a:Act} {s:AS} {H:AHeap}
theorem perm_out {α:Type} {key:α→Nat} : ∀ (l:List α) (x:α),x∈l→(∀ (i j:Nat) (a b:α),l[i]?=some a→l[j]?=some b→key a=key b→i=j)→l.Perm (x :: l.filter fun y=>decide (key y≠key x))
 | [],x,h,_=>by cases h
 | y :: l,x,h,hd=>by
  have hd' : ∀ (i j:Nat) (a b:α),l[i]?=some a→l[j]?=some b→key a=key b→i=j:=fun i j a b h1 h2 h3=>by
   have:=hd (i+1) (j+1) a b (by simpa using h1) (by simpa using h2) h3
   omega
  by_cases hxy:key y=key x
  ·have hall:l.filter (fun z=>decide (key z≠key x))=l:=by
    refine List.filter_eq_self.2 fun z hz=>?_
    obtain⟨j,hj⟩:=List.getElem?_of_mem hz
    simp only[decide_eq_true_eq]
    intro e
    have:=hd 0 (j+1) y z rfl (by simpa using hj) (hxy.trans e.symm)
    omega
   have hxe:x=y:=by
    rcases List.mem_cons.1 h with h|h
    ·exact h
    ·obtain⟨j,hj⟩:=List.getElem?_of_mem h
     have:=hd 0 (j+1) y x rfl (by simpa using hj) hxy
     omega
   subst hxe
   rw[List.filter_cons,if_neg (by simp),hall]
  ·have hxl:x∈l:=by
    rcases List.mem_cons.1 h with h|h
    ·subst h;exact absurd rfl hxy
    ·exact h
   have ih:=perm_out l x hxl hd'
   rw[List.filter_cons,if_pos (by simpa using hxy)]
   exact (List.Perm.cons y ih).trans (List.Perm.swap x y _)
theorem map_kept_step (hW:WRel G base H gh w) {b:Nat} {o:Obj} {w1:World} (hw1:w1=w∨w1=w.drew) (hlt:b<w.heap.size) (hS:∀ o,¬ gh.S b o) (hnc:∀ C ty fr,w.heap[b]?≠some (.cells C ty fr)) (n:Nat):Step (fun r=>r=gh.κ b) n gh w gh (setBlock w1 b o):=by
 have hheap:(setBlock w1 b o).heap=w.heap.setIfInBounds b o:=by rcases hw1 with rfl|rfl<;>rfl
 have hother:∀ b',b'≠b→(setBlock w1 b o).heap[b']?=w.heap[b']?:=fun b' h=>by rw[hheap];simp[Ne.symm h]
 have hne:∀ b' o,gh.S b' o→b'≠b:=fun b' o h=>by rintro rfl;exact hS o h
 refine⟨fun _ _ h=>h,fun b' o h=>cell_of_heap (hother b' (hne b' o h)),by rw[hheap];simp,?_,?_,?_,fun b' hb' hn=>?_,fun b' hb'=>?_,fun _ _=>rfl,fun b' ty m hm=>?_,fun b' E1 c1 hs hm=>?_⟩
 ·rcases hw1 with rfl|rfl<;>rfl
 ·rcases hw1 with rfl|rfl<;>rfl
 ·rcases hw1 with rfl|rfl<;>rfl
 ·have hne' : b'≠b:=by rintro rfl;exact hn rfl
  exact⟨.inl (hother b' hne'),rfl,fun _ h=>h⟩
 ·have:w.heap.size≤b':=by first|exact hb'|(rw[hheap] at hb';simpa using hb')
  exact hW.not_outer b' this
 ·obtain⟨C,fr,h1,h2⟩:=hm
  have hne' : b'≠b:=by rintro rfl;exact hnc C ty fr h1
  exact⟨C,fr,by rw[hother b' hne'];exact h1,h2⟩
 ·rw[hother b' (hne b' 0 hs)];exact hm
theorem drop_of_plain {x:AV} (h:x.plain=true):x.drop=x:=by
 cases x<;>try rfl
 rename_i e own
 cases own
 ·rfl
 ·simp[AV.plain] at h
def Gh.frzMap (gh:Gh) (b:Nat):Gh:={ gh with S:=fun b' o=>gh.S b' o∨(b'=b∧o=0) }
theorem map_freeze (hW:WRel G base s.H gh w) (hF:FR L nt gh w a s) {l kz:Nat} {ka va:Bool} {es:List (List AV)} (hH:s.H[l]?=some (.map kz ka va es)) (hpl:(es.all fun r=>r.all AV.plain)=true) :
  ∃ gh1,WRel G base (s.H.set l (.fmap kz ka va es)) gh1 w∧FR L nt gh1 w a (s.chg ⟨s.H.set l (.fmap kz ka va es),l⟩)∧Ext s.H.length gh w gh1 w∧gh1.ρ l=gh.ρ l∧PR gh1.S w (.map (some (gh.ρ l))) (.fmap kz ka va es):=by
 have hlt:l<s.H.length:=(List.getElem?_eq_some_iff.1 hH).1
 obtain⟨⟨hκ,hS,E,ck,f,hb,hE,h1,h2⟩,_⟩:=hW.more l _ hH
 have hbl:gh.ρ l<w.heap.size:=(Array.getElem?_eq_some_iff.1 hb).1
 have st:∀ n,Step (fun r=>r=.hb l) n gh w (gh.frzMap (gh.ρ l)) w:=fun n=>by
  refine⟨fun b o h=>.inl h,fun _ _ _=>rfl,Nat.le_refl _,rfl,rfl,rfl,fun b hb hn=>⟨.inl rfl,rfl,fun o ho=>?_⟩,fun b hb=>hW.not_outer b hb,fun _ _=>rfl,fun _ _ _ h=>h,fun _ _ _ _ h=>h⟩
  rcases ho with ho|⟨rfl,_⟩
  ·exact ho
  ·exact absurd hκ hn
 have hP:PR (gh.frzMap (gh.ρ l)).S w (.map (some (gh.ρ l))) (.fmap kz ka va es):=by
  refine .fmap (gh.ρ l) kz ka va es E ck f (.inr ⟨rfl,rfl⟩) hb hE (fun i j r x hi hj=>?_)
  have hx:=List.all_eq_true.1 (List.all_eq_true.1 hpl r (List.mem_of_getElem? hi)) x (List.mem_of_getElem? hj)
  have hp:PR gh.S w (f i j) x:=by
   by_cases hlt:j<kz
   ·exact h1 i j r x hi hj hlt
   ·have:=((h2 i j r x hi hj (by omega)).2.2).dropped
    rw[drop_of_plain hx] at this
    exact this.plain_PR hx
  exact hp.mono (st 0).S (st 0).cell (st 0).mp
 refine⟨gh.frzMap (gh.ρ l),?_,?_,⟨(st _).mono (fun r h=>by rw[h];exact⟨by simp,by simp⟩),fun b hb=>hb⟩,rfl,hP⟩
 ·refine hW.setMore (st _) hlt (by intro k hk;simp[hk]) (fun b o ho=>?_) hW.kLt (fun _ _ h=>by cases h) hP (fun b o m ho=>?_)
  ·rcases ho with ho|⟨rfl,_⟩
   ·exact hW.sLt b o ho
   ·exact hbl
  ·rcases ho with ho|⟨rfl,rfl⟩
   ·exact .inl ho
   ·exact .inr (fun hc=>by simp[World.cell?,hb] at hc)
 ·exact hF.grown (st _) (fun i=>⟨by simp,by simp,by simp⟩) (by simp)
theorem rng_push (hW:WRel G base s.H gh w) (hF:FR L nt gh w a s) {o:Oper} {kz:Nat} {ka va:Bool} (hd:∀ k,o.dst=some k→k<nt∧k∈L) :
  ∀ (m:Option Nat) (since:Nat) (es:List (List AV)),(execOp a.eval o).run P w=.ok (.value (.pointer (some ⟨w.heap.size,0,none⟩))) (w.alloc (.mapIter m since #[] since)) →
   ((m=none∧es=[])∨∃ m0 E ck f,m=some m0∧gh.S m0 0∧w.heap[m0]?=some (.map E ck)∧EntOK E ck kz ka va es f∧since=ck∧(∀ (i j:Nat) (r:List AV) (x:AV),es[i]?=some r→r[j]?=some x→PR gh.S w (f i j) x)) →
   ∃ v' gh' w',Ran P a o w v' w'∧Out G base nt L gh w a s o.dst (.iter s.gen kz ka va [] es) { s with gen:=s.gen+1 } v' gh' w':=by
  intro m since es hrun hm
  have hp:=Pushed.alloc w (.mapIter m since #[] since)
  have hne:=bxo_out o.dst
  have st:=alloc_step hW hp hne (fun _=>False) s.H.length
  have hF' : FR L nt (gh.alloc w.heap.size (bxo o.dst) fun _=>False) (w.alloc (.mapIter m since #[] since)) a s:=hF.grown (H':=s.H) (lo':=s.lo) st (fun i=>⟨id,id,fun _=>id⟩) (Nat.le_refl _)
  have hW':=hW.alloc hp hne (fun _=>False) (fun _ _ h=>h.elim)
  refine⟨.pointer (some ⟨w.heap.size,0,none⟩),_,_,.inl hrun,hW',hF'.putG (gen':=s.gen+1) (Nat.le_succ _) (fun b hb=>hW'.not_outer b hb) o.dst (fun k hk=>(hd k hk).1) (.inr ⟨⟨s.gen,Nat.le_refl _,rfl⟩,fun k hk=>(hd k hk).2⟩) ?_,alloc_ext hW hp hne _ _⟩
  intro k hk
  refine⟨Nat.lt_succ_self _,w.heap.size,rfl,?_⟩
  rw[hk] at st ⊢
  refine⟨by simp[Gh.alloc,bxo],?_,m,since,#[],since,hp.new,?_⟩
  ·rintro o (ho|⟨_,ho⟩)
   ·have:=hW.sLt _ o ho;omega
   ·exact ho
  ·rcases hm with ⟨rfl,rfl⟩|⟨m0,E,ck,f,rfl,h1,h2,h3,rfl,h4⟩
   ·exact .inl ⟨rfl,rfl,rfl,rfl⟩
   ·refine .inr ⟨m0,E,es,since,f,rfl,st.S _ _ h1,st.mp _ _ _ h1 h2,h3,rfl,rfl,fun i j r x hi hj=>(h4 i j r x hi hj).mono st.S st.cell st.mp,.inl ⟨rfl,rfl⟩,?_⟩
    have:((E.toList.zip es).filter fun p=>!(#[]:Array Nat).contains p.1.born)=E.toList.zip es:=List.filter_eq_self.2 fun p _=>by simp
    rw[this]
    have hz:(E.toList.zip es).map (·.2)=es:=List.map_snd_zip (by have:=h3.size;simp;omega)
    rw[hz]
theorem ev_rng (hW:WRel G base s.H gh w) (hF:FR L nt gh w a s) {o:Oper} {t kt et:TypeId} {x:Operand} {y:IArg} {kz:Nat} {ka va:Bool} {z:AV} {s' : Option AS} {cf:CallF} (ho:o.op=.range t x) (hc:compArg nt x=some y) (ht:P.underlying t=some (.map kt et))
  (he:evOp G cf s (.rng kz ka va y)=some (z,s')) (hd:∀ k,o.dst=some k→k<nt∧k∈L) :
  ∃ v' gh' w',Ran P a o w v' w'∧Out G base nt L gh w a s o.dst z (s'.getD s) v' gh' w':=by
 obtain⟨m1,m2,m3⟩:=map_arg hW hF hc
 have key:=rng_push (P:=P) hW hF (o:=o) (kz:=kz) (ka:=ka) (va:=va) hd
 simp only[evOp] at he
 split at he
 ·rename_i hY
  simp only[Option.some.injEq,Prod.mk.injEq] at he
  obtain⟨rfl,rfl⟩:=he
  refine key none 0 [] ?_ (.inl ⟨rfl,rfl⟩)
  simp[execOp,ho,m1 hY,Instr.range,run_underlying ht,newObj,Sem.run]
 ·rename_i hY
  obtain⟨h0,he2⟩:=cond_some he
  clear he
  simp only[Bool.and_eq_true,nbeq,decide_eq_true_eq,beq_iff_eq] at h0
  obtain⟨⟨rfl,rfl⟩,rfl⟩:=h0
  simp only[Option.some.injEq,Prod.mk.injEq] at he2
  obtain⟨rfl,rfl⟩:=he2
  have hp:=m2 _ _ _ _ hY
  generalize hA:a.eval x=V at hp
  cases hp with
  | fmap b _ _ _ _ E ck f hS hb hE hrel =>
   refine key (some b) ck _ ?_ (.inr ⟨b,E,ck,f,rfl,hS,hb,hE,rfl,hrel⟩)
   simp[execOp,ho,hA,Instr.range,run_underlying ht,newObj,getObj,Sem.run,hb]
 ·rename_i l hY
  split at he
  ·rename_i kz' ka' va' es hH
   obtain⟨h0,he2⟩:=cond_some he
   clear he
   simp only[Bool.and_eq_true,nbeq,decide_eq_true_eq,beq_iff_eq] at h0
   obtain⟨⟨⟨rfl,rfl⟩,rfl⟩,hpl⟩:=h0
   simp only[Option.some.injEq,Prod.mk.injEq] at he2
   obtain⟨rfl,rfl⟩:=he2
   obtain⟨hlt,hax⟩:=m3 l hY
   obtain⟨gh1,hW1,hF1,hE1,hρ,hP⟩:=map_freeze hW hF hH hpl
   generalize hV:Value.map (some (gh.ρ l))=V at hP
   cases hP with
   | fmap b _ _ _ _ E ck f hS hb hE hrel =>
    injection hV with hV
    injection hV with hV
    subst hV
    obtain⟨v',gh',w',k1,k2⟩:=rng_push (P:=P) (s:=s.chg ⟨s.H.set l (.fmap kz ka va es),l⟩) hW1 hF1 (o:=o) hd (some (gh.ρ l)) ck es (by
     simp[execOp,ho,hax,Instr.range,run_underlying ht,newObj,getObj,Sem.run,hb]) (.inr ⟨_,E,ck,f,rfl,hS,hb,hE,rfl,hrel⟩)
    exact⟨v',gh',w',k1,k2.W,k2.F,hE1.trans k2.E (by simp[AS.chg])⟩
  ·cases he
 ·cases he
theorem find_one:∀ (l:List MapEntry) (e:MapEntry),e∈l→(∀ x∈l,x.born=e.born→x=e)→l.find? (fun x=>x.born==e.born)=some e
 | [],e,h,_=>by cases h
 | x :: l,e,h,hu=>by
  rw[List.find?_cons]
  by_cases hx:x.born=e.born
  ·have:=hu x (by simp) hx
   subst this
   simp
  ·have hb:(x.born==e.born)=false:=by simpa using hx
   rw[hb]
   rcases List.mem_cons.1 h with h|h
   ·subst h;exact absurd rfl hx
   ·exact find_one l e h (fun y hy=>hu y (by simp[hy]))
theorem entV_VR {n:Nat} {va:Bool} {m:Nat} {g:Nat→Value} {cs:List AV} (hm:cs.length=m) (h1:va=false→m=1) (h:∀ (j:Nat) (x:AV),cs[j]?=some x→PR gh.S w (g j) x):VR gh n w (mkV va m g) (entV va cs) :=
 mkV_VR hm h1 (fun j x hj=>⟨VR.dropped (.plain _ _ (h j x hj)),(h j x hj).oneCell⟩)
theorem entry_VR {n ck kz i:Nat} {ka va:Bool} {E:Array MapEntry} {es:List (List AV)} {f:Nat→Nat→Value} (hE:EntOK E ck kz ka va es f) (hrel:∀ (i j:Nat) (r:List AV) (x:AV),es[i]?=some r→r[j]?=some x→PR gh.S w (f i j) x)
  {e:MapEntry} {r:List AV} (he:E[i]?=some e) (hr:es[i]?=some r):VR gh n w e.key (entV ka (r.take kz))∧VR gh n w e.val (entV va (r.drop kz)):=by
 obtain⟨k1,k2,k3,k4,k5⟩:=hE.row i e r he hr
 rw[k4,k5]
 refine⟨entV_VR (by simp;omega) k2 (fun j x hj=>?_),entV_VR (by simp) (fun h=>by rw[k3 h];omega) (fun j x hj=>?_)⟩
 ·rw[List.getElem?_take] at hj
  split at hj
  ·exact hrel i j r x hr hj
  ·cases hj
 ·rw[List.getElem?_drop] at hj
  exact hrel i (kz+j) r x hr hj
theorem sr_iter (hF:FR L nt gh w a s) {t g kz:Nat} {ka va:Bool} {cur:List AV} {todo:List (List AV)} (ht:t<nt) (hT:s.T t=.iter g kz ka va cur todo):g<s.gen∧∃ b,tmv a t=.pointer (some ⟨b,0,none⟩)∧IterAt gh w b (.bx t) kz ka va cur todo:=by
 have h:=hF.slot t ht
 rw[hT] at h
 exact h
theorem ev_ent (hW:WRel G base s.H gh w) (hF:FR L nt gh w a s) {o:Oper} {it:Operand} {y:IArg} {z:AV} {s' : Option AS} {cf:CallF} (ho:o.op=.entry it) (hc:compArg nt it=some y) (he:evOp G cf s (.ent y)=some (z,s')) :
  s'=none∧∃ v,(execOp a.eval o).run P w=.ok (.value v) w∧Val gh s.H.length nt w s.T s.gen (tmv a) v z:=by
 cases y with
 | tmp t =>
  obtain⟨rfl,ht⟩:=compArg_tmp hc
  simp only[evOp] at he
  split at he
  ·rename_i g kz ka va cur todo hT
   obtain⟨h0,he⟩:=cond_some he
   simp only[Bool.and_eq_true,Nat.ble_eq,Bool.not_eq_true',List.isEmpty_eq_false_iff] at h0
   simp only[Option.some.injEq,Prod.mk.injEq] at he
   obtain⟨rfl,rfl⟩:=he
   obtain⟨_,b,hb,_,_,m,since,seen,last,hit,hm⟩:=sr_iter hF ht hT
   refine⟨rfl,?_⟩
   rcases hm with ⟨_,_,_,hcur⟩|⟨m0,E,es,ck,f,rfl,hS,hE0,hE,rfl,rfl,hrel,hcur,_⟩
   ·exact absurd hcur h0.2
   ·rcases hcur with ⟨_,hcur⟩|⟨st,i,e,hback,hEi,hbe,hesi⟩
    ·exact absurd hcur h0.2
    ·obtain⟨v1,v2⟩:=entry_VR (n:=s.H.length) hE hrel hEi hesi
     have hmem:e∈E.toList:=by
      have:E.toList[i]?=some e:=by rw[Array.getElem?_toList];exact hEi
      exact List.mem_of_getElem? this
     have hfind:E.find? (fun x=>x.born==e.born)=some e:=by
      rw[← Array.find?_toList]
      refine find_one _ e hmem (fun x hx hxb=>?_)
      obtain⟨j,hj⟩:=List.getElem?_of_mem hx
      rw[Array.getElem?_toList] at hj
      have:=hE.apart j i x e hj hEi hxb
      subst this
      rw[hEi] at hj;injection hj with hj;exact hj.symm
     have hax:a.eval (.tmp t)=.pointer (some ⟨b,0,none⟩):=hb
     refine⟨.tuple #[e.key,e.val],?_,.of_VR (.tuple _ _ rfl (fun j u x hu hx=>?_))⟩
     ·subst hbe
      simp[execOp,ho,hax,Instr.entry,getObj,Sem.run,hit]
      simp[hback,hE0,Sem.run,hfind]
     ·match j with
      | 0=>injection hu with hu;injection hx with hx;subst hu hx;exact v1
      | 1=>injection hu with hu;injection hx with hx;subst hu hx;exact v2
      | j+2=>simp at hx
  ·cases he
 | _=>simp only[evOp] at he;cases he
theorem left_step {E:Array MapEntry} {es:List (List AV)} {seen:Array Nat} {ck kz i:Nat} {ka va:Bool} {f:Nat→Nat→Value} (hE:EntOK E ck kz ka va es f) {e:MapEntry} {r:List AV} (he:E[i]?=some e) (hr:es[i]?=some r) (hs:seen.contains e.born=false) :
  (((E.toList.zip es).filter fun p=>!seen.contains p.1.born).map (·.2)).Perm (r :: ((E.toList.zip es).filter fun p=>!(seen.push e.born).contains p.1.born).map (·.2)):=by
 have hz:(E.toList.zip es)[i]?=some (e,r):=by rw[List.getElem?_zip_eq_some];exact⟨by rw[Array.getElem?_toList];exact he,hr⟩
 have h1:=perm_out (key:=fun p:MapEntry × List AV=>p.1.born) (E.toList.zip es) (e,r) (List.mem_of_getElem? hz) (fun j k p q hj hk hpq=>by
  rw[List.getElem?_zip_eq_some,Array.getElem?_toList] at hj hk
  exact hE.apart j k p.1 q.1 hj.1 hk.1 hpq)
 have h2:=h1.filter (fun p=>!seen.contains p.1.born)
 rw[List.filter_cons,if_pos (by show (!seen.contains e.born)=true;rw[hs];rfl),List.filter_filter] at h2
 have h3:=h2.map (·.2)
 rw[List.map_cons] at h3
 refine h3.trans (List.Perm.of_eq ?_)
 congr 2
 refine List.filter_congr fun p _=>?_
 by_cases hp:p.1.born=e.born
 ·simp[hp]
 ·simp[hp]
theorem ev_next (hW:WRel G base s.H gh w) (hF:FR L nt gh w a s) {o:Oper} {it:Operand} {t g kz:Nat} {ka va:Bool} {cur:List AV} {todo:List (List AV)} (ho:o.op=.next it false) (hc:compArg nt it=some (.tmp t)) (hT:s.T t=.iter g kz ka va cur todo) (hL:t∈L)
  (hd:∀ k,o.dst=some k→k<nt) (K:Act→World→Prop) (Q:Exit→Act→World→Prop)
  (hK0:todo=[]→∀ v' gh' w',Out G base nt L gh w a s o.dst (.tuple [.bool false]) s v' gh' w'→K (a.put o.dst v') w')
  (hK1:∀ r rest,todo.Perm (r :: rest)→∀ v' gh' w',Out G base nt L gh w a s o.dst (.tuple [.bool true,entV ka (r.take kz),entV va (r.drop kz)]) (s.setT t (.iter g kz ka va r rest)) v' gh' w'→K (a.put o.dst v') w'):o.wp P a w K Q:=by
 obtain⟨rfl,ht⟩:=compArg_tmp hc
 obtain⟨hg,b,hb,hκ,hS,m,since,seen,last,hit,hm⟩:=sr_iter hF ht hT
 have hax:a.eval (.tmp t)=.pointer (some ⟨b,0,none⟩):=hb
 have hfalse:∀ {n:Nat},VR gh n w (.tuple #[.bool false]) (.tuple [.bool false]):=fun {n}=>.tuple _ _ rfl (fun j u x hu hx=>by
  match j with
  | 0=>injection hu with hu;injection hx with hx;subst hu hx;exact .plain _ _ (.bool _)
  | j+1=>simp at hx)
 rcases hm with ⟨rfl,rfl,_,_⟩|⟨m0,E,es,ck,f,rfl,hSm,hE0,hE,rfl,rfl,hrel,_,hperm⟩
 ·refine Ran.wp (.inl ?_) (hK0 rfl (.tuple #[.bool false]) gh w (Out.pure hW hF hd (.of_VR hfalse)))
  simp[execOp,ho,hax,Instr.next,getObj,Sem.run,hit]
 ·rcases run_next_at (P:=P) w o.type b m0 last last seen E last hit hE0 (fun x hx=>by
   obtain⟨j,hj⟩:=List.getElem?_of_mem hx
   rw[Array.getElem?_toList] at hj
   exact hE.born j x hj) (Nat.le_refl _) with ⟨hz,hrun⟩|⟨e,hem,w1,hw1,hrun⟩
  ·have hnil:todo=[]:=by
    have hl:((E.toList.zip es).filter fun p=>!seen.contains p.1.born)=[]:=by
     refine List.filter_eq_nil_iff.2 fun p hp hne=>?_
     have hpe:p.1∈E.toList:=(List.of_mem_zip (a:=p.1) (b:=p.2) hp).1
     have:p.1∈(leftOf E seen).toList:=by
      unfold leftOf
      simp only[Array.toList_filter,List.mem_filter]
      exact⟨hpe,hne⟩
     have h0:(leftOf E seen).toList=[]:=List.eq_nil_of_length_eq_zero (by simpa using hz)
     rw[h0] at this
     cases this
    rw[hl] at hperm
    exact hperm.eq_nil
   refine Ran.wp (.inl ?_) (hK0 hnil (.tuple #[.bool false]) gh w (Out.pure hW hF hd (.of_VR hfalse)))
   simp[execOp,ho,hax,hrun]
  ·unfold leftOf at hem
   simp only[Array.toList_filter,List.mem_filter] at hem
   obtain⟨heE,hns⟩:=hem
   obtain⟨i,hi⟩:=List.getElem?_of_mem heE
   rw[Array.getElem?_toList] at hi
   have hilt:i<es.length:=by rw[← hE.size];exact (Array.getElem?_eq_some_iff.1 hi).1
   have hr:es[i]?=some es[i]:=List.getElem?_eq_getElem hilt
   have hns' : seen.contains e.born=false:=by simpa using hns
   have hstep:=left_step hE hi hr hns'
   have hblt:b<w.heap.size:=(Array.getElem?_eq_some_iff.1 hit).1
   have st:=map_kept_step (o:=.mapIter (some m0) last (seen.push e.born) last) hW hw1 hblt hS (fun C ty fr h=>by rw[hit] at h;cases h) s.H.length
   rw[hκ] at st
   have hheap:(setBlock w1 b (.mapIter (some m0) last (seen.push e.born) last)).heap=w.heap.setIfInBounds b (.mapIter (some m0) last (seen.push e.born) last):=by rcases hw1 with rfl|rfl<;>rfl
   have hsz:(setBlock w1 b (.mapIter (some m0) last (seen.push e.born) last)).heap.size=w.heap.size:=by rw[hheap];simp
   have hW' : WRel G base s.H gh (setBlock w1 b (.mapIter (some m0) last (seen.push e.born) last)):=hW.step st (fun l=>⟨by simp,by simp⟩) (fun b o h=>by rw[hsz];exact hW.sLt b o h) (fun b h=>by rw[hsz];exact hW.kLt b h) (fun _ _ _ h=>.inl h)
   have hE' : Ext s.H.length gh w gh (setBlock w1 b (.mapIter (some m0) last (seen.push e.born) last)):=⟨st.mono (fun r h=>by rw[h];simp[touchAny]),fun _ h=>h⟩
   have hIt:IterAt gh (setBlock w1 b (.mapIter (some m0) last (seen.push e.born) last)) b (.bx t) kz ka va es[i] (((E.toList.zip es).filter fun p=>!(seen.push e.born).contains p.1.born).map (·.2)):=by
    refine⟨hκ,hS,some m0,last,seen.push e.born,last,by rw[hheap];simp[hblt],.inr ⟨m0,E,es,last,f,rfl,hSm,st.mp _ _ _ hSm hE0,hE,rfl,rfl,fun i j r x h1 h2=>(hrel i j r x h1 h2).mono st.S st.cell st.mp,.inr ⟨e.born,i,e,by simp,hi,rfl,hr⟩,List.Perm.refl _⟩⟩
   have hF' : FR L nt gh (setBlock w1 b (.mapIter (some m0) last (seen.push e.born) last)) a (s.setT t (.iter g kz ka va es[i] (((E.toList.zip es).filter fun p=>!(seen.push e.born).contains p.1.born).map (·.2)))) :=
    hF.setT (H':=s.H) (lo':=s.lo) st (Nat.le_refl _) (fun i hi=>⟨by simpa using hi,by simp,by simp⟩) (.inl ⟨ht,by rw[hT];rfl⟩) (fun _=>⟨hg,b,hb,hIt⟩)
   obtain⟨v1,v2⟩:=entry_VR (n:=s.H.length) hE hrel hi hr
   have hv:VR gh s.H.length (setBlock w1 b (.mapIter (some m0) last (seen.push e.born) last)) (.tuple #[.bool true,e.key,e.val]) (.tuple [.bool true,entV ka (es[i].take kz),entV va (es[i].drop kz)]):=by
    refine .tuple _ _ rfl (fun j u x hu hx=>?_)
    match j with
    | 0=>injection hu with hu;injection hx with hx;subst hu hx;exact .plain _ _ (.bool _)
    | 1=>injection hu with hu;injection hx with hx;subst hu hx;exact v1.mono st (Nat.le_refl _)
    | 2=>injection hu with hu;injection hx with hx;subst hu hx;exact v2.mono st (Nat.le_refl _)
    | j+3=>simp at hx
   have hO:Out G base nt L gh w a s o.dst (.tuple [.bool true,entV ka (es[i].take kz),entV va (es[i].drop kz)]) (s.setT t (.iter g kz ka va es[i] (((E.toList.zip es).filter fun p=>!(seen.push e.born).contains p.1.born).map (·.2)))) (.tuple #[.bool true,e.key,e.val]) gh (setBlock w1 b (.mapIter (some m0) last (seen.push e.born) last)) :=
    Out.of (s1:=s.setT t (.iter g kz ka va es[i] (((E.toList.zip es).filter fun p=>!(seen.push e.born).contains p.1.born).map (·.2)))) (gen':=s.gen) hW' hF' hE' (Nat.le_refl _) hd (.inl rfl) (fun k hk=>sr_of_slot rfl (.inl hv))
   refine Ran.wp (.inl ?_) (hK1 es[i] _ (hperm.trans hstep) (.tuple #[.bool true,e.key,e.val]) gh _ hO)
   simp[execOp,ho,hax,hrun]
end
end Go.Abs
end
