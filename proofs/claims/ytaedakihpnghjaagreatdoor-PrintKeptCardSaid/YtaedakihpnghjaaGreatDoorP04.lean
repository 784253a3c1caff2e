/-
  A part of the proof of PrintKept: AbsOps8, AbsOps9, AbsOps10.
-/
import Derived.Great.BuildSlice
import Derived.Test.YtaedakihpnghjaaGreatDoorP03
set_option linter.unusedSimpArgs false
set_option linter.unusedVariables false
section
namespace Go.Abs
set_option linter.unusedSimpArgs false
set_option linter.unusedVariables false
section
variable {P:Program} {G:Nat→List AV} {base nt:Nat} {L:List Nat} {gh:Gh} {w w' : World} {a:Act} {s:AS} {H:AHeap}
def slo:Option Nat→Owner
 | some d=>.sl d
 | none=>.none
def bxo:Option Nat→Owner
 | some d=>.bx d
 | none=>.none
theorem slo_out (d:Option Nat):slo d≠.outer:=by cases d<;>simp[slo]
theorem bxo_out (d:Option Nat):bxo d≠.outer:=by cases d<;>simp[bxo]
theorem FR.grown {gh' : Gh} {touch:Owner→Prop} (h:FR L nt gh w a s) (st:Step touch s.H.length gh w gh' w') (ht:∀ i,¬ touch (.bx i)∧¬ touch (.sl i)∧∀ j,¬ touch (.sc i j))
  {H' : AHeap} {lo' : Nat} (hH:s.H.length≤H'.length):FR L nt gh' w' a { s with H:=H',lo:=lo' } :=
 h.update st h.defers h.size hH (Nat.le_refl _) (fun _=>False) (fun i _=>⟨rfl,fun _=>⟨rfl,ht i⟩⟩) (fun _ h=>h.elim) (fun _ h=>h.elim)
def Gh.pushBox (gh:Gh) (b n:Nat):Gh:={ gh.alloc b (.hb n) (fun _=>False) with ρ:=fun l=>if l=n then b else gh.ρ l }
theorem pushBox_step (hW:WRel G base H gh w) {o:Obj} (hp:Pushed w w' o):Step (fun _=>False) H.length gh w (gh.pushBox w.heap.size H.length) w':=by
 have h:=alloc_step hW hp (p:=.hb H.length) (by simp) (fun _=>False) H.length
 refine⟨h.S,h.cell,h.size,h.os,h.tape,h.output,h.blk,h.fresh,fun loc hl=>?_,h.len,h.mp⟩
 show (if loc=H.length then _ else _)=_
 rw[if_neg (by omega)]
theorem pushBox_ext (hW:WRel G base H gh w) {o:Obj} (hp:Pushed w w' o):Ext H.length gh w (gh.pushBox w.heap.size H.length) w':=by
 refine⟨(pushBox_step hW hp).mono (fun _ h=>h.elim),fun b hb=>?_⟩
 have hb' : (if b=w.heap.size then Owner.hb H.length else gh.κ b)=.outer:=hb
 split at hb'
 ·cases hb'
 ·exact hb'
theorem WRel.pushBox (hW:WRel G base H gh w) {C:Array Value} {ty:TypeId} (hp:Pushed w w' (.cells C ty)) {cs:List AV} (hrow:RowC gh H.length w C cs) (hr:cs.all (heapCell H.length)=true) :
  WRel G base (H++[.box ty cs]) (gh.pushBox w.heap.size H.length) w':=by
 have st:=pushBox_step hW hp
 refine⟨Nat.le_trans hW.size st.size,?_,?_,fun g j x hx=>?_,fun loc ty' ds hl=>?_,fun loc ty' ds hl=>?_,fun g hg=>(hW.tabs g hg).imp fun ty h=>st.len g ty _ h,hW.bytes_step st (fun b o m h=>h.elim .inl (fun h=>h.2.elim)),fun loc o hl=>?_,fun loc ty' ds hl=>?_⟩
 ·intro b o ho
  rw[hp.size]
  rcases ho with ho|⟨_,ho⟩
  ·have:=hW.sLt b o ho;omega
  ·exact ho.elim
 ·intro b hb
  rw[hp.size]
  have hb' : (if b=w.heap.size then Owner.hb H.length else gh.κ b)≠.none:=hb
  split at hb'
  ·rename_i e
   have:=hW.size
   omega
  ·have:=hW.kLt b hb';omega
 ·obtain⟨v,h1,h2,h3⟩:=hW.glob g j x hx
  exact⟨v,(st.cell g j h3).trans h1,h2.mono st.S st.cell st.mp,st.S g j h3⟩
 ·rw[List.length_append,List.length_singleton]
  by_cases hlt:loc<H.length
  ·rw[List.getElem?_append_left hlt] at hl
   have h:=(hW.boxes loc ty' ds hl).mono st (n':=H.length+1) (Nat.le_succ _) id (fun _=>id)
   rw[st.ρ loc hlt];exact h
  ·rw[List.getElem?_append_right (by omega)] at hl
   have hz:loc=H.length:=by
    have:=(List.getElem?_eq_some_iff.1 hl).1
    simp at this;omega
   subst hz
   simp only[Nat.sub_self,List.getElem?_cons_zero,Option.some.injEq,AObj.box.injEq] at hl
   obtain⟨rfl,rfl⟩:=hl
   have hρ:(gh.pushBox w.heap.size H.length).ρ H.length=w.heap.size:=by simp[Gh.pushBox]
   rw[hρ]
   refine⟨by simp[Gh.pushBox,Gh.alloc],?_,C,ty,hp.new,Nat.le_of_eq hrow.1.symm,fun j v x hv hx=>?_⟩
   ·rintro o (ho|⟨_,ho⟩)
    ·have:=hW.sLt _ o ho;omega
    ·exact ho
   ·obtain⟨h1,h2⟩:=hrow.2 j v x hv hx
    exact⟨h2,.inl (h1.mono st (Nat.le_succ _))⟩
 ·by_cases hlt:loc<H.length
  ·rw[List.getElem?_append_left hlt] at hl
   exact hW.refs loc ty' ds hl
  ·rw[List.getElem?_append_right (by omega)] at hl
   have hz:loc=H.length:=by
    have:=(List.getElem?_eq_some_iff.1 hl).1
    simp at this;omega
   subst hz
   simp only[Nat.sub_self,List.getElem?_cons_zero,Option.some.injEq,AObj.box.injEq] at hl
   obtain⟨rfl,rfl⟩:=hl
   exact hr
 ·rw[List.length_append,List.length_singleton]
  by_cases hlt:loc<H.length
  ·rw[List.getElem?_append_left hlt] at hl
   rw[st.ρ loc hlt]
   exact (hW.more loc o hl).mono st (Nat.le_succ _) id (fun _=>id)
  ·rw[List.getElem?_append_right (by omega)] at hl
   have hz:loc=H.length:=by
    have:=(List.getElem?_eq_some_iff.1 hl).1
    simp at this;omega
   subst hz
   simp only[Nat.sub_self,List.getElem?_cons_zero,Option.some.injEq] at hl
   subst hl
   trivial
 ·by_cases hlt:loc<H.length
  ·rw[List.getElem?_append_left hlt] at hl
   rw[st.ρ loc hlt]
   exact fun hf=>st.len _ _ _ (hW.types loc ty' ds hl hf)
  ·rw[List.getElem?_append_right (by omega)] at hl
   have hz:loc=H.length:=by
    have:=(List.getElem?_eq_some_iff.1 hl).1
    simp at this;omega
   subst hz
   simp only[Nat.sub_self,List.getElem?_cons_zero,Option.some.injEq,AObj.box.injEq] at hl
   obtain⟨rfl,rfl⟩:=hl
   have hρ:(gh.pushBox w.heap.size H.length).ρ H.length=w.heap.size:=by simp[Gh.pushBox]
   rw[hρ]
   exact fun _=>⟨C,(0,0),hp.new,hrow.1⟩
theorem Out.pushBox (hW:WRel G base s.H gh w) (hF:FR L nt gh w a s) {d:Option Nat} (hd:∀ k,d=some k→k<nt) {C:Array Value} {ty:TypeId} (hp:Pushed w w' (.cells C ty)) {cs:List AV} (hrow:RowC gh s.H.length w C cs)
  (hr:cs.all (heapCell s.H.length)=true) :
  Out G base nt L gh w a s d (.ref s.H.length 0) (s.chg ⟨s.H++[.box ty cs],s.H.length⟩) (.pointer (some ⟨w.heap.size,0,none⟩)) (gh.pushBox w.heap.size s.H.length) w':=by
 have hρ:(gh.pushBox w.heap.size s.H.length).ρ s.H.length=w.heap.size:=by simp[Gh.pushBox]
 have hv:VR (gh.pushBox w.heap.size s.H.length) (s.H++[AObj.box ty cs]).length w' (.pointer (some ⟨w.heap.size,0,none⟩)) (.ref s.H.length 0):=by
  have:=VR.ref (gh:=gh.pushBox w.heap.size s.H.length) (w:=w') (n:=(s.H++[AObj.box ty cs]).length) s.H.length 0 (by simp)
  rw[hρ] at this;exact this
 exact⟨hW.pushBox hp hrow hr,hF.put (pushBox_step hW hp) (fun i=>⟨id,id,fun _=>id⟩) (by simp) d hd (.of_VR hv),pushBox_ext hW hp⟩
theorem constAV_plain {v:Value} {x:AV} (h:constAV v=some x):x.drop.plain=true:=by
 unfold constAV at h
 split at h<;>first|(injection h with h;subst h;rfl)|cases h
theorem constCells_all:∀ {vs:List Value} {xs:List AV},constCells vs=some xs→∀ x,x∈xs→x.drop.plain=true
 | [],xs,h=>by simp[constCells] at h;subst h;simp
 | v :: r,xs,h=>by
  simp only[constCells,Option.bind_eq_some_iff,Option.map_eq_some_iff] at h
  obtain⟨x,hx,ys,hy,rfl⟩:=h
  intro z hz
  rcases List.mem_cons.1 hz with rfl|hz
  ·exact constAV_plain hx
  ·exact constCells_all hy z hz
theorem zeroT_all {t:TypeId} {z:List AV} (h:zeroT P t=some z):∀ x,x∈z→x.drop.plain=true:=by
 simp only[zeroT,Option.bind_eq_some_iff] at h
 obtain⟨zv,_,hc⟩:=h
 exact constCells_all hc
theorem heapCell_of_plain {loc:Nat} {x:AV} (h:x.drop.plain=true):heapCell loc x=true:=by
 cases x<;>first|exact h|(simp[AV.drop,AV.plain] at h;done)|skip
 rename_i f fs cs
 cases fs<;>cases cs<;>first|rfl|(simp[AV.drop,AV.plain] at h)
theorem heapCell_drop {loc:Nat} {x:AV} (h:heapCell loc x=true):heapCell loc x.drop=true:=by
 cases x<;>exact h
theorem run_alloc {t:TypeId} {i:TypeInfo} {zv:Value} (hi:P.info? t=some i) (hz:i.zero=some zv) (w:World) :
  (Instr.alloc t true (.tuple #[])).run P w=.ok (.pointer (some ⟨w.heap.size,0,none⟩)) (w.alloc (.cells zv.cells t)):=by
 simp[Instr.alloc,zeroValue,typeInfo,hi,hz,newVar,newRow]
theorem zeroN_all {t:TypeId} {kp:Bool} {z:List AV} (h:(zeroT P t).map (fun z=>cond kp (z.map nilOf) z)=some z):∀ x,x∈z→x.drop.plain=true:=by
 simp only[Option.map_eq_some_iff] at h
 obtain⟨z0,h0,rfl⟩:=h
 cases kp with
 | false=>exact zeroT_all h0
 | true =>
  intro x hx
  obtain⟨y,hy,rfl⟩:=List.mem_map.1 hx
  have:=zeroT_all h0 y hy
  unfold nilOf
  split
  ·rfl
  ·exact this
theorem ev_allocH (hW:WRel G base s.H gh w) (hF:FR L nt gh w a s) {o:Oper} {t:TypeId} {z:List AV} (ho:o.op=.alloc t) {kp:Bool} (hz:(zeroT P t).map (fun z=>cond kp (z.map nilOf) z)=some z) (hd:∀ k,o.dst=some k→k<nt) :
  ∃ v' gh' w',Ran P a o w v' w'∧Out G base nt L gh w a s o.dst (.ref s.H.length 0) (s.chg ⟨s.H++[.box t z],s.H.length⟩) v' gh' w':=by
 obtain⟨i,zv,hi,hzv,hrow⟩:=zero_rowN (gh:=gh) (n:=s.H.length) (w:=w) hz
 refine⟨_,_,_,.inl ?_,Out.pushBox hW hF hd (.alloc w (.cells zv.cells t)) hrow ?_⟩
 ·simp[execOp,ho,run_alloc hi hzv]
 ·exact List.all_eq_true.2 fun x hx=>heapCell_of_plain (zeroN_all hz x hx)
theorem ev_box (hW:WRel G base s.H gh w) (hF:FR L nt gh w a s) {o:Oper} {t:TypeId} {x:Operand} {y:IArg} {cs:List AV} (ho:o.op=.box t x) (hc:compArg nt x=some y) (hcs:(y.eval G s.T).drop.cells=some cs)
  (hall:cs.all (heapCell s.H.length)=true) (hd:∀ k,o.dst=some k→k<nt) :
  ∃ v' gh' w',Ran P a o w v' w'∧Out G base nt L gh w a s o.dst (.ref s.H.length 0) (s.chg ⟨s.H++[.box t (cs.map AV.drop)],s.H.length⟩) v' gh' w':=by
 have hrow:=(part_rel hW hF hc cs hcs).dropped
 refine⟨_,_,_,.inl ?_,Out.pushBox hW hF hd (.alloc w (.cells (a.eval x).cells t)) hrow ?_⟩
 ·simp[execOp,ho,Instr.box,newVar,newRow]
 ·refine List.all_eq_true.2 fun x hx=>?_
  obtain⟨y,hy,rfl⟩:=List.mem_map.1 hx
  exact heapCell_drop (List.all_eq_true.1 hall y hy)
theorem ev_allocL (hW:WRel G base s.H gh w) (hF:FR L nt gh w a s) {o:Oper} {t:TypeId} {z:List AV} (ho:o.op=.alloc t) {kp:Bool} (hz:(zeroT P t).map (fun z=>cond kp (z.map nilOf) z)=some z) (hd:∀ k,o.dst=some k→k<nt∧k∈L) :
  ∃ v' gh' w',Ran P a o w v' w'∧Out G base nt L gh w a s o.dst (.lbox s.gen z) { s with gen:=s.gen+1 } v' gh' w':=by
 obtain⟨i,zv,hi,hzv,hrow⟩:=zero_rowN (gh:=gh) (n:=s.H.length) (w:=w) hz
 have hp:=Pushed.alloc w (.cells zv.cells t)
 have hne:=bxo_out o.dst
 have st:=alloc_step hW hp hne (fun _=>False) s.H.length
 have hF' : FR L nt (gh.alloc w.heap.size (bxo o.dst) fun _=>False) (w.alloc (.cells zv.cells t)) a s:=hF.grown (H':=s.H) (lo':=s.lo) st (fun i=>⟨id,id,fun _=>id⟩) (Nat.le_refl _)
 have hW':=hW.alloc hp hne (fun _=>False) (fun _ _ h=>h.elim)
 refine⟨.pointer (some ⟨w.heap.size,0,none⟩),_,_,.inl ?_,hW',hF'.putG (gen':=s.gen+1) (Nat.le_succ _) (fun b hb=>hW'.not_outer b hb) o.dst (fun k hk=>(hd k hk).1) (.inr ⟨⟨s.gen,Nat.le_refl _,rfl⟩,fun k hk=>(hd k hk).2⟩) ?_,alloc_ext hW hp hne _ _⟩
 ·simp[execOp,ho,run_alloc hi hzv]
 ·intro k hk
  refine⟨Nat.lt_succ_self _,w.heap.size,rfl,?_⟩
  rw[hk] at st ⊢
  refine⟨by simp[Gh.alloc,bxo],?_,zv.cells,t,hp.new,Nat.le_of_eq hrow.1.symm,fun j v x hv hx=>?_⟩
  ·rintro o (ho|⟨_,ho⟩)
   ·have:=hW.sLt _ o ho;omega
   ·exact ho
  ·obtain⟨h1,h2⟩:=hrow.2 j v x hv hx
   exact⟨h2,.inl (h1.mono st (Nat.le_refl _))⟩
theorem ev_boxL (hW:WRel G base s.H gh w) (hF:FR L nt gh w a s) {o:Oper} {t:TypeId} {x:Operand} {y:IArg} {cs:List AV} (ho:o.op=.box t x) (hc:compArg nt x=some y) (hcs:(y.eval G s.T).drop.cells=some cs) (hd:∀ k,o.dst=some k→k<nt∧k∈L) :
  ∃ v' gh' w',Ran P a o w v' w'∧Out G base nt L gh w a s o.dst (.lbox s.gen (cs.map AV.drop)) { s with gen:=s.gen+1 } v' gh' w':=by
 have hrow:=(part_rel hW hF hc cs hcs).dropped
 have hp:=Pushed.alloc w (.cells (a.eval x).cells t)
 have hne:=bxo_out o.dst
 have st:=alloc_step hW hp hne (fun _=>False) s.H.length
 have hF' : FR L nt (gh.alloc w.heap.size (bxo o.dst) fun _=>False) (w.alloc (.cells (a.eval x).cells t)) a s:=hF.grown (H':=s.H) (lo':=s.lo) st (fun i=>⟨id,id,fun _=>id⟩) (Nat.le_refl _)
 have hW':=hW.alloc hp hne (fun _=>False) (fun _ _ h=>h.elim)
 refine⟨.pointer (some ⟨w.heap.size,0,none⟩),_,_,.inl ?_,hW',hF'.putG (gen':=s.gen+1) (Nat.le_succ _) (fun b hb=>hW'.not_outer b hb) o.dst (fun k hk=>(hd k hk).1) (.inr ⟨⟨s.gen,Nat.le_refl _,rfl⟩,fun k hk=>(hd k hk).2⟩) ?_,alloc_ext hW hp hne _ _⟩
 ·simp[execOp,ho,Instr.box,newVar,newRow]
 ·intro k hk
  refine⟨Nat.lt_succ_self _,w.heap.size,rfl,?_⟩
  rw[hk] at st ⊢
  refine⟨by simp[Gh.alloc,bxo],?_,(a.eval x).cells,t,hp.new,Nat.le_of_eq hrow.1.symm,fun j v x hv hx=>?_⟩
  ·rintro o (ho|⟨_,ho⟩)
   ·have:=hW.sLt _ o ho;omega
   ·exact ho
  ·obtain⟨h1,h2⟩:=hrow.2 j v x hv hx
   exact⟨h2,.inl (h1.mono st (Nat.le_refl _))⟩
theorem ev_build_array (hW:WRel G base s.H gh w) (hF:FR L nt gh w a s) {o:Oper} {t e:TypeId} {n sz:Nat} {parts:Array (Nat × Operand)} {z Z:List AV} {ps:List (Nat × Nat × IArg)}
  (ho:o.op=.build t parts) {kp:Bool} (hz:(zeroT P t).map (fun z=>cond kp (z.map nilOf) z)=some z) (hu:P.underlying t=some (.array n e)) (hs:sizeT P e=some sz) (hp:compArrParts nt sz parts.toList=some ps)
  (he:buildParts z (ps.map fun p=>(p.1,p.2.1,(p.2.2.eval G s.T).drop))=some Z) :
  ∃ v,(execOp a.eval o).run P w=.ok (.value v) w∧Val gh s.H.length nt w s.T s.gen (tmv a) v (.agg Z):=by
 obtain⟨i,zv,hi,hzv,hrow⟩:=zero_rowN (gh:=gh) (n:=s.H.length) (w:=w) hz
 obtain⟨ie,hie,hies⟩:=info_of_size hs
 have inv:∀ (l:List (Nat × Operand)) (ps:List (Nat × Nat × IArg)),compArrParts nt sz l=some ps→l.length=ps.length ∧
   ∀ (j:Nat) (p:Nat × Operand) (q:Nat × Nat × IArg),l[j]?=some p→ps[j]?=some q→q.1=p.1*sz∧q.2.1=sz∧compArg nt p.2=some q.2.2:=by
  intro l
  induction l with
  | nil=>intro ps h;simp[compArrParts] at h;subst h;exact⟨rfl,fun j p q h=>by simp at h⟩
  | cons p l ih =>
   intro ps h
   obtain⟨k,x⟩:=p
   simp only[compArrParts,Option.bind_eq_some_iff,Option.map_eq_some_iff] at h
   obtain⟨y,hy,rest,hr,rfl⟩:=h
   obtain⟨h1,h2⟩:=ih rest hr
   refine⟨by simp[h1],fun j p q hp hq=>?_⟩
   cases j with
   | zero=>simp at hp hq;subst hp hq;exact⟨rfl,rfl,hy⟩
   | succ j=>exact h2 j p q (by simpa using hp) (by simpa using hq)
 obtain⟨hl,hinv⟩:=inv _ _ hp
 obtain⟨C',hf,hrow'⟩:=fill_rel (gh:=gh) (w:=w) (n:=s.H.length) (place:=fun i=>some (i*ie.size,ie.size)) ((parts.map fun p=>(p.1,a.eval p.2)).toList) (ps.map fun p=>(p.1,p.2.1,(p.2.2.eval G s.T).drop)) zv.cells z Z hrow he (by simpa using hl) (by
  intro j p q hp hq
  simp only[Array.toList_map,List.getElem?_map,Option.map_eq_some_iff] at hp hq
  obtain⟨p0,hp0,rfl⟩:=hp
  obtain⟨q0,hq0,rfl⟩:=hq
  obtain⟨h1,h2,hc⟩:=hinv j p0 q0 hp0 hq0
  exact⟨by simp[h1,h2,hies],part_rel hW hF hc⟩)
 have hb:P.built t (parts.map fun p=>(p.1,a.eval p.2)).toList=some C':=by
  unfold Program.built
  rw[hi,hu]
  simp only[hzv,hie]
  exact hf
 refine⟨.agg C',by simp[execOp,ho,run_build w t _ C' hb],.of_VR (.agg _ _ hrow'.1 (fun j v hj=>?_) (fun j v x hv hx=>(hrow'.2 j v x hv hx).1))⟩
 have hlt:j<Z.length:=by rw[← hrow'.1];exact (Array.getElem?_eq_some_iff.1 hj).1
 exact (hrow'.2 j v _ hj (List.getElem?_eq_getElem hlt)).2
theorem zero_rows {t:TypeId} {z:List AV} {zv:Value} {sz len:Nat} (hrow:RowC gh H.length w zv.cells z) (hall:∀ x,x∈z→x.drop.plain=true) (hz:z.length=sz) (hpos:0<sz) :
  RowsP gh.S w sz ((Array.range (len*sz)).map (zv.cells[· % zv.cells.size]!)) (List.replicate len (z.map AV.drop)):=by
 have hsz:zv.cells.size=sz:=by rw[hrow.1,hz]
 refine⟨by simp,fun i r hi=>?_,fun i j r x hi hj=>?_⟩
 ·rw[List.getElem?_replicate] at hi
  split at hi
  ·injection hi with hi;subst hi;simpa using hz
  ·cases hi
 ·rw[List.getElem?_replicate] at hi
  split at hi
  ·rename_i hlt
   injection hi with hi;subst hi
   simp only[List.getElem?_map,Option.map_eq_some_iff] at hj
   obtain⟨y,hy,rfl⟩:=hj
   have hj:j<sz:=by rw[← hz];exact (List.getElem?_eq_some_iff.1 hy).1
   have hj' : j<zv.cells.size:=by omega
   have hmod:(i*sz+j) % zv.cells.size=j:=by rw[hsz,Nat.mul_add_mod',Nat.mod_eq_of_lt hj]
   refine⟨zv.cells[j],?_,?_⟩
   ·have hlt2:i*sz+j<len*sz:=mul_lt hlt hj
    rw[Array.getElem?_map,Array.getElem?_eq_getElem (by simpa using hlt2)]
    simp only[Array.getElem_range,Option.map_some,hmod]
    congr 1
    exact getElem!_pos zv.cells j hj'
   ·have hv:zv.cells[j]?=some zv.cells[j]:=Array.getElem?_eq_getElem hj'
    exact (VR.dropped (hrow.2 j _ y hv hy).1).plain_PR (hall y (List.mem_of_getElem? hy))
  ·cases hi
theorem split_index {k n sz:Nat} (h:k<n*sz):k / sz<n∧k % sz<sz∧k / sz*sz+k % sz=k:=by
 have hsz:0<sz:=by
  rcases Nat.eq_zero_or_pos sz with h0|h0
  ·subst h0;simp at h
  ·exact h0
 refine⟨Nat.div_lt_of_lt_mul (by rw[Nat.mul_comm];exact h),Nat.mod_lt _ hsz,?_⟩
 have:=Nat.div_add_mod k sz
 rw[Nat.mul_comm] at this
 exact this
theorem rows_bytes {S:Nat→Nat→Prop} {sz:Nat} {A:Array Value} {E:List (List AV)} {isB:Bool} {ty:TypeId} (h:RowsP S w sz A E) (hok:rowsOK isB E=true) (hB:isB=true→ty=byteTy) {k:Nat} {m:Int} (hk:k<E.length*sz)
  (hc:A[k]?=some (.int .u8 m)):ty=byteTy:=by
 cases isB with
 | true=>exact hB rfl
 | false =>
  exfalso
  obtain⟨h1,h2,h3⟩:=split_index hk
  have hr:=List.getElem?_eq_getElem h1
  obtain⟨x,hx⟩:∃ x,E[k / sz][k % sz]?=some x:=⟨_,List.getElem?_eq_getElem (show k % sz<E[k / sz].length by rw[h.2.1 _ _ hr];exact h2)⟩
  obtain⟨v,hv,hp⟩:=h.2.2 _ _ _ _ hr hx
  rw[h3,hc] at hv
  injection hv with hv
  subst hv
  have hn:noByte E=true:=hok
  have h4:=List.all_eq_true.1 (List.all_eq_true.1 hn _ (List.mem_of_getElem? hr)) _ (List.mem_of_getElem? hx)
  cases hp<;>simp at h4
theorem mkslice_run (hW:WRel G base s.H gh w) (hF:FR L nt gh w a s) {t e:TypeId} {len sz:Nat} {parts:Array (Nat × Operand)} {z:List AV} {E:List (List AV)} {ps:List (Nat × IArg)}
  (hu:P.underlying t=some (.slice e)) (hs:sizeT P e=some sz) (hz:zeroT P e=some z) (hp:compElems nt parts.toList=some ps) (hsmall:len*sz≤16777216) (hzl:z.length=sz) (hpos:0<sz)
  (he:sliceParts sz (List.replicate len (z.map AV.drop)) (ps.map fun p=>(p.1,(p.2.eval G s.T).drop))=some E) :
  ∃ C',(Instr.buildSlice t len (parts.map fun p=>(p.1,a.eval p.2))).run P w=.ok (.slice (some ⟨w.heap.size,0,none⟩) len len) (w.alloc (.cells C' e))∧RowsP gh.S w sz C' E∧E.length=len:=by
 obtain⟨i,zv,hi,hzv,hrow⟩:=zero_row (gh:=gh) (n:=s.H.length) (w:=w) hz
 obtain⟨ie,hie,hies⟩:=info_of_size hs
 rw[hi] at hie;injection hie with hie;subst hie
 have inv:∀ (l:List (Nat × Operand)) (ps:List (Nat × IArg)),compElems nt l=some ps→l.length=ps.length ∧
   ∀ (j:Nat) (p:Nat × Operand) (q:Nat × IArg),l[j]?=some p→ps[j]?=some q→q.1=p.1∧compArg nt p.2=some q.2:=by
  intro l
  induction l with
  | nil=>intro ps h;simp[compElems] at h;subst h;exact⟨rfl,fun j p q h=>by simp at h⟩
  | cons p l ih =>
   intro ps h
   obtain⟨k,x⟩:=p
   simp only[compElems,Option.bind_eq_some_iff,Option.map_eq_some_iff] at h
   obtain⟨y,hy,rest,hr,rfl⟩:=h
   obtain⟨h1,h2⟩:=ih rest hr
   refine⟨by simp[h1],fun j p q hp hq=>?_⟩
   cases j with
   | zero=>simp at hp hq;subst hp hq;exact⟨rfl,hy⟩
   | succ j=>exact h2 j p q (by simpa using hp) (by simpa using hq)
 obtain⟨hl,hinv⟩:=inv _ _ hp
 obtain⟨C',hf,hrows⟩:=fill_rows (w:=w) (S:=gh.S) (sz:=sz) ((parts.map fun p=>(p.1,a.eval p.2)).toList) (ps.map fun p=>(p.1,(p.2.eval G s.T).drop)) _ _ E (zero_rows (t:=e) (len:=len) hrow (zeroT_all hz) hzl hpos) he (by simpa using hl) (by
  intro j p q hp hq
  simp only[Array.toList_map,List.getElem?_map,Option.map_eq_some_iff] at hp hq
  obtain⟨p0,hp0,rfl⟩:=hp
  obtain⟨q0,hq0,rfl⟩:=hq
  obtain⟨h1,hc⟩:=hinv j p0 q0 hp0 hq0
  exact⟨h1.symm,fun cs hcs=>elem_rel (part_rel hW hF hc) hcs⟩)
 have hlenE:E.length=len:=by
  have:∀ (ip:List (Nat × AV)) (es E:List (List AV)),sliceParts sz es ip=some E→E.length=es.length:=by
   intro ip
   induction ip with
   | nil=>intro es E h;simp[sliceParts] at h;rw[h]
   | cons q ip ih =>
    intro es E h
    obtain⟨i,v⟩:=q
    simp only[sliceParts] at h
    split at h
    ·cases h
    ·obtain⟨_,h⟩:=cond_some h
     rw[ih _ _ h];simp
  rw[this _ _ _ he];simp
 have hrun:(Instr.buildSlice t len (parts.map fun p=>(p.1,a.eval p.2))).run P w=.ok (.slice (some ⟨w.heap.size,0,none⟩) len len) (w.alloc (.cells C' e)):=by
  by_cases h0:len*sz=0
  ·have hlen0:len=0:=by rcases Nat.mul_eq_zero.1 h0 with h|h<;>omega
   subst hlen0
   have hE:ps=[]:=by
    cases hps:ps with
    | nil=>rfl
    | cons q r =>
     rw[hps] at he
     simp only[List.map_cons,sliceParts,List.replicate_zero,List.length_nil] at he
     split at he
     ·cases he
     ·obtain⟨h,_⟩:=cond_some he
      simp[Nat.blt_eq] at h
   have hpl:parts.toList=[]:=by
    have:parts.toList.length=0:=by rw[hl,hE];rfl
    exact List.length_eq_zero_iff.1 this
   have hpa:parts=#[]:=by simpa using hpl
   subst hpa
   have hr0:Array.range 0=#[]:=rfl
   have hC' : C'=#[]:=by simpa [Instr.fill,hr0] using hf.symm
   subst hC'
   simp[Instr.buildSlice,run_underlying hu,sizeOf,typeInfo,hi,Instr.fill,newRow,hr0]
  ·exact run_buildSlice w t e len _ C' i zv hu hi hzv (by rw[hies];omega) (by rw[hies];exact h0) (by rw[hies];exact hf)
 exact⟨C',hrun,hrows,hlenE⟩
theorem ev_mkslice (hW:WRel G base s.H gh w) (hF:FR L nt gh w a s) {o:Oper} {t e:TypeId} {len sz:Nat} {parts:Array (Nat × Operand)} {z:List AV} {E:List (List AV)} {ps:List (Nat × IArg)} {isB:Bool}
  (ho:o.op=.buildSlice t len parts) (hu:P.underlying t=some (.slice e)) (hs:sizeT P e=some sz) (hz:zeroT P e=some z) (hp:compElems nt parts.toList=some ps)
  (hok:rowsOK isB E=true) (hisB:isB=true→e=byteTy) (hsmall:len*sz≤16777216) (hzl:z.length=sz) (hpos:0<sz)
  (he:sliceParts sz (List.replicate len (z.map AV.drop)) (ps.map fun p=>(p.1,(p.2.eval G s.T).drop))=some E) (hd:∀ k,o.dst=some k→k<nt) :
  ∃ v' gh' w',Ran P a o w v' w'∧Out G base nt L gh w a s o.dst (.slice E true) s v' gh' w':=by
 obtain⟨C',hrun,hrows,hlenE⟩:=mkslice_run (P:=P) hW hF hu hs hz hp hsmall hzl hpos he
 have hp':=Pushed.alloc w (.cells C' e)
 have hne:=slo_out o.dst
 have hPR:=hrows.slice (gh:=gh) rfl hp' (p:=slo o.dst) hW.sLt (fun j _=>rfl) (q:=fun _=>True) (fun _ _=>trivial) E.length (Nat.le_refl _)
 have hv:VR (gh.alloc w.heap.size (slo o.dst) fun _=>True) s.H.length (w.alloc (.cells C' e)) (.slice (some ⟨w.heap.size,0,none⟩) E.length E.length) (.slice E true):=.full _ _ _ hPR (fun ad ha _=>by injection ha with ha;subst ha;simp)
 rw[hlenE] at hv
 have st:=alloc_step hW hp' hne (fun _=>True) s.H.length
 have hF' : FR L nt (gh.alloc w.heap.size (slo o.dst) fun _=>True) (w.alloc (.cells C' e)) a s:=hF.grown (H':=s.H) (lo':=s.lo) st (fun i=>⟨id,id,fun _=>id⟩) (Nat.le_refl _)
 have hW':=hW.alloc hp' hne (fun _=>True) (fun k m _ hc=>by
  rw[cell_of_row _ _ k _ _ _ hp'.new] at hc
  have hk:k<E.length*sz:=by rw[← hrows.1];exact (Array.getElem?_eq_some_iff.1 hc).1
  have:=rows_bytes hrows hok hisB hk hc
  subst this
  exact⟨C',(0,0),hp'.new⟩)
 refine⟨.slice (some ⟨w.heap.size,0,none⟩) len len,_,_,.inl ?_,hW',hF'.putG (gen':=s.gen) (Nat.le_refl _) (fun b hb=>hW'.not_outer b hb) o.dst hd (.inl rfl) (fun k hk=>?_),alloc_ext hW hp' hne _ _⟩
 ·have:(parts.map fun x=>(x.1,a.eval x.2))=parts.map fun p=>(p.1,a.eval p.2):=rfl
  simp[execOp,ho,hrun]
 ·exact sr_of_CR (.inl hv)
end
end Go.Abs
end
section
namespace Go.Abs
set_option linter.unusedSimpArgs false
set_option linter.unusedVariables false
section
variable {P:Program} {G:Nat→List AV} {base nt:Nat} {L:List Nat} {gh:Gh} {w w' : World} {a:Act} {s:AS} {H:AHeap}
theorem own_move (hW:WRel G base s.H gh w) (hF:FR L nt gh w a s) {t:Nat} (ht:t<nt) {e:List (List AV)} {own:Bool} (hT:s.T t=.slice e own) (p:Owner) (hp:p≠.outer) :
  ∃ gh',WRel G base s.H gh' w∧FR L nt gh' w a (s.setT t (.slice e false))∧Ext s.H.length gh w gh' w∧Step (fun r=>r=.sl t) s.H.length gh w gh' w∧CR gh' s.H.length w p (tmv a t) (.slice e own):=by
 have hfresh:=fun b hb=>hW.not_outer (gh:=gh) b hb
 have h:CR gh s.H.length w (.sl t) (tmv a t) (.slice e own):=by
  have h:=hF.slot t ht
  rw[hT] at h
  exact h
 rcases h with hv|⟨e',heq,hPR,b,cap,C,ty,lo,hi,sz,hval,hk,he,hb,hC,hr,hl,hh,hS⟩
 ·refine⟨gh,hW,?_,Ext.refl _ _ _ hfresh,Step.refl _ _ _ _ hfresh,.inl hv⟩
  exact hF.setT (touch:=fun _=>False) (H':=s.H) (lo':=s.lo) (Step.refl _ _ _ _ hfresh) (Nat.le_refl _) (fun i _=>⟨id,id,fun _=>id⟩) (.inr rfl) (fun _=>.inl hv.dropped)
 ·injection heq with h1 h2
  subst h1 h2
  have hlt:b<w.heap.size:=(Array.getElem?_eq_some_iff.1 hb).1
  have st:=give_step hW hlt p s.H.length
  rw[hk] at st
  have hn:gh.κ b≠.none:=by rw[hk];simp
  refine⟨gh.give b p,give_W hW hlt p hn (by rw[hk];simp),?_,give_ext hW hlt hp hn (by rw[hk];simp) _,st,.inr ⟨e,rfl,hPR,b,cap,C,ty,lo,hi,sz,hval,by simp[Gh.give],he,hb,hC,hr,hl,hh,hS⟩⟩
  refine hF.setT (H':=s.H) (lo':=s.lo) st (Nat.le_refl _) (fun i hi=>⟨by simp,by simpa using hi,by simp⟩) (.inr rfl) (fun _=>?_)
  show CR (gh.give b p) s.H.length w (.sl t) (tmv a t) (.slice e false)
  exact .inl (.plain _ _ hPR)
theorem Out.of {gh' : Gh} {s1:AS} {d:Option Nat} {gen' : Nat} {v:Value} {x:AV} (hW:WRel G base s1.H gh' w') (hF:FR L nt gh' w' a s1) (hE:Ext s.H.length gh w gh' w') (hg:s1.gen≤gen') (hd:∀ k,d=some k→k<nt)
  (hx:genOf x=none∨((∃ g,s1.gen≤g∧genOf x=some g)∧∀ k,d=some k→k∈L)) (hv:∀ k,d=some k→SR gh' s1.H.length nt w' s1.T gen' (tmv a) k v x) :
  Out G base nt L gh w a s d x { s1 with gen:=gen' } v gh' w' :=
 ⟨hW,hF.putG hg (fun b hb=>hW.not_outer b hb) d hd hx hv,hE⟩
theorem compArg_tmp {x:Operand} {t:Nat} (h:compArg nt x=some (.tmp t)):x=.tmp t∧t<nt:=by
 cases x with
 | tmp k =>
  simp only[compArg] at h
  rcases Bool.eq_false_or_eq_true (Nat.blt k nt) with hb|hb<;>rw[hb] at h<;>simp at h
  subst h
  exact⟨rfl,by simpa [Nat.blt_eq] using hb⟩
 | const v =>
  simp only[compArg,Option.map_eq_some_iff] at h
  obtain⟨z,hz,h⟩:=h
  cases h
 | global g=>simp[compArg] at h
 | func f=>simp[compArg] at h
theorem freeze_move (hW:WRel G base s.H gh w) (hF:FR L nt gh w a s) {b g:Nat} {e:List (List AV)} (hb:b<nt) (hT:s.T b=.lsl g e) (hok:noByte e=true) (p:Owner) (hp:p≠.outer) :
  ∃ gh',WRel G base s.H gh' w∧FR L nt gh' w a (s.setT b .any)∧Ext s.H.length gh w gh' w∧CR gh' s.H.length w p (tmv a b) (.slice e true):=by
 have hfresh:=fun b hb=>hW.not_outer (gh:=gh) b hb
 have hone:(tmv a b).oneCell'=true:=by obtain⟨ad,cap,hv,_⟩:=sr_lsl hF hb hT;rw[hv];rfl
 obtain⟨ad,cap,hV,⟨rfl,rfl,hspot⟩|⟨k,C,ty,sz,hne,rfl,hκ,hS,hk,hC,hl,hr,hcs⟩⟩:=sr_lsl hF hb hT
 ·refine⟨gh,hW,?_,Ext.refl _ _ _ hfresh,.inl ?_⟩
  ·exact hF.setT (touch:=fun _=>False) (H':=s.H) (lo':=s.lo) (Step.refl _ _ _ _ hfresh) (Nat.le_refl _) (fun i _=>⟨id,id,fun _=>id⟩) (.inr rfl) (fun _=>.inl (.plain _ _ (.any _ hone)))
  ·rw[hV]
   refine .full ad 0 [] ?_ (fun ad' h _=>(hspot ad' h).2)
   cases ad with
   | none=>exact .sliceNil
   | some ad =>
    obtain⟨b',o',sp⟩:=ad
    have:=(hspot _ rfl).1
    simp only at this
    subst this
    exact .slice b' o' 0 0 0 [] (fun _ _=>undef) rfl (Nat.le_refl _) (fun i r h=>by simp at h) (fun i j r x h=>by simp at h) (fun i j r x h=>by simp at h)
 ·have hno:∀ o,gh.S k o→C[o]?=C[o]?:=fun _ _=>rfl
  have hn:gh.κ k≠.none:=by rw[hκ];simp
  have hnb:∀ j m,j<e.length*sz→C[j]?=some (.int .u8 m)→ty=byteTy:=by
   intro j m hj hc
   have hrows:RowsP gh.S w sz (C.toList.take (e.length*sz)).toArray e:=by
    have hle:e.length*sz≤C.size:=by rw[hC];exact Nat.mul_le_mul_right _ hl
    refine⟨by simp;omega,hr,fun i j r x hi hj=>?_⟩
    obtain⟨u,hu,hp⟩:=hcs i j r x hi hj
    refine⟨u,?_,hp⟩
    have h1:=(List.getElem?_eq_some_iff.1 hi).1
    have h2:j<sz:=by rw[← hr i r hi];exact (List.getElem?_eq_some_iff.1 hj).1
    simp only[List.getElem?_toArray,List.getElem?_take,if_pos (mul_lt h1 h2)]
    simpa using hu
   refine rows_bytes (isB:=false) (m:=m) hrows hok (fun h=>by cases h) hj ?_
   simp only[List.getElem?_toArray,List.getElem?_take,if_pos hj]
   simpa using hc
  have st:=row_step hW hk rfl (fun o=>o<e.length*sz) hno p s.H.length
  have hE:=row_ext hW hk rfl (fun o=>o<e.length*sz) hno (p:=p) hp hn (by rw[hκ];simp) s.H.length
  have hW':=row_W hW hk rfl (fun o=>o<e.length*sz) hno hnb p hn (by rw[hκ];simp)
  have hself:=setRow_self w k C ty (0,0) hk
  rw[hself] at hE hW' st
  rw[hκ] at st
  refine⟨_,hW',?_,hE,.inr ⟨e,rfl,?_,k,cap,C,ty,0,0,sz,hV,by simp,hne,hk,hC,hr,hl,Nat.zero_le _,?_⟩⟩
  ·exact hF.setT (H':=s.H) (lo':=s.lo) st (Nat.le_refl _) (fun i hi=>⟨by simpa using hi,by simp,by simp⟩) (.inr rfl) (fun _=>.inl (.plain _ _ (.any _ hone)))
  ·rw[hV]
   have key:∀ (i j:Nat) (r:List AV) (x:AV),e[i]?=some r→r[j]?=some x→C[i*sz+j]?=some (C.getD (i*sz+j) undef)∧PR gh.S w (C.getD (i*sz+j) undef) x∧i*sz+j<e.length*sz:=by
    intro i j r x hi hj
    obtain⟨u,hu,hp⟩:=hcs i j r x hi hj
    have hlt:=(Array.getElem?_eq_some_iff.1 hu).1
    have:C.getD (i*sz+j) undef=u:=by
     rw[Array.getElem?_eq_getElem hlt] at hu
     injection hu with hu
     simp[hlt,hu]
    rw[this]
    exact⟨hu,hp,mul_lt (List.getElem?_eq_some_iff.1 hi).1 (by rw[← hr i r hi];exact (List.getElem?_eq_some_iff.1 hj).1)⟩
   refine .slice k 0 e.length cap sz e (fun i j=>C.getD (i*sz+j) undef) rfl hl hr (fun i j r x hi hj=>?_) (fun i j r x hi hj=>?_)
   ·obtain⟨h1,h2,h3⟩:=key i j r x hi hj
    refine⟨.inr ⟨rfl,by simpa using h3⟩,?_,h2.oneCell⟩
    rw[Nat.zero_add,cell_of_row w k _ C ty _ hk];exact h1
   ·exact (key i j r x hi hj).2.1.mono (fun b o h=>.inl h) (fun _ _ _=>rfl) (fun _ _ _ _ h=>h)
  ·rintro o ho (h|⟨_,h⟩)
   ·exact hS o h
   ·omega
theorem ev_mov_state (hW:WRel G base s.H gh w) (hF:FR L nt gh w a s) {o:Oper} {x:Operand} {y:IArg} {take obj:Bool} {z:AV} {s' : AS} (ho:o.op=.move x∨o.op=.assign x) (hc:compArg nt x=some y)
  (he:evMov G s take obj y=some (z,some s')) (hd:∀ k,o.dst=some k→k<nt) (hL:obj=true→∀ k,o.dst=some k→k∈L) :
  ∃ v' gh' w',Ran P a o w v' w'∧Out G base nt L gh w a s o.dst z s' v' gh' w':=by
 have hrun:(execOp a.eval o).run P w=.ok (.value (a.eval x)) w:=by rcases ho with ho|ho<;>simp[execOp,ho]
 cases y<;>simp only[evMov] at he<;>try (cases he;done)
 rename_i t
 obtain⟨rfl,ht⟩:=compArg_tmp hc
 change (execOp a.eval o).run P w=.ok (.value (tmv a t)) w at hrun
 split at he
 ·cases he
 ·rename_i g e hT
  cases take
  ·cases he
  simp only[cond_true] at he
  cases hob:obj with
  | false =>
   rw[hob] at he
   simp only[cond_false] at he
   obtain⟨hok,he⟩:=cond_some he
   simp only[Option.some.injEq,Prod.mk.injEq] at he
   obtain⟨rfl,rfl⟩:=he
   obtain⟨gh',h1,h2,h3,h4⟩:=freeze_move hW hF ht hT hok (slo o.dst) (slo_out _)
   refine⟨_,gh',w,.inl hrun,Out.of (s1:=s.setT t .any) (gen':=s.gen) h1 h2 h3 (Nat.le_refl _) hd (.inl rfl) (fun k hk=>?_)⟩
   rw[hk] at h4
   exact h4
  | true =>
  rw[hob] at he
  simp only[cond_true] at he
  simp only[Option.some.injEq,Prod.mk.injEq] at he
  obtain⟨rfl,rfl⟩:=he
  have hrow:=sr_lsl hF ht hT
  have hfresh:=fun b hb=>hW.not_outer (gh:=gh) b hb
  have hone:(tmv a t).oneCell'=true:=by obtain⟨ad,cap,hv,_⟩:=hrow;rw[hv];rfl
  have key:∃ gh',WRel G base s.H gh' w∧FR L nt gh' w a (s.setT t .any)∧Ext s.H.length gh w gh' w∧RowAt gh' w (bxo o.dst) (tmv a t) e:=by
   obtain⟨ad,cap,hv,hrow⟩:=hrow
   rcases hrow with hz|⟨b,C,ty,sz,hne0,ha,hk,hS,hb,hC,hl,hr,hcs⟩
   ·refine⟨gh,hW,?_,Ext.refl _ _ _ hfresh,ad,cap,hv,.inl hz⟩
    exact hF.setT (touch:=fun _=>False) (H':=s.H) (lo':=s.lo) (Step.refl _ _ _ _ hfresh) (Nat.le_refl _) (fun i _=>⟨id,id,fun _=>id⟩) (.inr rfl) (fun _=>.inl (.plain _ _ (.any _ hone)))
   ·have hlt:b<w.heap.size:=(Array.getElem?_eq_some_iff.1 hb).1
    have st:=give_step hW hlt (bxo o.dst) s.H.length
    rw[hk] at st
    have hn:gh.κ b≠.none:=by rw[hk];simp
    refine⟨gh.give b (bxo o.dst),give_W hW hlt _ hn (by rw[hk];simp),?_,give_ext hW hlt (bxo_out _) hn (by rw[hk];simp) _,ad,cap,hv,.inr ⟨b,C,ty,sz,hne0,ha,by simp[Gh.give],hS,hb,hC,hl,hr,hcs⟩⟩
    exact hF.setT (H':=s.H) (lo':=s.lo) st (Nat.le_refl _) (fun i hi=>⟨by simpa using hi,by simp,by simp⟩) (.inr rfl) (fun _=>.inl (.plain _ _ (.any _ hone)))
  obtain⟨gh',h1,h2,h3,h4⟩:=key
  refine⟨_,gh',w,.inl hrun,Out.of (s1:=s.setT t .any) (gen':=s.gen+1) h1 h2 h3 (Nat.le_succ _) hd (.inr ⟨⟨s.gen,Nat.le_refl _,rfl⟩,hL hob⟩) (fun k hk=>⟨Nat.lt_succ_self _,?_⟩)⟩
  rw[hk] at h4
  exact h4
 ·rename_i e own hT
  simp only[Option.some.injEq,Prod.mk.injEq] at he
  obtain⟨rfl,he⟩:=he
  cases hto:(take&&own) with
  | false=>rw[hto] at he;cases he
  | true =>
   rw[hto] at he
   simp only[cond_true,Option.some.injEq] at he
   subst he
   obtain⟨gh',h1,h2,h3,_,h4⟩:=own_move hW hF ht hT (slo o.dst) (slo_out _)
   refine⟨_,gh',w,.inl hrun,Out.of (s1:=s.setT t (.slice e false)) (gen':=s.gen) h1 h2 h3 (Nat.le_refl _) hd (.inl rfl) (fun k hk=>?_)⟩
   rw[hk] at h4
   have hown:own=true:=by cases take<;>simp_all
   subst hown
   exact h4
 ·cases he
 ·cases he
theorem modify_get {cs:List AV} {off j:Nat} : (takenAt off cs)[j]?=if j=off then (cs[j]?).map AV.drop else cs[j]?:=by
 unfold takenAt
 rw[List.getElem?_modify]
 by_cases h:off=j
 ·subst h;simp
 ·rw[if_neg (fun e=>h e.symm)]
  cases cs[j]?<;>simp[h]
theorem cell_move {b:Nat} {p:Owner} {q:Nat→Owner} {n:Nat} {cs:List AV} (hW:WRel G base H gh w) (hB:BoxAt gh n w b p q cs) {off:Nat} {v:AV} (hv:cs[off]?=some v) (r:Owner) (hr:r≠.outer) (hq:∀ j,q j≠.none∧q j≠.outer∧q j≠p) (hinj:∀ i j,q i=q j→i=j) (m:Nat) :
  ∃ gh' u,(∀ b o,gh'.S b o→gh.S b o)∧Step (fun o=>o=q off) m gh w gh' w∧Ext m gh w gh' w∧(∀ b o,gh'.S b o→b<w.heap.size)∧(∀ b,gh'.κ b≠.none→base≤b∧b<w.heap.size)∧BoxAt gh' n w b p q (takenAt off cs) ∧
   w.cell? ⟨b,off,none⟩=some u∧u.oneCell'=true∧CR gh' n w r u v:=by
 have hfresh:=fun b hb=>hW.not_outer (gh:=gh) b hb
 obtain⟨hκ,hS,C,ty,hb,hC,hcs⟩:=hB
 have hoff:off<cs.length:=(List.getElem?_eq_some_iff.1 hv).1
 have hoff' : off<C.size:=by omega
 have hu:C[off]?=some C[off]:=Array.getElem?_eq_getElem hoff'
 have hcell:w.cell? ⟨b,off,none⟩=some C[off]:=by rw[cell_of_row w b off C ty _ hb,hu]
 obtain⟨h1,h2⟩:=hcs off _ v hu hv
 rcases h2 with hvr|⟨e,rfl,hPR,b',cap,C',ty',lo,hi,sz,hval,hk,he,hb',hC',hr',hl,hh,hS'⟩
 ·refine⟨gh,C[off],fun _ _ h=>h,Step.refl _ _ _ _ hfresh,Ext.refl _ _ _ hfresh,hW.sLt,hW.kLt,⟨hκ,hS,C,ty,hb,by simp[takenAt];exact hC,fun j u x hju hjx=>?_⟩,hcell,h1,.inl hvr⟩
  rw[modify_get] at hjx
  split at hjx
  ·simp only[Option.map_eq_some_iff] at hjx
   obtain⟨y,hy,rfl⟩:=hjx
   obtain⟨k1,k2⟩:=hcs j u y hju hy
   exact⟨k1,.inl k2.dropped⟩
  ·exact hcs j u x hju hjx
 ·have hlt:b' < w.heap.size:=(Array.getElem?_eq_some_iff.1 hb').1
  have st:=give_step hW hlt r m
  rw[hk] at st
  have hne:b≠b':=by rintro rfl;rw[hκ] at hk;exact (hq off).2.2 hk.symm
  have hn:gh.κ b'≠.none:=by rw[hk];exact (hq off).1
  refine⟨gh.give b' r,C[off],fun _ _ h=>h,st,give_ext hW hlt hr hn (by rw[hk];exact (hq off).2.1) m,hW.sLt,?_,⟨by simp[Gh.give,hne,hκ],hS,C,ty,hb,by simp[takenAt];exact hC,fun j u x hju hjx=>?_⟩,hcell,h1,
   .inr ⟨e,rfl,hPR,b',cap,C',ty',lo,hi,sz,hval,by simp[Gh.give],he,hb',hC',hr',hl,hh,hS'⟩⟩
  ·intro b1 hb1
   have hb2:(if b1=b' then r else gh.κ b1)≠.none:=hb1
   split at hb2
   ·rename_i e;rw[e];exact hW.kLt b' hn
   ·exact hW.kLt b1 hb2
  ·have st':=give_step hW hlt r n
   rw[hk] at st'
   rw[modify_get] at hjx
   split at hjx
   ·rename_i hj
    subst hj
    rw[hv] at hjx
    simp only[Option.map_some,Option.some.injEq] at hjx
    subst hjx
    rw[hu] at hju;injection hju with hju;subst hju
    exact⟨h1,.inl (.plain _ _ hPR)⟩
   ·rename_i hj
    obtain⟨k1,k2⟩:=hcs j u x hju hjx
    exact⟨k1,k2.mono st' (Nat.le_refl _) (fun e=>hj (hinj _ _ e))⟩
theorem WRel.setBox {gh' : Gh} {touch:Owner→Prop} (hW:WRel G base H gh w) (st:Step touch H.length gh w gh' w') {loc:Nat} {ty:TypeId} {cs0:List AV} (hH:H[loc]?=some (.box ty cs0)) (ht:∀ l,l≠loc→¬ touch (.hb l)∧∀ j,¬ touch (.hs l j))
  (hs:∀ b o,gh'.S b o→b<w'.heap.size) (hk:∀ b,gh'.κ b≠.none→base≤b∧b<w'.heap.size) {cs:List AV} (hB:BoxAt gh' H.length w' (gh'.ρ loc) (.hb loc) (fun j=>.hs loc j) cs) (hr:cs.all (heapCell loc)=true) (hnew:∀ b o,gh'.S b o→gh.S b o) (hlen:cs.length=cs0.length) :
  WRel G base (H.set loc (.box ty cs)) gh' w':=by
 have hlt:loc<H.length:=(List.getElem?_eq_some_iff.1 hH).1
 refine⟨Nat.le_trans hW.size st.size,hs,hk,fun g j x hx=>?_,fun l ty' ds hl=>?_,fun l ty' ds hl=>?_,fun g hg=>(hW.tabs g hg).imp fun ty h=>st.len g ty _ h,hW.bytes_step st (fun b o m h=>.inl (hnew b o h)),fun l o hl=>?_,fun l ty' ds hl=>?_⟩
 ·obtain⟨v,h1,h2,h3⟩:=hW.glob g j x hx
  exact⟨v,(st.cell g j h3).trans h1,h2.mono st.S st.cell st.mp,st.S g j h3⟩
 ·rw[List.length_set]
  rw[List.getElem?_set] at hl
  split at hl
  ·rename_i e
   subst e
   simp only[Option.some.injEq,AObj.box.injEq] at hl
   obtain⟨rfl,rfl⟩:=hl
   exact hB
  ·rename_i e
   have h:=(hW.boxes l ty' ds hl).mono st (Nat.le_refl _) (ht l (Ne.symm e)).1 (ht l (Ne.symm e)).2
   rw[st.ρ l (List.getElem?_eq_some_iff.1 hl).1];exact h
 ·rw[List.getElem?_set] at hl
  split at hl
  ·rename_i e
   subst e
   simp only[Option.some.injEq,AObj.box.injEq] at hl
   obtain⟨rfl,rfl⟩:=hl
   exact hr
  ·exact hW.refs l ty' ds hl
 ·rw[List.length_set]
  rw[List.getElem?_set] at hl
  split at hl
  ·rename_i e
   subst e
   injection hl with hl
   subst hl
   trivial
  ·rename_i e
   rw[st.ρ l (List.getElem?_eq_some_iff.1 hl).1]
   exact (hW.more l o hl).mono st (Nat.le_refl _) (ht l (Ne.symm e)).1 (ht l (Ne.symm e)).2
 ·rw[List.getElem?_set] at hl
  split at hl
  ·rename_i e
   subst e
   simp only[Option.some.injEq,AObj.box.injEq] at hl
   obtain⟨rfl,rfl⟩:=hl
   intro hf
   have hm:=hW.types loc _ cs0 hH hf
   rw[st.ρ loc hlt,hlen]
   exact st.len _ _ _ hm
  ·rename_i e
   rw[st.ρ l (List.getElem?_eq_some_iff.1 hl).1]
   exact fun hf=>st.len _ _ _ (hW.types l ty' ds hl hf)
theorem WRel.setMore {gh' : Gh} {touch:Owner→Prop} (hW:WRel G base H gh w) (st:Step touch H.length gh w gh' w') {loc:Nat} (hlt:loc<H.length) (ht:∀ l,l≠loc→¬ touch (.hb l)∧∀ j,¬ touch (.hs l j))
  (hs:∀ b o,gh'.S b o→b<w'.heap.size) (hk:∀ b,gh'.κ b≠.none→base≤b∧b<w'.heap.size) {o:AObj} (hnb:∀ ty cs,o≠.box ty cs) (hM:MoreAt gh' H.length w' (gh'.ρ loc) loc o)
  (hnew:∀ b o m,gh'.S b o→gh.S b o∨(w'.cell? ⟨b,o,none⟩=some (.int .u8 m)→∃ C fr,w'.heap[b]?=some (.cells C byteTy fr))):WRel G base (H.set loc o) gh' w':=by
 have box:∀ {l:Nat} {ty:TypeId} {ds:List AV},(H.set loc o)[l]?=some (.box ty ds)→l≠loc∧H[l]?=some (.box ty ds):=by
  intro l ty ds hl
  rw[List.getElem?_set] at hl
  split at hl
  ·injection hl with hl;exact absurd hl (hnb ty ds)
  ·rename_i e;exact⟨Ne.symm e,hl⟩
 refine⟨Nat.le_trans hW.size st.size,hs,hk,fun g j x hx=>?_,fun l ty' ds hl=>?_,fun l ty' ds hl=>?_,fun g hg=>(hW.tabs g hg).imp fun ty h=>st.len g ty _ h,hW.bytes_step st hnew,fun l o' hl=>?_,fun l ty' ds hl hf=>?_⟩
 ·obtain⟨v,h1,h2,h3⟩:=hW.glob g j x hx
  exact⟨v,(st.cell g j h3).trans h1,h2.mono st.S st.cell st.mp,st.S g j h3⟩
 ·obtain⟨hne,hl⟩:=box hl
  rw[List.length_set,st.ρ l (List.getElem?_eq_some_iff.1 hl).1]
  exact (hW.boxes l ty' ds hl).mono st (Nat.le_refl _) (ht l hne).1 (ht l hne).2
 ·exact hW.refs l ty' ds (box hl).2
 ·rw[List.length_set]
  rw[List.getElem?_set] at hl
  split at hl
  ·rename_i e
   subst e
   injection hl with hl
   subst hl
   exact hM
  ·rename_i e
   rw[st.ρ l (List.getElem?_eq_some_iff.1 hl).1]
   exact (hW.more l o' hl).mono st (Nat.le_refl _) (ht l (Ne.symm e)).1 (ht l (Ne.symm e)).2
 ·obtain⟨hne,hl⟩:=box hl
  rw[st.ρ l (List.getElem?_eq_some_iff.1 hl).1]
  exact st.len _ _ _ (hW.types l ty' ds hl hf)
theorem WRel.pushMore (hW:WRel G base H gh w) {ob:Obj} (hp:Pushed w w' ob) {o:AObj} (hnb:∀ ty cs,o≠.box ty cs) (hM:MoreAt (gh.pushBox w.heap.size H.length) (H.length+1) w' w.heap.size H.length o) :
  WRel G base (H++[o]) (gh.pushBox w.heap.size H.length) w':=by
 have st:=pushBox_step hW hp
 have old:∀ {l:Nat} {o' : AObj},(H++[o])[l]?=some o'→(l<H.length∧H[l]?=some o')∨(l=H.length∧o'=o):=by
  intro l o' hl
  by_cases hlt:l<H.length
  ·rw[List.getElem?_append_left hlt] at hl;exact .inl ⟨hlt,hl⟩
  ·rw[List.getElem?_append_right (by omega)] at hl
   have hz:l=H.length:=by
    have:=(List.getElem?_eq_some_iff.1 hl).1
    simp at this;omega
   subst hz
   simp at hl
   exact .inr ⟨rfl,hl.symm⟩
 refine⟨Nat.le_trans hW.size st.size,?_,?_,fun g j x hx=>?_,fun l ty' ds hl=>?_,fun l ty' ds hl=>?_,fun g hg=>(hW.tabs g hg).imp fun ty h=>st.len g ty _ h,hW.bytes_step st (fun b o m h=>h.elim .inl (fun h=>h.2.elim)),fun l o' hl=>?_,fun l ty' ds hl hf=>?_⟩
 ·intro b o ho
  rw[hp.size]
  rcases ho with ho|⟨_,ho⟩
  ·have:=hW.sLt b o ho;omega
  ·exact ho.elim
 ·intro b hb
  rw[hp.size]
  have hb' : (if b=w.heap.size then Owner.hb H.length else gh.κ b)≠.none:=hb
  split at hb'
  ·rename_i e
   have:=hW.size
   omega
  ·have:=hW.kLt b hb';omega
 ·obtain⟨v,h1,h2,h3⟩:=hW.glob g j x hx
  exact⟨v,(st.cell g j h3).trans h1,h2.mono st.S st.cell st.mp,st.S g j h3⟩
 ·rcases old hl with ⟨hlt,hl⟩|⟨_,h⟩
  ·rw[List.length_append,List.length_singleton,st.ρ l hlt]
   exact (hW.boxes l ty' ds hl).mono st (Nat.le_succ _) id (fun _=>id)
  ·exact absurd h.symm (hnb ty' ds)
 ·rcases old hl with ⟨hlt,hl⟩|⟨_,h⟩
  ·exact hW.refs l ty' ds hl
  ·exact absurd h.symm (hnb ty' ds)
 ·rw[List.length_append,List.length_singleton]
  rcases old hl with ⟨hlt,hl⟩|⟨rfl,rfl⟩
  ·rw[st.ρ l hlt]
   exact (hW.more l o' hl).mono st (Nat.le_succ _) id (fun _=>id)
  ·have hρ:(gh.pushBox w.heap.size H.length).ρ H.length=w.heap.size:=by simp[Gh.pushBox]
   rw[hρ];exact hM
 ·rcases old hl with ⟨hlt,hl⟩|⟨_,h⟩
  ·rw[st.ρ l hlt]
   exact st.len _ _ _ (hW.types l ty' ds hl hf)
  ·exact absurd h.symm (hnb ty' ds)
theorem mem_takenAt {cs:List AV} {off:Nat} {y:AV} (h:y∈takenAt off cs):y∈cs∨∃ x,x∈cs∧y=x.drop:=by
 obtain⟨j,hj⟩:=List.getElem?_of_mem h
 rw[modify_get] at hj
 split at hj
 ·simp only[Option.map_eq_some_iff] at hj
  obtain⟨x,hx,rfl⟩:=hj
  exact .inr ⟨x,List.mem_of_getElem? hx,rfl⟩
 ·exact .inl (List.mem_of_getElem? hj)
theorem takenAt_refs {cs:List AV} {off loc:Nat} (h:cs.all (heapCell loc)=true):(takenAt off cs).all (heapCell loc)=true:=by
 refine List.all_eq_true.2 fun y hy=>?_
 rcases mem_takenAt hy with hy|⟨x,hx,rfl⟩
 ·exact List.all_eq_true.1 h y hy
 ·exact heapCell_drop (List.all_eq_true.1 h x hx)
theorem sr_of_slot {n:Nat} {T:AFrame} {gen:Nat} {tm:Nat→Value} {i:Nat} {v:Value} {x:AV} (hx:frameCell x=true) (h:CR gh n w (.sl i) v x):SR gh n nt w T gen tm i v x:=by
 cases x<;>first|exact h|(simp[frameCell] at hx)
theorem CR.frameCell {n:Nat} {p:Owner} {v:Value} {x:AV} (h:CR gh n w p v x):frameCell x=true:=by
 rcases h with h|⟨e,rfl,_⟩
 ·cases h with
  | plain _ _ h=>cases h<;>rfl
  | full=>rfl
  | ref=>rfl
  | sref=>rfl
  | mref=>rfl
  | func=>rfl
  | iface=>rfl
  | agg=>rfl
  | tuple=>rfl
 ·rfl
theorem genOf_frameCell {x:AV} (h:Abs.frameCell x=true):genOf x=none:=by cases x<;>first|rfl|(simp[Abs.frameCell] at h)
theorem run_load1 {t:TypeId} (hg:aggT P t=some false) {b off:Nat} {u:Value} (hc:w.cell? ⟨b,off,none⟩=some u):(Instr.loadAt t (.pointer (some ⟨b,off,none⟩))).run P w=.ok u w:=by
 simp[Instr.loadAt,Instr.sureAddr,loadVar,run_isAgg' hg,hc]
theorem ev_load_take (hW:WRel G base s.H gh w) (hF:FR L nt gh w a s) {o:Oper} {t:TypeId} {x:Operand} {y:IArg} {take agg:Bool} {sz:Nat} {z:AV} {s' : AS} (ho:o.op=.load t x) (hc:compArg nt x=some y) (hg:aggT P t=some agg) (hs:sizeT P t=some sz)
  (he:loadAV s take agg sz (y.addr G s.T)=some (z,some s')) (hd:∀ k,o.dst=some k→k<nt) :
  ∃ v' gh' w',Ran P a o w v' w'∧Out G base nt L gh w a s o.dst z s' v' gh' w':=by
 have hv:=arg_val hW hF hc
 generalize hY:y.addr G s.T=Y at hv he
 cases Y<;>simp only[loadAV] at he<;>try (cases he;done)
 case eptr cs=>simp at he
 case ref loc off =>
  obtain⟨hlt,hax⟩:=VR.inv_ref (hv:VR gh s.H.length w (a.eval x) (.ref loc off))
  split at he
  ·rename_i ty0 cs hH
   simp only[Option.map_eq_some_iff,Prod.mk.injEq] at he
   obtain⟨u,hu,rfl,hn⟩:=he
   cases hq:(take&&!agg) with
   | false=>rw[hq] at hn;cases hn
   | true =>
    rw[hq] at hn
    simp only[cond_true,Option.some.injEq] at hn
    subst hn
    simp only[Bool.and_eq_true,Bool.not_eq_true'] at hq
    obtain⟨rfl,rfl⟩:=hq
    simp only[loadCellsAV,cond_false,cond_true,Option.map_eq_some_iff] at hu
    obtain⟨u',hu,rfl⟩:=hu
    obtain⟨gh',uv,hSS,st,hE,hs',hk',hB,hcell,hone,hCR⟩:=cell_move hW (hW.boxes loc _ cs hH) hu (slo o.dst) (slo_out _) (by simp) (by simp) s.H.length
    have hρ:gh'.ρ loc=gh.ρ loc:=st.ρ loc hlt
    have hW' : WRel G base (s.H.set loc (.box ty0 (takenAt off cs))) gh' w:=hW.setBox st hH (by intro l hl;simp[hl]) hs' hk' (by rw[hρ];exact hB) (takenAt_refs (hW.refs loc _ cs hH)) hSS (by simp[takenAt])
    have hF' : FR L nt gh' w a (s.chg ⟨s.H.set loc (.box ty0 (takenAt off cs)),loc⟩):=hF.grown st (fun i=>⟨by simp,by simp,by simp⟩) (by simp)
    refine⟨uv,gh',w,.inl ?_,Out.of (s1:=s.chg ⟨s.H.set loc (.box ty0 (takenAt off cs)),loc⟩) (gen':=s.gen) hW' hF' hE (Nat.le_refl _) hd (.inl (genOf_frameCell hCR.frameCell)) (fun k hk=>?_)⟩
    ·simp[execOp,ho,hax,run_load1 hg hcell]
    ·rw[hk] at hCR
     have:(s.chg ⟨s.H.set loc (.box ty0 (takenAt off cs)),loc⟩).H.length=s.H.length:=by simp[AS.chg]
     rw[this]
     exact sr_of_slot hCR.frameCell hCR
  ·simp at he
  ·simp at he
  ·cases he
 case lref b g off =>
  obtain⟨hb,hg0,hr⟩:=(hv:_∧_∧_)
  split at he
  ·rename_i g' cs hT
   obtain⟨h0,he2⟩:=cond_some he
   clear he
   have hgg:g=g':=by simpa [nbeq] using h0
   subst hgg
   rename _=some (z,some s')=>he
   simp only[Option.map_eq_some_iff,Prod.mk.injEq] at he
   obtain⟨u,hu,rfl,hn⟩:=he
   cases hq:(take&&!agg) with
   | false=>rw[hq] at hn;cases hn
   | true =>
    rw[hq] at hn
    simp only[cond_true,Option.some.injEq] at hn
    subst hn
    simp only[Bool.and_eq_true,Bool.not_eq_true'] at hq
    obtain⟨rfl,rfl⟩:=hq
    simp only[loadCellsAV,cond_false,cond_true,Option.map_eq_some_iff] at hu
    obtain⟨u',hu,rfl⟩:=hu
    obtain⟨k,hk,hbox⟩:=sr_lbox hF hb hT
    have hax:=hr (by rw[hT];rfl) k hk
    obtain⟨gh',uv,hSS,st,hE,hs',hk',hB,hcell,hone,hCR⟩:=cell_move hW hbox hu (slo o.dst) (slo_out _) (by simp) (by simp) s.H.length
    have hW' : WRel G base s.H gh' w:=hW.step st (by simp) hs' hk' (fun b o _ h=>.inl (hSS b o h))
    have hF' : FR L nt gh' w a (s.setT b (.lbox g (takenAt off cs))) :=
     hF.setT (H':=s.H) (lo':=s.lo) st (Nat.le_refl _) (fun i hi=>⟨by simp,by simp,by intro j e;injection e with e _;exact hi e⟩) (.inl ⟨hb,by rw[hT];rfl⟩) (fun _=>⟨by
      have h:=hF.slot b hb
      rw[hT] at h
      exact h.1,k,hk,hB⟩)
    refine⟨uv,gh',w,.inl ?_,Out.of (s1:=s.setT b (.lbox g (takenAt off cs))) (gen':=s.gen) hW' hF' hE (Nat.le_refl _) hd (.inl (genOf_frameCell hCR.frameCell)) (fun k hk=>?_)⟩
    ·simp[execOp,ho,hax,run_load1 hg hcell]
    ·rw[hk] at hCR
     exact sr_of_slot hCR.frameCell hCR
  ·cases he
 case eref b g i zz off =>
  split at he
  ·obtain⟨_,he⟩:=cond_some he
   simp only[Option.bind_eq_some_iff] at he
   obtain⟨r,_,he⟩:=he
   obtain⟨_,he⟩:=cond_some he
   simp at he
  ·cases he
end
end Go.Abs
end
section
namespace Go.Abs
set_option linter.unusedSimpArgs false
set_option linter.unusedVariables false
section
variable {P:Program} {G:Nat→List AV} {base nt:Nat} {L:List Nat} {gh:Gh} {w w' : World} {a:Act} {s:AS} {H:AHeap}
theorem arg_spent (hW:WRel G base s.H gh w) (hF:FR L nt gh w a s) {x:Operand} {y:IArg} (hc:compArg nt x=some y) (hf:frameCell (y.eval G s.T)=true) (p:Owner) (hp:p≠.outer) :
  ∃ gh',WRel G base s.H gh' w∧FR L nt gh' w a (s.spent y)∧Ext s.H.length gh w gh' w∧Step (fun r=>∃ t,r=.sl t) s.H.length gh w gh' w∧CR gh' s.H.length w p (a.eval x) (y.eval G s.T):=by
 have hfresh:=fun b hb=>hW.not_outer (gh:=gh) b hb
 have stay:s.spent y=s→VR gh s.H.length w (a.eval x) (y.eval G s.T)→∃ gh',WRel G base s.H gh' w∧FR L nt gh' w a (s.spent y)∧Ext s.H.length gh w gh' w∧Step (fun r=>∃ t,r=.sl t) s.H.length gh w gh' w∧CR gh' s.H.length w p (a.eval x) (y.eval G s.T):=by
  intro h1 h2
  rw[h1]
  exact⟨gh,hW,hF,Ext.refl _ _ _ hfresh,Step.refl _ _ _ _ hfresh,.inl h2⟩
 cases y with
 | tmp t =>
  obtain⟨rfl,ht⟩:=compArg_tmp hc
  have hd:=arg_VR hW hF hc rfl hf
  simp only[IArg.eval] at hf hd stay ⊢
  cases hT:s.T t with
  | slice e own =>
   cases own with
   | false =>
    rw[hT] at hd stay
    exact stay (by simp[AS.spent,hT]) hd
   | true =>
    obtain⟨gh',h1,h2,h3,h4,h5⟩:=own_move hW hF ht hT p hp
    refine⟨gh',h1,?_,h3,h4.mono (fun r h=>⟨t,h⟩),h5⟩
    simpa [AS.spent,hT] using h2
  | _ =>
   rw[hT] at hd stay
   exact stay (by simp[AS.spent,hT]) hd
 | con v =>
  refine stay rfl ?_
  cases x with
  | tmp k =>
   simp only[compArg] at hc
   rcases Bool.eq_false_or_eq_true (Nat.blt k nt) with hb|hb<;>rw[hb] at hc<;>simp at hc
  | const u =>
   simp only[compArg,Option.map_eq_some_iff] at hc
   obtain⟨z,hz,h⟩:=hc
   injection h with h
   subst h
   exact constArg_VR hz
  | global g=>simp[compArg] at hc
  | func f=>simp[compArg] at hc
 | glob g =>
  refine stay rfl ?_
  have:=arg_VR hW hF hc rfl hf
  exact this
 | fn f =>
  refine stay rfl ?_
  have:=arg_VR hW hF hc rfl hf
  exact this
theorem row_same {b:Nat} : ({ S:=fun b' o=>gh.S b' o∨(b'=b∧(fun _=>False) o),κ:=fun b'=>if b'=b then gh.κ b else gh.κ b',ρ:=gh.ρ } : Gh)=gh:=by
 obtain⟨S,κ,ρ⟩:=gh
 congr 1
 ·funext b' o
  simp
 ·funext b'
  by_cases h:b'=b
  ·subst h;simp
  ·simp[h]
theorem row_step0 (hW:WRel G base H gh w) {b:Nat} {C C' : Array Value} {ty:TypeId} {fr:Nat × Nat} (hb:w.heap[b]?=some (.cells C ty fr)) (hsz:C'.size=C.size) (hcell:∀ o,gh.S b o→C'[o]?=C[o]?) (n:Nat) :
  Step (fun r=>r=gh.κ b) n gh w gh (w.setRow b C'):=by
 have h:=row_step hW hb hsz (fun _=>False) hcell (gh.κ b) n
 rw[row_same] at h
 exact h
theorem row_ext0 (hW:WRel G base H gh w) {b:Nat} {C C' : Array Value} {ty:TypeId} {fr:Nat × Nat} (hb:w.heap[b]?=some (.cells C ty fr)) (hsz:C'.size=C.size) (hcell:∀ o,gh.S b o→C'[o]?=C[o]?) (h0:gh.κ b≠.none) (h1:gh.κ b≠.outer) (n:Nat) :
  Ext n gh w gh (w.setRow b C') :=
 ⟨(row_step0 hW hb hsz hcell n).mono (fun r h=>by rw[h];exact⟨h0,h1⟩),fun _ h=>h⟩
def rowPut (C:Array Value) (off:Nat) (D:Array Value):Array Value:=(C.toList.take off++D.toList++C.toList.drop (off+D.toList.length)).toArray
theorem rowPut_get {C D:Array Value} {off:Nat} (h:off+D.size≤C.size) (j:Nat):(rowPut C off D)[j]?=if off≤j∧j<off+D.size then D[j-off]? else C[j]?:=by
 have hmin:min off C.size=off:=by omega
 unfold rowPut
 simp only[List.getElem?_toArray,List.getElem?_append,List.length_append,List.length_take,List.getElem?_take,List.getElem?_drop,Array.length_toList,Array.getElem?_toList,hmin]
 by_cases h1:j<off
 ·have e1:j<off+D.size:=by omega
  rw[if_pos e1,if_pos h1,if_pos h1,if_neg (by omega)]
 ·by_cases h2:j<off+D.size
  ·rw[if_pos h2,if_neg h1,if_pos ⟨by omega,h2⟩]
  ·rw[if_neg h2,if_neg (by omega)]
   congr 1;omega
theorem rowPut_size {C D:Array Value} {off:Nat} (h:off+D.size≤C.size):(rowPut C off D).size=C.size:=by
 unfold rowPut;simp;omega
theorem run_storeAt {t:TypeId} {sz:Nat} (hs:sizeT P t=some sz) {b off:Nat} {C:Array Value} {ty:TypeId} (hb:w.heap[b]?=some (.cells C ty (0,0))) {v:Value} (hv:v.cells.size=sz) (hfit:off+sz≤C.size) (hone:∀ u∈v.cells.toList,u.oneCell'=true) :
  (Instr.storeAt t (.pointer (some ⟨b,off,none⟩)) v).run P w=.ok () (w.setRow b (rowPut C off v.cells)):=by
 have h:=run_storeCells_at P b off ty v.cells.toList 0 C w hb (by simp;omega) hone
 simp only[Nat.add_zero] at h
 simp[Instr.storeAt,Instr.sureAddr,storeVar,run_sizeOf' hs,hv,h,rowPut]
theorem box_write (hW:WRel G base H gh w) {b:Nat} {p:Owner} {q:Nat→Owner} {n:Nat} {cs vs:List AV} (hB:BoxAt gh n w b p q cs) {off sz:Nat} {t:TypeId} (hs:sizeT P t=some sz) {v:Value} (hvs:vs.length=sz) (hoff:off+sz≤cs.length)
  (hv:v.cells.size=sz) (hrel:∀ (j:Nat) (u:Value) (x:AV),v.cells[j]?=some u→vs[j]?=some x→u.oneCell'=true∧CR gh n w (q (off+j)) u x) (hq:∀ j,q j≠p) (hp:p≠.none∧p≠.outer) (m:Nat) :
  ∃ w',(Instr.storeAt t (.pointer (some ⟨b,off,none⟩)) v).run P w=.ok () w'∧Step (fun r=>r=p) m gh w gh w'∧Ext m gh w gh w'∧w'.heap.size=w.heap.size∧BoxAt gh n w' b p q (putAt cs off vs):=by
 obtain⟨hκ,hS,C,ty,hb,hC,hcs⟩:=hB
 have hno:∀ o,gh.S b o→(rowPut C off v.cells)[o]?=C[o]?:=fun o ho=>(hS o ho).elim
 have hrs:(rowPut C off v.cells).size=C.size:=rowPut_size (by omega)
 have st:=row_step0 hW hb hrs hno m
 have stn:=row_step0 hW hb hrs hno n
 have hE:=row_ext0 hW hb hrs hno (by rw[hκ];exact hp.1) (by rw[hκ];exact hp.2) m
 rw[hκ] at st stn
 have hfit:off+v.cells.size≤C.size:=by omega
 refine⟨_,run_storeAt hs hb hv (by omega) ?_,st,hE,by simp,hκ,hS,_,ty,setRow_heap w b C _ ty _ hb,by rw[rowPut_size hfit,putAt_len (by omega)];exact hC,fun j u x hju hjx=>?_⟩
 ·intro u hu
  obtain⟨j,hj⟩:=List.getElem?_of_mem hu
  have hj' : v.cells[j]?=some u:=by simpa using hj
  have hlt:j<vs.length:=by rw[hvs,← hv];exact (Array.getElem?_eq_some_iff.1 hj').1
  exact (hrel j u _ hj' (List.getElem?_eq_getElem hlt)).1
 ·rw[rowPut_get hfit] at hju
  rw[putAt_get (by omega)] at hjx
  have e1:v.cells.size=vs.length:=by omega
  rw[e1] at hju
  split at hju
  ·rename_i hc
   rw[if_pos hc] at hjx
   obtain⟨k1,k2⟩:=hrel _ u x hju hjx
   rw[show off+(j-off)=j by omega] at k2
   exact⟨k1,k2.mono stn (Nat.le_refl _) (hq j)⟩
  ·rename_i hc
   rw[if_neg hc] at hjx
   obtain⟨k1,k2⟩:=hcs j u x hju hjx
   exact⟨k1,k2.mono stn (Nat.le_refl _) (hq j)⟩
theorem cells_CR {n:Nat} {v:Value} {x:AV} {vs:List AV} {q:Nat→Owner} {off:Nat} (h:CR gh n w (q off) v x) (hc:x.cells=some vs) :
  v.cells.size=vs.length∧∀ (j:Nat) (u:Value) (y:AV),v.cells[j]?=some u→vs[j]?=some y→u.oneCell'=true∧CR gh n w (q (off+j)) u y:=by
 rcases h with h|⟨e,rfl,hPR,hO⟩
 ·have hr:=cells_rel h hc
  exact⟨hr.1,fun j u y hu hy=>⟨(hr.2 j u y hu hy).2,.inl (hr.2 j u y hu hy).1⟩⟩
 ·have e1:vs=[.slice e true]:=by simpa [AV.cells] using hc.symm
  subst e1
  have hone:=hPR.oneCell
  have:v.cells=#[v]:=by obtain⟨b,cap,_,_,_,_,_,rfl,_⟩:=hO;rfl
  rw[this]
  refine⟨rfl,fun j u y hu hy=>?_⟩
  cases j with
  | zero=>simp at hu hy;subst hu hy;exact⟨hone,.inr ⟨e,rfl,hPR,hO⟩⟩
  | succ j=>simp at hu
theorem frameCell_of_cells {x:AV} {vs:List AV} (h:x.cells=some vs):frameCell x=true:=by cases x<;>first|rfl|cases h
theorem spent_H (s:AS) (y:IArg):(s.spent y).H=s.H∧(s.spent y).gen=s.gen∧(s.spent y).lo=s.lo:=by
 cases y with
 | tmp t=>simp only[AS.spent];split<;>exact⟨rfl,rfl,rfl⟩
 | _=>exact⟨rfl,rfl,rfl⟩
theorem spent_T (s:AS) (y:IArg) (b:Nat) (h:∀ e,s.T b≠.slice e true):(s.spent y).T b=s.T b:=by
 cases y<;>simp only[AS.spent]
 rename_i t
 split
 ·rename_i e hT
  by_cases hb:b=t
  ·subst hb;exact absurd hT (h e)
  ·simp[AS.setT,put_T,hb]
 ·rfl
theorem spent_not (s:AS) (t:Nat) (h:∀ e,s.T t≠.slice e true):s.spent (.tmp t)=s:=by
 simp only[AS.spent]
theorem spent_own (s:AS) (t:Nat) {e:List (List AV)} (h:s.T t=.slice e true):s.spent (.tmp t)=s.setT t (.slice e false):=by
 simp only[AS.spent,h]
theorem spent_setT (s:AS) (y:IArg) (b:Nat) (X:AV) (h:∀ e,s.T b≠.slice e true) (hX:∀ e,X≠.slice e true):(s.setT b X).spent y=(s.spent y).setT b X:=by
 cases y<;>try rfl
 rename_i t
 by_cases hb:t=b
 ·subst hb
  rw[spent_not s t h,spent_not _ t (by simpa [AS.setT,put_T] using hX)]
 ·have e1:(s.setT b X).T t=s.T t:=by simp[AS.setT,put_T,hb]
  by_cases ho:∃ e,s.T t=.slice e true
  ·obtain⟨e,ho⟩:=ho
   rw[spent_own s t ho,spent_own (s.setT b X) t (by rw[e1,ho])]
   simp only[AS.setT]
   congr 1
   funext k
   simp only[put_T]
   by_cases h1:k=t
   ·subst h1;simp[hb]
   ·by_cases h2:k=b
    ·subst h2;simp[h1]
    ·simp[h1,h2]
  ·have ho' : ∀ e,s.T t≠.slice e true:=fun e he=>ho ⟨e,he⟩
   rw[spent_not s t ho',spent_not (s.setT b X) t (by rw[e1];exact ho')]
theorem spent_chg (s:AS) (y:IArg) (c:Chg):(s.chg c).spent y=(s.spent y).chg c:=by
 cases y<;>simp only[AS.spent]
 rename_i t
 show (match s.T t with|.slice e true=>(s.chg c).setT t (.slice e false)|_=>s.chg c)=_
 cases hT:s.T t<;>try rfl
 rename_i e own
 cases own<;>rfl
theorem Out.skip {gh' : Gh} {s1:AS} {d:Option Nat} (hW:WRel G base s1.H gh' w') (hF:FR L nt gh' w' a s1) (hE:Ext s.H.length gh w gh' w') (hd:∀ k,d=some k→k<nt):Out G base nt L gh w a s d .undef s1 undef gh' w' :=
 Out.of (gen':=s1.gen) hW hF hE (Nat.le_refl _) hd (.inl rfl) (fun k hk=>.inl VR.undef)
theorem putAt_all {cs vs:List AV} {off:Nat} {f:AV→Bool} (h1:cs.all f=true) (h2:vs.all f=true):(putAt cs off vs).all f=true:=by
 refine List.all_eq_true.2 fun x hx=>?_
 unfold putAt at hx
 rcases List.mem_append.1 hx with hx|hx
 ·rcases List.mem_append.1 hx with hx|hx
  ·exact List.all_eq_true.1 h1 x (List.mem_of_mem_take hx)
  ·exact List.all_eq_true.1 h2 x hx
 ·exact List.all_eq_true.1 h1 x (List.mem_of_mem_drop hx)
theorem ev_store (hW:WRel G base s.H gh w) (hF:FR L nt gh w a s) {o:Oper} {t:TypeId} {xa xv:Operand} {ya yv:IArg} {sz:Nat} {s' : AS} (ho:o.op=.store t xa xv) (hca:compArg nt xa=some ya) (hcv:compArg nt xv=some yv) (hs:sizeT P t=some sz)
  (he:storeAV s sz (ya.addr G s.T) (yv.eval G s.T)=some s') (hd:∀ k,o.dst=some k→k<nt) :
  ∃ v' gh' w',Ran P a o w v' w'∧Out G base nt L gh w a s o.dst .undef (s'.spent yv) v' gh' w':=by
 have ha:=arg_val hW hF hca
 unfold storeAV at he
 split at he
 ·cases he
 rename_i vs hvs
 obtain⟨hlen,he⟩:=cond_some he
 have hlen:vs.length=sz:=by simpa [nbeq] using hlen
 have hfr:=frameCell_of_cells hvs
 generalize hY:ya.addr G s.T=Y at ha he
 cases Y<;>simp only at he<;>try (cases he;done)
 case ref loc off =>
  obtain⟨hlt,hax⟩:=VR.inv_ref (ha:VR gh s.H.length w (a.eval xa) (.ref loc off))
  split at he
  ·rename_i ty0 cs hH
   obtain⟨h0,he⟩:=cond_some he
   injection he with he
   subst he
   simp only[Bool.and_eq_true,Nat.ble_eq] at h0
   obtain⟨gh1,hW1,hF1,hE1,st1,hCR⟩:=arg_spent hW hF hcv hfr (.hs loc off) (by simp)
   have hρ:gh1.ρ loc=gh.ρ loc:=st1.ρ loc hlt
   obtain⟨hsz,hrel⟩:=cells_CR (q:=fun j=>.hs loc j) hCR hvs
   obtain⟨w',hrun,st2,hE2,hsize,hB⟩:=box_write (P:=P) hW1 (hW1.boxes loc _ cs hH) hs hlen h0.1 (by omega) hrel (by simp) (by simp) s.H.length
   have hW2:WRel G base (s.H.set loc (.box ty0 (putAt cs off vs))) gh1 w':=hW1.setBox st2 hH (by intro l hl;simp[hl]) (fun b o ho=>by rw[hsize];exact hW1.sLt b o ho) (fun b hb=>by rw[hsize];exact hW1.kLt b hb) hB (putAt_all (hW1.refs loc _ cs hH) h0.2) (fun _ _ h=>h) (putAt_len (by omega))
   have hS:=spent_H s yv
   have hF2:FR L nt gh1 w' a ((s.spent yv).chg ⟨s.H.set loc (.box ty0 (putAt cs off vs)),loc⟩):=hF1.grown (by rw[hS.1];exact st2) (fun i=>⟨by simp,by simp,by simp⟩) (by rw[hS.1];simp)
   refine⟨undef,gh1,w',.inr ⟨?_,rfl⟩,?_⟩
   ·simp[execOp,ho,hax,← hρ,hrun]
   ·rw[spent_chg]
    exact Out.skip (s1:=(s.spent yv).chg ⟨s.H.set loc (.box ty0 (putAt cs off vs)),loc⟩) hW2 hF2 (hE1.trans hE2 (Nat.le_refl _)) hd
  ·rename_i cs hH
   obtain⟨h0,he⟩:=cond_some he
   injection he with he
   subst he
   simp only[Bool.and_eq_true,Nat.ble_eq] at h0
   obtain⟨gh1,hW1,hF1,hE1,st1,hCR⟩:=arg_spent hW hF hcv hfr (.hs loc off) (by simp)
   have hρ:gh1.ρ loc=gh.ρ loc:=st1.ρ loc hlt
   obtain⟨hsz,hrel⟩:=cells_CR (q:=fun j=>.hs loc j) hCR hvs
   obtain⟨w',hrun,st2,hE2,hsize,hB⟩:=box_write (P:=P) hW1 (hW1.more loc _ hH:BoxAt gh1 s.H.length w (gh1.ρ loc) (.hb loc) (fun j=>.hs loc j) cs) hs hlen h0.1 (by omega) hrel (by simp) (by simp) s.H.length
   have hW2:WRel G base (s.H.set loc (.obox (putAt cs off vs))) gh1 w':=hW1.setMore st2 hlt (by intro l hl;simp[hl]) (fun b o ho=>by rw[hsize];exact hW1.sLt b o ho) (fun b hb=>by rw[hsize];exact hW1.kLt b hb) (fun _ _ h=>by cases h) hB (fun _ _ _ h=>.inl h)
   have hS:=spent_H s yv
   have hF2:FR L nt gh1 w' a ((s.spent yv).chg ⟨s.H.set loc (.obox (putAt cs off vs)),loc⟩):=hF1.grown (by rw[hS.1];exact st2) (fun i=>⟨by simp,by simp,by simp⟩) (by rw[hS.1];simp)
   refine⟨undef,gh1,w',.inr ⟨?_,rfl⟩,?_⟩
   ·simp[execOp,ho,hax,← hρ,hrun]
   ·rw[spent_chg]
    exact Out.skip (s1:=(s.spent yv).chg ⟨s.H.set loc (.obox (putAt cs off vs)),loc⟩) hW2 hF2 (hE1.trans hE2 (Nat.le_refl _)) hd
  ·cases he
 case lref b g off =>
  obtain⟨hb,hg0,hr⟩:=(ha:_∧_∧_)
  split at he
  ·rename_i g' cs hT
   obtain⟨h0,he⟩:=cond_some he
   injection he with he
   subst he
   simp only[Bool.and_eq_true,Nat.ble_eq,nbeq,decide_eq_true_eq] at h0
   obtain⟨⟨rfl,h0⟩,_⟩:=h0
   obtain⟨k,hk,_⟩:=sr_lbox hF hb hT
   have hax:=hr (by rw[hT];rfl) k hk
   obtain⟨gh1,hW1,hF1,hE1,st1,hCR⟩:=arg_spent hW hF hcv hfr (.sc b off) (by simp)
   have hS:=spent_H s yv
   have hT1:(s.spent yv).T b=.lbox g cs:=by rw[spent_T _ _ _ (by rw[hT];simp),hT]
   obtain⟨k',hk',hB1⟩:=sr_lbox hF1 hb hT1
   have hkk:k'=k:=by rw[hk] at hk';injection hk' with h;injection h with h;injection h with h;exact h.symm
   subst hkk
   rw[hS.1] at hB1
   obtain⟨hsz,hrel⟩:=cells_CR (q:=fun j=>.sc b j) hCR hvs
   obtain⟨w',hrun,st2,hE2,hsize,hB⟩:=box_write (P:=P) hW1 hB1 hs hlen h0 (by omega) hrel (by simp) (by simp) s.H.length
   have hW2:WRel G base s.H gh1 w':=hW1.step st2 (by simp) (fun b o ho=>by rw[hsize];exact hW1.sLt b o ho) (fun b hb=>by rw[hsize];exact hW1.kLt b hb) (fun _ _ _ h=>.inl h)
   have hF2:FR L nt gh1 w' a ((s.spent yv).setT b (.lbox g (putAt cs off vs))):=by
    refine hF1.setT (H':=(s.spent yv).H) (lo':=(s.spent yv).lo) (by rw[hS.1];exact st2) (Nat.le_refl _) (fun i hi=>⟨by simpa using hi,by simp,by simp⟩) (.inl ⟨hb,by rw[hT1];rfl⟩) (fun _=>⟨?_,k',hk,?_⟩)
    ·have h:=hF1.slot b hb
     rw[hT1] at h
     exact h.1
    ·rw[hS.1];exact hB
   refine⟨undef,gh1,w',.inr ⟨?_,rfl⟩,?_⟩
   ·simp[execOp,ho,hax,hrun]
   ·rw[spent_setT _ _ _ _ (by rw[hT];simp) (by simp)]
    exact Out.skip (s1:=(s.spent yv).setT b (.lbox g (putAt cs off vs))) (by show WRel G base (s.spent yv).H gh1 w';rw[hS.1];exact hW2) hF2 (hE1.trans hE2 (Nat.le_refl _)) hd
  ·cases he
 case eref b g i z off =>
  obtain⟨hb,hg0,hr⟩:=(ha:_∧_∧_)
  split at he
  ·rename_i g' e hT
   obtain⟨h0,he1⟩:=cond_some he
   have hgg:g=g':=by simpa [nbeq] using h0
   clear he
   subst hgg
   simp only[Option.bind_eq_some_iff] at he1
   obtain⟨r,hri,he2⟩:=he1
   obtain⟨h1,he3⟩:=cond_some he2
   injection he3 with he3
   subst he3
   simp only[Bool.and_eq_true,Nat.ble_eq,nbeq,decide_eq_true_eq] at h1
   obtain⟨⟨hrz,hoff⟩,hpl⟩:=h1
   obtain⟨gh1,hW1,hF1,hE1,st1,hCR⟩:=arg_spent hW hF hcv hfr .none (by simp)
   have hS:=spent_H s yv
   have hT1:(s.spent yv).T b=.lsl g e:=by rw[spent_T _ _ _ (by rw[hT];simp),hT]
   obtain⟨ad,cap,hval,hrow⟩:=sr_lsl hF1 hb hT1
   rcases hrow with ⟨rfl,_⟩|⟨k,C,ty,sz',hne0,rfl,hκ,hS1,hkb,hC,hl,hrl,hcs⟩
   ·simp at hri
   have hax:=hr (by rw[hT];rfl) k _ _ hval
   have hz' : sz'=z:=by rw[← hrz,hrl i r hri]
   subst hz'
   have hilt:i<e.length:=(List.getElem?_eq_some_iff.1 hri).1
   obtain⟨hsz,hrel⟩:=cells_CR (q:=fun _=>.none) (off:=0) hCR hvs
   have hrelP:∀ (j:Nat) (x:AV),(vs.map AV.drop)[j]?=some x→∃ u,(a.eval xv).cells[j]?=some u∧PR gh1.S w u x:=by
    intro j x hx
    simp only[List.getElem?_map,Option.map_eq_some_iff] at hx
    obtain⟨y,hy,rfl⟩:=hx
    have hj:j<(a.eval xv).cells.size:=by rw[hsz];exact (List.getElem?_eq_some_iff.1 hy).1
    have hu:=Array.getElem?_eq_getElem hj
    refine⟨_,hu,(hrel j _ y hu hy).2.dropped.plain_PR (List.all_eq_true.1 hpl _ (List.mem_map.2 ⟨y,List.mem_of_getElem? hy,rfl⟩))⟩
   have hfit:i*sz' + off+(a.eval xv).cells.size≤C.size:=by
    have h2:(i+1)*sz'≤e.length*sz':=Nat.mul_le_mul_right _ hilt
    have h3:e.length*sz'≤cap*sz':=Nat.mul_le_mul_right _ hl
    rw[Nat.add_mul] at h2
    omega
   have hno:∀ o,gh1.S k o→(rowPut C (i*sz' + off) (a.eval xv).cells)[o]?=C[o]?:=fun o ho=>(hS1 o ho).elim
   have st2:=row_step0 hW1 hkb (rowPut_size hfit) hno s.H.length
   have hE2:=row_ext0 hW1 hkb (rowPut_size hfit) hno (by rw[hκ];simp) (by rw[hκ];simp) s.H.length
   rw[hκ] at st2
   have hrun:=run_storeAt (P:=P) (w:=w) (off:=i*sz' + off) hs hkb (v:=a.eval xv) (by omega) (by omega) (fun u hu=>by
    obtain⟨j,hj⟩:=List.getElem?_of_mem hu
    have hj' : (a.eval xv).cells[j]?=some u:=by simpa using hj
    have hlt:j<vs.length:=by rw[← hsz];exact (Array.getElem?_eq_some_iff.1 hj').1
    exact (hrel j u _ hj' (List.getElem?_eq_getElem hlt)).1)
   have hW2:WRel G base s.H gh1 (w.setRow k (rowPut C (i*sz' + off) (a.eval xv).cells)):=hW1.step st2 (by simp) (fun b o ho=>by simpa using hW1.sLt b o ho) (fun b hb=>by simpa using hW1.kLt b hb) (fun _ _ _ h=>.inl h)
   have hds:off+(vs.map AV.drop).length≤r.length:=by simp;omega
   have hF2:FR L nt gh1 (w.setRow k (rowPut C (i*sz' + off) (a.eval xv).cells)) a ((s.spent yv).setT b (.lsl g (e.set i (putAt r off (vs.map AV.drop))))):=by
    refine hF1.setT (H':=(s.spent yv).H) (lo':=(s.spent yv).lo) (by rw[hS.1];exact st2) (Nat.le_refl _) (fun i hi=>⟨by simpa using hi,by simp,by simp⟩) (.inl ⟨hb,by rw[hT1];rfl⟩) (fun _=>⟨?_,?_⟩)
    ·have h:=hF1.slot b hb
     rw[hT1] at h
     exact h.1
    ·refine⟨some ⟨k,0,none⟩,cap,by simpa using hval,.inr ⟨k,_,ty,sz',(by intro h0;have:=congrArg List.length h0;simp at this;exact hne0 this),rfl,hκ,hS1,setRow_heap w k C _ ty _ hkb,by rw[rowPut_size hfit,hC],by simpa using hl,?_,?_⟩⟩
     ·intro i' r' hr'
      rw[List.getElem?_set] at hr'
      split at hr'
      ·rename_i hii
       injection hr' with hr'
       subst hr'
       rw[putAt_len hds];exact hrz
      ·exact hrl i' r' hr'
     ·intro i' j r' x hr' hj
      rw[rowPut_get hfit]
      rw[List.getElem?_set] at hr'
      split at hr'
      ·rename_i hii
       subst hii
       injection hr' with hr'
       subst hr'
       rw[putAt_get hds] at hj
       have hl' : (vs.map AV.drop).length=(a.eval xv).cells.size:=by simp[hsz]
       rw[hl'] at hj
       by_cases hc:off≤j∧j<off+(a.eval xv).cells.size
       ·rw[if_pos hc] at hj
        rw[if_pos (by omega)]
        obtain⟨u,hu,hp⟩:=hrelP _ x hj
        refine⟨u,?_,hp.mono st2.S st2.cell st2.mp⟩
        rw[show i*sz' + j-(i*sz' + off)=j-off by omega];exact hu
       ·rw[if_neg hc] at hj
        rw[if_neg (by omega)]
        obtain⟨u,hu,hp⟩:=hcs i j r x hri hj
        exact⟨u,hu,hp.mono st2.S st2.cell st2.mp⟩
      ·rename_i hii
       have hjl:j<sz':=by rw[← hrl i' r' hr'];exact (List.getElem?_eq_some_iff.1 hj).1
       have hne:¬ (i*sz' + off≤i' * sz' + j∧i' * sz' + j<i*sz' + off+(a.eval xv).cells.size):=by
        rintro ⟨c1,c2⟩
        have:i=i':=by
         rcases Nat.lt_trichotomy i i' with h'|h'|h'
         ·have:(i+1)*sz'≤i' * sz':=Nat.mul_le_mul_right _ h'
          rw[Nat.add_mul] at this;omega
         ·exact h'
         ·have:(i' + 1)*sz'≤i*sz':=Nat.mul_le_mul_right _ h'
          rw[Nat.add_mul] at this;omega
        exact hii this
       rw[if_neg hne]
       obtain⟨u,hu,hp⟩:=hcs i' j r' x hr' hj
       exact⟨u,hu,hp.mono st2.S st2.cell st2.mp⟩
   refine⟨undef,gh1,w.setRow k (rowPut C (i*sz' + off) (a.eval xv).cells),.inr ⟨?_,rfl⟩,?_⟩
   ·simp[execOp,ho,hax,hrun]
   ·rw[spent_setT _ _ _ _ (by rw[hT];simp) (by simp)]
    exact Out.skip (s1:=(s.spent yv).setT b (.lsl g (e.set i (putAt r off (vs.map AV.drop))))) (by show WRel G base (s.spent yv).H gh1 _;rw[hS.1];exact hW2) hF2 (hE1.trans hE2 (Nat.le_refl _)) hd
  ·cases he
end
end Go.Abs
end
