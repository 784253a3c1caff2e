/-
  A part of the proof of PrintKept: AbsOps11, AbsOps12, AbsCall, AbsMap1.
-/
import Derived.Deep.Upon
import Derived.Lib.FrozenHead
import Derived.Test.YtaedakihpnghjaaGreatDoorP04
set_option linter.unusedSimpArgs false
set_option linter.unusedVariables false
section
namespace Go.Abs
set_option linter.unusedSimpArgs false
set_option linter.unusedVariables false
section
variable {P:Program} {G:Nat→List AV} {base nt:Nat} {L:List Nat} {gh:Gh} {w w' : World} {a:Act} {s:AS} {H:AHeap}
theorem headOk_row {sz:Nat} {f:List (List AV)} (h:headOk sz f=true) {r:List AV} (hr:f[0]?=some r):r.length=sz:=by
 unfold headOk at h
 cases f with
 | nil=>simp at hr
 | cons q f=>simp at hr;subst hr;simpa [nbeq] using h
theorem width_eq {sz sz' : Nat} {f:List (List AV)} (h:headOk sz f=true) (hrow:∀ (i:Nat) (r:List AV),f[i]?=some r→r.length=sz') (hne:f≠[]):sz'=sz:=by
 cases f with
 | nil=>exact absurd rfl hne
 | cons q f=>rw[← hrow 0 q rfl];exact headOk_row h rfl
theorem src_slice {S:Nat→Nat→Prop} {V:Value} {f:List (List AV)} {sz:Nat} {tx:TypeId} (h:PR S w V (.slice f false)) (hk:(∃ e',P.underlying tx=some (.slice e'))∨P.underlying tx=some .string) (hh:headOk sz f=true) :
  ∃ news:List Value,Src P sz tx V f.length news w∧RowsP S w sz news.toArray f ∧
   ((V=.slice none 0 0∧f=[])∨∃ b o cap,V=.slice (some ⟨b,o,none⟩) f.length cap∧f.length≤cap∧∀ j,j<f.length*sz→S b (o+j)∧w.cell? ⟨b,o+j,none⟩=news[j]?):=by
 cases h with
 | sliceNil=>exact⟨[],⟨hk,fun _=>rfl,run_firstCells_none w sz 0 0 0,run_firstCells_none w.drew sz 0 0 0,by simp,fun _ h=>by cases h⟩,⟨by simp,fun i r h=>by simp at h,fun i j r x h=>by simp at h⟩,.inl ⟨rfl,rfl⟩⟩
 | slice b o n cap sz' _ fn hn hcap hrow hcell hrel =>
  subst hn
  have hsz:f≠[]→sz'=sz:=fun hne=>width_eq hh hrow hne
  let news:List Value:=(List.range (f.length*sz)).map fun k=>(w.cell? ⟨b,o+k,none⟩).getD undef
  have hlen:news.length=f.length*sz:=by simp[news]
  have key:∀ k,k<f.length*sz→∃ u,news[k]?=some u∧w.cell? ⟨b,o+k,none⟩=some u∧u.oneCell'=true∧S b (o+k)∧∀ r x,f[k / sz]?=some r→r[k % sz]?=some x→PR S w u x:=by
   intro k hk
   obtain⟨h1,h2,h3⟩:=split_index hk
   have hne:f≠[]:=by rintro rfl;simp at h1
   have hr:=List.getElem?_eq_getElem h1
   have hlr:f[k / sz].length=sz:=by rw[hrow _ _ hr,hsz hne]
   have hx:=List.getElem?_eq_getElem (show k % sz<f[k / sz].length by omega)
   obtain⟨c1,c2,c3⟩:=hcell _ _ _ _ hr hx
   rw[hsz hne,Nat.add_assoc,h3] at c1 c2
   refine⟨fn (k / sz) (k % sz),?_,c2,c3,c1,fun r x hr' hx'=>hrel _ _ _ _ hr' hx'⟩
   simp only[news,List.getElem?_map,List.getElem?_range hk,Option.map_some,c2,Option.getD_some]
  have hnews:∀ j u,news[j]?=some u→w.cell? ((⟨b,o,none⟩:Addr).add j)=some u:=by
   intro j u hj
   have hlt:j<f.length*sz:=by rw[← hlen];exact (List.getElem?_eq_some_iff.1 hj).1
   obtain⟨u',h1,h2,_⟩:=key j hlt
   rw[h1] at hj;injection hj with hj;subst hj
   rw[addr_add];exact h2
  refine⟨news,⟨hk,fun _=>rfl,run_firstCells_some w sz _ ⟨b,o,none⟩ f.length cap news hlen hnews,run_firstCells_some w.drew sz _ ⟨b,o,none⟩ f.length cap news hlen (by simpa using hnews),hlen,fun u hu=>?_⟩,⟨by simp[hlen],fun i r hr=>?_,fun i j r x hi hj=>?_⟩,.inr ⟨b,o,cap,rfl,hcap,fun j hj=>?_⟩⟩
  ·obtain⟨j,hj⟩:=List.getElem?_of_mem hu
   have hlt:j<f.length*sz:=by rw[← hlen];exact (List.getElem?_eq_some_iff.1 hj).1
   obtain⟨u',h1,_,h3,_⟩:=key j hlt
   rw[h1] at hj;injection hj with hj;subst hj
   exact h3
  ·rw[hrow i r hr,hsz (by rintro rfl;simp at hr)]
  ·have hne:f≠[]:=by rintro rfl;simp at hi
   have hil:=(List.getElem?_eq_some_iff.1 hi).1
   have hjl:j<sz:=by rw[← hsz hne,← hrow i r hi];exact (List.getElem?_eq_some_iff.1 hj).1
   obtain⟨u,h1,_,_,_,h5⟩:=key (i*sz+j) (mul_lt hil hjl)
   refine⟨u,by simpa using h1,h5 r x ?_ ?_⟩
   ·rw[Nat.mul_comm,Nat.mul_add_div (by omega),Nat.div_eq_of_lt hjl];simpa using hi
   ·rw[Nat.mul_comm,Nat.mul_add_mod,Nat.mod_eq_of_lt hjl];exact hj
  ·obtain⟨u,h1,h2,_,h4,_⟩:=key j hj
   exact⟨h4,by rw[h2,h1]⟩
theorem src_str {S:Nat→Nat→Prop} {q:ByteArray} {l:List UInt8} (hq:q.data.toList=l) {tx:TypeId} (hk:(∃ e',P.underlying tx=some (.slice e'))∨P.underlying tx=some .string) :
  ∃ news:List Value,Src P 1 tx (.string q) l.length news w∧RowsP S w 1 news.toArray (l.map fun (b:UInt8)=>[AV.int .u8 b.toNat]):=by
 subst hq
 have hl:q.data.toList.length=q.size:=by simp
 refine⟨byteCells q,?_,by simp[byteCells],fun i r hr=>?_,fun i j r x hi hj=>?_⟩
 ·rw[hl]
  exact⟨hk,fun _=>rfl,firstCells_string q w,firstCells_string q w.drew,by rw[byteCells_length,Nat.mul_one],fun u hu=>by
   obtain⟨_,_,rfl⟩:=List.mem_map.1 hu
   rfl⟩
 ·simp only[List.getElem?_map,Option.map_eq_some_iff] at hr
  obtain⟨y,_,rfl⟩:=hr
  rfl
 ·simp only[List.getElem?_map,Option.map_eq_some_iff] at hi
  obtain⟨y,hy,rfl⟩:=hi
  cases j with
  | succ j=>simp at hj
  | zero =>
   simp only[List.getElem?_cons_zero,Option.some.injEq] at hj
   subst hj
   refine⟨.int .u8 y.toNat,?_,.int _ _⟩
   simp only[byteCells,List.getElem?_toArray,List.getElem?_map,Nat.mul_one,Nat.add_zero,hy,Option.map_some]
theorem RowsP.append {S:Nat→Nat→Prop} {sz:Nat} {A B:List Value} {E F:List (List AV)} (h1:RowsP S w sz A.toArray E) (h2:RowsP S w sz B.toArray F):RowsP S w sz (A++B).toArray (E++F):=by
 have hA:A.length=E.length*sz:=by simpa using h1.1
 have hB:B.length=F.length*sz:=by simpa using h2.1
 refine⟨by simp[hA,hB,Nat.add_mul],fun i r hi=>?_,fun i j r x hi hj=>?_⟩
 ·rw[List.getElem?_append] at hi
  split at hi
  ·exact h1.2.1 i r hi
  ·exact h2.2.1 _ r hi
 ·rw[List.getElem?_append] at hi
  split at hi
  ·obtain⟨v,hv,hp⟩:=h1.2.2 i j r x hi hj
   have:i*sz+j<A.length:=by have:=(Array.getElem?_eq_some_iff.1 hv).1;simpa using this
   refine⟨v,?_,hp⟩
   simp only[List.getElem?_toArray] at hv ⊢
   rw[List.getElem?_append_left this];exact hv
  ·rename_i hge
   obtain⟨v,hv,hp⟩:=h2.2.2 _ j r x hi hj
   refine⟨v,?_,hp⟩
   simp only[List.getElem?_toArray] at hv ⊢
   have e1:i*sz=E.length*sz+(i-E.length)*sz:=by rw[← Nat.add_mul];congr 1;omega
   rw[List.getElem?_append_right (by rw[hA,e1];omega),hA,e1]
   rw[show E.length*sz+(i-E.length)*sz+j-E.length*sz=(i-E.length)*sz+j by omega];exact hv
theorem RowsP.toPR {S S' : Nat→Nat→Prop} {sz:Nat} {A C' : Array Value} {E:List (List AV)} {b:Nat} {ty:TypeId} {fr:Nat × Nat} (h:RowsP S w sz A E) (hS:∀ b o,S b o→S' b o) (hc:∀ b o,S b o→w'.cell? ⟨b,o,none⟩=w.cell? ⟨b,o,none⟩) (hm:∀ b E ck,S b 0→w.heap[b]?=some (.map E ck)→w'.heap[b]?=some (.map E ck))
  (hb:w'.heap[b]?=some (.cells C' ty fr)) (hA:∀ j,j<A.size→C'[j]?=A[j]?) (hq:∀ j,j<E.length*sz→S' b j) (cap:Nat) (hcap:E.length≤cap):PR S' w' (.slice (some ⟨b,0,none⟩) E.length cap) (.slice E false):=by
 have key:∀ (i j:Nat) (r:List AV) (x:AV),E[i]?=some r→r[j]?=some x→∃ v,A[i*sz+j]?=some v∧PR S w v x∧i*sz+j<A.size∧A.getD (i*sz+j) undef=v:=by
  intro i j r x hi hj
  obtain⟨v,hv,hpr⟩:=h.2.2 i j r x hi hj
  have hlt:=(Array.getElem?_eq_some_iff.1 hv).1
  refine⟨v,hv,hpr,hlt,?_⟩
  rw[Array.getElem?_eq_getElem hlt] at hv
  injection hv with hv
  simp[hlt,hv]
 refine .slice b 0 E.length cap sz E (fun i j=>A.getD (i*sz+j) undef) rfl hcap h.2.1 ?_ ?_
 ·intro i j r x hi hj
  obtain⟨v,hv,hpr,hlt,hg⟩:=key i j r x hi hj
  rw[Nat.zero_add,hg]
  refine⟨hq _ (by rw[← h.1];exact hlt),?_,hpr.oneCell⟩
  rw[cell_of_row w' b _ C' ty fr hb,hA _ hlt,hv]
 ·intro i j r x hi hj
  obtain⟨v,hv,hpr,hlt,hg⟩:=key i j r x hi hj
  rw[hg]
  exact hpr.mono hS hc hm
structure ElemT (P:Program) (t e:TypeId) (sz bytes:Nat):Prop where
 ht:P.underlying t=some (.slice e)
 hi:∃ i z,P.info? e=some i∧i.zero=some z∧i.size=sz∧i.bytes=bytes∧z.cells.size=sz
 pos:0<sz
theorem grow {t tx ty e:TypeId} {sz bytes:Nat} (hT:ElemT P t e sz bytes) {ao:Option Addr} {sLen sCap n:Nat} {olds news:List Value} {x:Value} (hold:(Builtin.firstCells sz sLen (.slice ao sLen sCap)).run P w.drew=.ok olds.toArray w.drew)
  (hol:olds.length=sLen*sz) (hs:Src P sz tx x n news w) (hg:sCap<sLen+n) (h63:sLen+n≤70368744177664) (hby:(sLen+n)*bytes≤70368744177664) :
  ∃ cap' C' ,(Builtin.append_ #[t,tx] ty #[.slice ao sLen sCap,x]).run P w=.ok (.slice (some ⟨w.heap.size,0,none⟩) (sLen+n) cap') (w.drew.alloc (.cells C' e))∧sLen+n≤cap'∧C'.size=cap' * sz∧∀ j,j<(olds++news).toArray.size→C'[j]?=(olds++news).toArray[j]?:=by
 obtain⟨i,z,hi,hz,rfl,rfl,hzs⟩:=hT.hi
 have h:=run_append_grow_src (P:=P) w t tx ty e i z hT.ht hi hz ao sLen sCap olds hold x n news hs hg (by omega) (growslice_fits hg (by omega))
 have hcap:=grownCap_ge w (sLen+n) sCap e
 refine⟨_,_,h,hcap,?_,fun j hj=>?_⟩
 ·rw[Array.size_append,size_zeroCells,hzs]
  simp only[List.size_toArray,List.length_append,hol,hs.newsLen]
  rw[← Nat.add_mul,← Nat.add_mul]
  congr 1;omega
 ·rw[Array.getElem?_append_left hj]
theorem room {t tx ty e e2:TypeId} {sz bytes:Nat} (hT:ElemT P t e sz bytes) {b sLen sCap n:Nat} {news:List Value} {x:Value} {C:Array Value} {fr:Nat × Nat} (hs:Src P sz tx x n news w) (hb:w.heap[b]?=some (.cells C e2 fr)) (hfr:fr.2≤sLen*sz)
  (hroom:sLen+n≤sCap) (hfit:sLen*sz+news.length≤C.size) :
  (Builtin.append_ #[t,tx] ty #[.slice (some ⟨b,0,none⟩) sLen sCap,x]).run P w=.ok (.slice (some ⟨b,0,none⟩) (sLen+n) sCap) (w.setRow b (rowPut C (sLen*sz) news.toArray)):=by
 obtain⟨i,z,hi,hz,rfl,rfl,hzs⟩:=hT.hi
 have hst:=run_storeCells_atF P b (sLen*i.size) e2 fr news 0 C w hb (by simpa using hfr) (by simpa using hfit) hs.one
 simp only[Nat.add_zero] at hst
 rcases hs.kind with ⟨e',hk⟩|hk<;>simp[Builtin.append_,run_underlying hT.ht,run_underlying hk,sizeOf,typeInfo,hi,hs.len,hroom,hs.cells,Addr.add_lit,hst,rowPut]
theorem CR.given (hW:WRel G base s.H gh w) (hF:FR L nt gh w a s) {v:Value} {e:List (List AV)} {own:Bool} (h:CR gh s.H.length w .ret v (.slice e own)) (p:Owner) (hp:p≠.outer) :
  ∃ gh',WRel G base s.H gh' w∧FR L nt gh' w a s∧Ext s.H.length gh w gh' w∧CR gh' s.H.length w p v (.slice e own):=by
 have hfresh:=fun b hb=>hW.not_outer (gh:=gh) b hb
 rcases h with hv|⟨e',heq,hPR,b,cap,C,ty,lo,hi,sz,hval,hk,he,hb,hC,hr,hl,hh,hS⟩
 ·exact⟨gh,hW,hF,Ext.refl _ _ _ hfresh,.inl hv⟩
 ·injection heq with h1 h2
  subst h1 h2
  have hlt:b<w.heap.size:=(Array.getElem?_eq_some_iff.1 hb).1
  have st:=give_step hW hlt p s.H.length
  rw[hk] at st
  have hn:gh.κ b≠.none:=by rw[hk];simp
  exact⟨gh.give b p,give_W hW hlt p hn (by rw[hk];simp),hF.grown (H':=s.H) (lo':=s.lo) st (fun i=>⟨by simp,by simp,by simp⟩) (Nat.le_refl _),give_ext hW hlt hp hn (by rw[hk];simp) _,.inr ⟨e,rfl,hPR,b,cap,C,ty,lo,hi,sz,hval,by simp[Gh.give],he,hb,hC,hr,hl,hh,hS⟩⟩
theorem cells_drew {n:Nat} {tx:TypeId} {sz:Nat} {x:Value} {news:List Value} (h:Src P sz tx x n news w):(Builtin.firstCells sz n x).run P w.drew=.ok news.toArray w.drew:=h.cellsD
theorem append_own (hW:WRel G base s.H gh w) (hF:FR L nt gh w a s) {t tx ty e:TypeId} {sz bytes:Nat} (hT:ElemT P t e sz bytes) {V X:Value} {E F:List (List AV)} {news:List Value}
  (h:CR gh s.H.length w .ret V (.slice E true)) (hs:Src P sz tx X F.length news w) (hrows:RowsP gh.S w sz news.toArray F) (hfit:fitsRows sz bytes E F=true) {isB:Bool} (hok:rowsOK isB (E++F)=true) (hisB:isB=true→e=byteTy) (hne:F≠[]) (p:Owner) (hp:p≠.outer) :
  ∃ v' gh' w',(Builtin.append_ #[t,tx] ty #[V,X]).run P w=.ok v' w'∧WRel G base s.H gh' w'∧FR L nt gh' w' a s∧Ext s.H.length gh w gh' w'∧CR gh' s.H.length w' p v' (.slice (E++F) true):=by
 simp only[fitsRows,Bool.and_eq_true,Nat.ble_eq] at hfit
 obtain⟨⟨⟨hb1,hb2⟩,hE⟩,_⟩:=hfit
 have hFl:0<F.length:=List.length_pos_iff.2 hne
 have hPR:PR gh.S w V (.slice E false):=by
  rcases h with h|⟨e',heq,hPR,_⟩
  ·exact (VR.dropped h).inv_slice
  ·injection heq with h1;subst h1;exact hPR
 obtain⟨olds,hsV,hrV,hshape⟩:=src_slice (P:=P) (tx:=t) (sz:=sz) hPR (.inl ⟨_,hT.ht⟩) hE
 have hol:olds.length=E.length*sz:=hsV.newsLen
 have hall:=hrV.append hrows
 have new:∀ ao cap,V=.slice ao E.length cap→cap<E.length+F.length→∃ v' gh' w',(Builtin.append_ #[t,tx] ty #[V,X]).run P w=.ok v' w'∧WRel G base s.H gh' w'∧FR L nt gh' w' a s∧Ext s.H.length gh w gh' w'∧CR gh' s.H.length w' p v' (.slice (E++F) true):=by
  intro ao cap hV hlt
  subst hV
  obtain⟨cap',C',hrun,hcap,hC',hpre⟩:=grow (P:=P) (ty:=ty) hT (cells_drew hsV) hol hs hlt hb2 hb1
  have hp' : Pushed w (w.drew.alloc (.cells C' e)) (.cells C' e):=.drew w _
  have st:=alloc_step hW hp' hp (fun o=>o<(E++F).length*sz) s.H.length
  have hW':=hW.alloc hp' hp (fun o=>o<(E++F).length*sz) (fun k m hk hc=>by
   rw[cell_of_row _ _ k _ _ _ hp'.new,hpre k (by rw[hall.1];exact hk)] at hc
   have:=rows_bytes hall hok hisB hk hc
   subst this
   exact⟨C',(0,0),hp'.new⟩)
  have hpr:=hall.slice (gh:=gh) rfl hp' (p:=p) hW.sLt hpre (q:=fun o=>o<(E++F).length*sz) (fun j hj=>hj) cap' (by rw[List.length_append];exact hcap)
  refine⟨_,_,_,hrun,hW',hF.grown (H':=s.H) (lo':=s.lo) st (fun i=>⟨id,id,fun _=>id⟩) (Nat.le_refl _),alloc_ext hW hp' hp _ _,.inr ⟨E++F,rfl,?_,?_⟩⟩
  ·have e1:E.length+F.length=(E++F).length:=by rw[List.length_append]
   rw[e1];exact hpr
  ·refine⟨w.heap.size,cap',C',e,0,0,sz,by rw[List.length_append],by simp[Gh.alloc],by simp[hne],hp'.new,hC',hall.2.1,by rw[List.length_append];exact hcap,Nat.zero_le _,?_⟩
   rintro o ho (hs|⟨_,hs⟩)
   ·have:=hW.sLt _ _ hs;omega
   ·omega
 rcases h with h|⟨e',heq,_,b,cap,C,ty',lo,hi,sz',hval,hk,he,hb,hC,hr,hl,hh,hS⟩
 ·cases h with
  | plain _ _ h=>cases h
  | full ao k _ h =>
   have hk:k=E.length:=by cases h with
    | sliceNil=>rfl
    | slice _ _ _ _ _ _ _ hn=>exact hn.symm
   subst hk
   exact new ao E.length rfl (by omega)
 ·injection heq with h1
  subst h1
  by_cases hlt:cap<E.length+F.length
  ·exact new _ cap hval hlt
  ·subst hval
   have hsz:sz'=sz:=width_eq hE hr he
   subst hsz
   have hroom:E.length+F.length≤cap:=by omega
   have hfit:E.length*sz' + news.length≤C.size:=by rw[hs.newsLen,hC,← Nat.add_mul];exact Nat.mul_le_mul_right _ hroom
   have hrun:=room (P:=P) (ty:=ty) hT hs hb hh hroom hfit
   have hfit' : E.length*sz' + news.toArray.size≤C.size:=by simpa using hfit
   have hold:∀ o,gh.S b o→(rowPut C (E.length*sz') news.toArray)[o]?=C[o]?:=by
    intro o ho
    have:o<E.length*sz':=by
     rcases Nat.lt_or_ge o (E.length*sz') with h|h
     ·exact h
     ·exact absurd ho (hS o h)
    rw[rowPut_get hfit',if_neg (by omega)]
   have st:=row_step hW hb (rowPut_size hfit') (fun o=>o<(E++F).length*sz') hold p s.H.length
   have hn:gh.κ b≠.none:=by rw[hk];simp
   have hE':=row_ext hW hb (rowPut_size hfit') (fun o=>o<(E++F).length*sz') hold hp hn (by rw[hk];simp) s.H.length
   have hprefix:∀ j,j<(olds++news).toArray.size→(rowPut C (E.length*sz') news.toArray)[j]?=(olds++news).toArray[j]?:=by
    intro j hj
    have hnl0:news.length=F.length*sz':=hs.newsLen
    simp only[List.size_toArray,List.length_append] at hj
    rw[rowPut_get hfit']
    simp only[List.getElem?_toArray,List.size_toArray]
    rw[List.getElem?_append]
    split
    ·rw[if_neg (by omega),hol]
    ·rename_i hno
     have hj' : j<E.length*sz':=by omega
     rw[if_pos (by omega)]
     rcases hshape with ⟨_,hE0⟩|⟨b2,o2,cap2,hV2,_,hcells⟩
     ·exact absurd hE0 he
     ·injection hV2 with h1 h2 h3
      injection h1 with h1
      injection h1 with h1 h4
      subst h1 h4
      have:=(hcells j hj').2
      rw[Nat.zero_add,cell_of_row w b j C ty' _ hb] at this
      exact this
   have hty:∀ k m,k<(E++F).length*sz'→(rowPut C (E.length*sz') news.toArray)[k]?=some (.int .u8 m)→ty'=byteTy:=by
    intro k m hk hc
    rw[hprefix k (by rw[hall.1];exact hk)] at hc
    refine rows_bytes hall hok (fun hB=>?_) hk hc
    subst hB
    cases E with
    | nil=>exact absurd rfl he
    | cons r0 E0 =>
     have hr0:∃ m0,r0=[.int .u8 m0]:=by
      have:byteRows (r0 :: E0++F)=true:=hok
      simp only[byteRows,List.cons_append,List.all_cons,Bool.and_eq_true] at this
      have h1:=this.1
      split at h1
      ·exact⟨_,rfl⟩
      ·cases h1
     obtain⟨m0,rfl⟩:=hr0
     rcases hshape with ⟨_,hE0⟩|⟨b2,o2,cap2,hV2,_,hcells⟩
     ·cases hE0
     ·injection hV2 with h1 h2 h3
      injection h1 with h1
      injection h1 with h1 h4
      subst h1 h4
      have h5:=hr 0 _ rfl
      simp only[List.length_singleton] at h5
      obtain⟨v,hv,hp⟩:=hrV.2.2 0 0 _ _ rfl rfl
      cases hp
      simp only[List.getElem?_toArray,Nat.zero_mul,Nat.zero_add] at hv
      have h6:=hcells 0 (by simp;omega)
      rw[Nat.zero_add,hv] at h6
      obtain⟨C2,fr2,h7⟩:=hW.bytes _ _ _ h6.1 h6.2
      rw[hb] at h7
      injection h7 with h7
      injection h7
   have hW':=row_W hW hb (rowPut_size hfit') (fun o=>o<(E++F).length*sz') hold hty p hn (by rw[hk];simp)
   have st0:=st
   rw[hk] at st
   have hnl:news.length=F.length*sz':=hs.newsLen
   refine⟨_,_,_,hrun,hW',hF.grown (H':=s.H) (lo':=s.lo) st (fun i=>⟨by simp,by simp,by simp⟩) (Nat.le_refl _),hE',.inr ⟨E++F,rfl,?_,?_⟩⟩
   ·rw[← List.length_append]
    refine hall.toPR st.S st.cell st.mp (setRow_heap w b C _ ty' _ hb) (fun j hj=>?_) (fun j hj=>.inr ⟨rfl,hj⟩) cap (by rw[List.length_append];exact hroom)
    simp only[List.size_toArray,List.length_append] at hj
    rw[rowPut_get hfit']
    simp only[List.getElem?_toArray,List.size_toArray]
    rw[List.getElem?_append]
    split
    ·rw[if_neg (by omega),hol]
    ·rename_i hno
     have hj' : j<E.length*sz':=by omega
     rw[if_pos (by omega)]
     rcases hshape with ⟨_,hE0⟩|⟨b2,o2,cap2,hV2,_,hcells⟩
     ·exact absurd hE0 he
     ·injection hV2 with h1 h2 h3
      injection h1 with h1
      injection h1 with h1 h4
      subst h1 h4
      have:=(hcells j hj').2
      rw[Nat.zero_add,cell_of_row w b j C ty' _ hb] at this
      exact this
   ·refine⟨b,cap,_,ty',lo,hi,sz',by rw[List.length_append],by simp,by simp[he],setRow_heap w b C _ ty' _ hb,by rw[rowPut_size hfit',hC],hall.2.1,by rw[List.length_append];exact hroom,?_,?_⟩
    ·rw[List.length_append,Nat.add_mul];exact Nat.le_trans hh (Nat.le_add_right _ _)
    ·rintro o ho (hs'|⟨_,hs'⟩)
     ·exact hS o (by rw[List.length_append,Nat.add_mul] at ho;omega) hs'
     ·omega
end
end Go.Abs
end
section
namespace Go.Abs
set_option linter.unusedSimpArgs false
set_option linter.unusedVariables false
section
variable {P:Program} {G:Nat→List AV} {base nt:Nat} {L:List Nat} {gh:Gh} {w w' : World} {a:Act} {s:AS} {H:AHeap}
theorem append_wr (hW:WRel G base s.H gh w) (hF:FR L nt gh w a s) {t tx ty e:TypeId} {sz bytes:Nat} (hT:ElemT P t e sz bytes) {t0:Nat} {X:Value} {E F:List (List AV)} {news:List Value}
  (h:RowAt gh w (.bx t0) (tmv a t0) E) (hs:Src P sz tx X F.length news w) (hrows:RowsP gh.S w sz news.toArray F) (hfit:fitsRows sz bytes E F=true) (d:Option Nat) :
  ∃ v' gh' w',(Builtin.append_ #[t,tx] ty #[tmv a t0,X]).run P w=.ok v' w'∧WRel G base s.H gh' w'∧FR L nt gh' w' a (s.setT t0 .any)∧Ext s.H.length gh w gh' w'∧RowAt gh' w' (bxo d) v' (E++F):=by
 simp only[fitsRows,Bool.and_eq_true,Nat.ble_eq] at hfit
 obtain⟨⟨⟨hb1,hb2⟩,hE⟩,hFo⟩:=hfit
 have hfresh:=fun b hb=>hW.not_outer (gh:=gh) b hb
 have hdo:=bxo_out d
 obtain⟨i,z,hi,_,rfl,_⟩:=hT.hi
 have hone:(tmv a t0).oneCell'=true:=by obtain⟨ad,cap,hv,_⟩:=h;rw[hv];rfl
 have hany:∀ {gh' : Gh} {w' : World} {n gen:Nat} {T:AFrame},SR gh' n nt w' T gen (tmv a) t0 (tmv a t0) .any:=fun {_ _ _ _ _}=>(.inl (.plain _ _ (.any _ hone)):CR _ _ _ _ _ _)
 have stay:FR L nt gh w a (s.setT t0 .any):=hF.setT (touch:=fun _=>False) (H':=s.H) (lo':=s.lo) (Step.refl _ _ _ _ hfresh) (Nat.le_refl _) (fun i _=>⟨id,id,fun _=>id⟩) (.inr rfl) (fun _=>hany)
 have new:∀ ao cap olds,tmv a t0=.slice ao E.length cap→cap<E.length+F.length→Src P i.size t (.slice ao E.length cap) E.length olds w→RowsP gh.S w i.size olds.toArray E →
   ∃ v' gh' w',(Builtin.append_ #[t,tx] ty #[tmv a t0,X]).run P w=.ok v' w'∧WRel G base s.H gh' w'∧FR L nt gh' w' a (s.setT t0 .any)∧Ext s.H.length gh w gh' w'∧RowAt gh' w' (bxo d) v' (E++F):=by
  intro ao cap olds hV hlt hsV hrV
  obtain⟨cap',C',hrun,hcap,hC',hpre⟩:=grow (P:=P) (ty:=ty) hT hsV.cellsD hsV.newsLen hs hlt hb2 hb1
  have hall:=hrV.append hrows
  have hp' : Pushed w (w.drew.alloc (.cells C' e)) (.cells C' e):=.drew w _
  have st:=alloc_step hW hp' hdo (fun _=>False) s.H.length
  have hW':=hW.alloc hp' hdo (fun _=>False) (fun _ _ h=>h.elim)
  rw[hV]
  have hF' : FR L nt (gh.alloc w.heap.size (bxo d) fun _=>False) (w.drew.alloc (.cells C' e)) a (s.setT t0 .any) :=
   stay.grown (H':=s.H) (lo':=s.lo) st (fun i=>⟨id,id,fun _=>id⟩) (Nat.le_refl _)
  refine⟨_,_,_,hrun,hW',hF',alloc_ext hW hp' hdo _ _,some ⟨w.heap.size,0,none⟩,cap',by rw[List.length_append],.inr ⟨w.heap.size,C',e,i.size,?_,rfl,by simp[Gh.alloc],?_,hp'.new,hC',by rw[List.length_append];exact hcap,hall.2.1,?_⟩⟩
  ·intro h0
   have:=congrArg List.length h0
   simp at this
   simp[this] at hlt
  ·rintro o (ho|⟨_,ho⟩)
   ·have:=hW.sLt _ o ho;omega
   ·exact ho
  ·intro k j r x hk hj
   obtain⟨v,hv,hp⟩:=hall.2.2 k j r x hk hj
   refine⟨v,?_,hp.mono st.S st.cell st.mp⟩
   rw[hpre _ (Array.getElem?_eq_some_iff.1 hv).1,hv]
 obtain⟨ao,cap,hV,⟨rfl,hcap0,hspot⟩|⟨b,C,ty',sz',hne,ha,hk,hS,hb,hC,hl,hr,hcs⟩⟩:=h
 ·subst hcap0
  have hsV:Src P i.size t (.slice ao 0 0) 0 [] w:=by
   refine⟨.inl ⟨_,hT.ht⟩,fun _=>rfl,?_,?_,by simp,fun _ h=>by cases h⟩
   ·cases ao with
    | none=>exact run_firstCells_none w _ 0 0 0
    | some ad=>exact run_firstCells_some w _ 0 ad 0 0 [] (by simp) (fun j v h=>by simp at h)
   ·cases ao with
    | none=>exact run_firstCells_none w.drew _ 0 0 0
    | some ad=>exact run_firstCells_some w.drew _ 0 ad 0 0 [] (by simp) (fun j v h=>by simp at h)
  cases F with
  | nil =>
   have hn:news=[]:=by have:=hs.newsLen;simp at this;exact this
   subst hn
   refine⟨_,gh,w,?_,hW,stay,Ext.refl _ _ _ hfresh,ao,0,rfl,.inl ⟨rfl,rfl,hspot⟩⟩
   rw[hV]
   exact run_append_nothing w t tx ty e i hT.ht hi ao 0 0 (Nat.le_refl _) X hs
  | cons f F=>exact new ao 0 [] hV (by simp) hsV ⟨by simp,fun i r h=>by simp at h,fun i j r x h=>by simp at h⟩
 ·subst ha
  have hsz:sz'=i.size:=width_eq hE hr hne
  subst hsz
  have hEC:E.length*i.size≤C.size:=by rw[hC];exact Nat.mul_le_mul_right _ hl
  have holen:(C.toList.take (E.length*i.size)).length=E.length*i.size:=by simp;omega
  have hrV:RowsP gh.S w i.size (C.toList.take (E.length*i.size)).toArray E:=by
   refine⟨by simp;omega,hr,fun k j r x hk hj=>?_⟩
   obtain⟨u,hu,hp⟩:=hcs k j r x hk hj
   refine⟨u,?_,hp⟩
   have h1:=(List.getElem?_eq_some_iff.1 hk).1
   have h2:j<i.size:=by rw[← hr k r hk];exact (List.getElem?_eq_some_iff.1 hj).1
   simp only[List.getElem?_toArray,List.getElem?_take,if_pos (mul_lt h1 h2)]
   simpa using hu
  have hone' : ∀ u∈C.toList.take (E.length*i.size),u.oneCell'=true:=by
   intro u hu
   obtain⟨k,hk⟩:=List.getElem?_of_mem hu
   have hlt:k<E.length*i.size:=by rw[← holen];exact (List.getElem?_eq_some_iff.1 hk).1
   obtain⟨h1,h2,h3⟩:=split_index hlt
   have hr0:=List.getElem?_eq_getElem h1
   have hx0:=List.getElem?_eq_getElem (show k % i.size<E[k / i.size].length by rw[hr _ _ hr0];exact h2)
   obtain⟨u',hu',hp⟩:=hrV.2.2 _ _ _ _ hr0 hx0
   rw[h3] at hu'
   simp only[List.getElem?_toArray] at hu'
   rw[hk] at hu'
   injection hu' with hu'
   subst hu'
   exact hp.oneCell
  have hcell:∀ j u,(C.toList.take (E.length*i.size))[j]?=some u→w.cell? ((⟨b,0,none⟩:Addr).add j)=some u:=by
   intro j u hj
   rw[addr_add,Nat.zero_add,cell_of_row w b j C ty' _ hb]
   rw[List.getElem?_take] at hj
   split at hj
   ·simpa using hj
   ·cases hj
  have hsV:Src P i.size t (.slice (some ⟨b,0,none⟩) E.length cap) E.length (C.toList.take (E.length*i.size)) w:=.ofSlice w hT.ht ⟨b,0,none⟩ E.length cap _ holen hcell hone'
  by_cases hlt:cap<E.length+F.length
  ·exact new _ cap _ hV hlt hsV hrV
  ·have hroom:E.length+F.length≤cap:=by omega
   have hfit:E.length*i.size+news.length≤C.size:=by rw[hs.newsLen,hC,← Nat.add_mul];exact Nat.mul_le_mul_right _ hroom
   have hrun:=room (P:=P) (ty:=ty) hT hs hb (Nat.zero_le _) hroom hfit
   have hfit' : E.length*i.size+news.toArray.size≤C.size:=by simpa using hfit
   have hno:∀ o,gh.S b o→(rowPut C (E.length*i.size) news.toArray)[o]?=C[o]?:=fun o ho=>(hS o ho).elim
   have st:=row_step hW hb (rowPut_size hfit') (fun _=>False) hno (bxo d) s.H.length
   have hn:gh.κ b≠.none:=by rw[hk];simp
   have hE':=row_ext hW hb (rowPut_size hfit') (fun _=>False) hno hdo hn (by rw[hk];simp) s.H.length
   have hW':=row_W hW hb (rowPut_size hfit') (fun _=>False) hno (fun _ _ h=>h.elim) (bxo d) hn (by rw[hk];simp)
   rw[hk] at st
   have hF':=hF.setT (t:=t0) (X:=.any) (H':=s.H) (lo':=s.lo) st (Nat.le_refl _) (fun i hi=>⟨by simpa using hi,by simp,by simp⟩) (.inr rfl) (fun _=>hany)
   rw[hV]
   have hall:=hrV.append hrows
   refine⟨_,_,_,hrun,hW',hF',hE',some ⟨b,0,none⟩,cap,by rw[List.length_append],.inr ⟨b,_,ty',i.size,by simp[hne],rfl,by simp,?_,setRow_heap w b C _ ty' _ hb,by rw[rowPut_size hfit',hC],by rw[List.length_append];exact hroom,hall.2.1,?_⟩⟩
   ·rintro o (ho|⟨_,ho⟩)
    ·exact hS o ho
    ·exact ho
   ·intro k j r x hk' hj
    obtain⟨v,hv,hp⟩:=hall.2.2 k j r x hk' hj
    refine⟨v,?_,hp.mono st.S st.cell st.mp⟩
    rw[rowPut_get hfit']
    simp only[List.getElem?_toArray,List.size_toArray] at hv ⊢
    rw[List.getElem?_append,holen] at hv
    have hnl:news.length=F.length*i.size:=hs.newsLen
    split at hv
    ·rename_i h1
     rw[if_neg (by omega)]
     rw[List.getElem?_take,if_pos h1] at hv
     simpa using hv
    ·rename_i h1
     have h2:=(List.getElem?_eq_some_iff.1 hv).1
     rw[if_pos (by omega)]
     exact hv
theorem src_arg (hW:WRel G base s.H gh w) (hF:FR L nt gh w a s) {x:Operand} {y:IArg} (hc:compArg nt x=some y) {sz:Nat} {f:List (List AV)} (he:elemsOf sz (y.eval G s.T)=some f) (hh:headOk sz f=true) {tx:TypeId}
  (hk:(∃ e',P.underlying tx=some (.slice e'))∨P.underlying tx=some .string):∃ news,Src P sz tx (a.eval x) f.length news w∧RowsP gh.S w sz news.toArray f:=by
 generalize hY:y.eval G s.T=Y at he
 cases Y<;>simp only[elemsOf] at he<;>try (cases he;done)
 ·rename_i l
  obtain⟨h0,h1⟩:=cond_some he
  have h0:sz=1:=by simpa [nbeq] using h0
  subst h0
  injection h1 with h1
  subst h1
  obtain⟨q,hq,hl⟩:=(arg_VR hW hF hc hY rfl).inv_str
  rw[hq,List.length_map]
  exact src_str hl hk
 ·rename_i el own
  injection he with he
  subst he
  obtain⟨news,h1,h2,_⟩:=src_slice (P:=P) (tx:=tx) (sz:=sz) (arg_VR hW hF hc hY rfl).inv_slice hk hh
  exact⟨news,h1,h2⟩
theorem run_call_append {o:Oper} {c:Call} {x y:Operand} {t u:TypeId} (ho:o.op=.call c) (hcal:c.callee=.builtin .append) (hargs:c.args.toList=[x,y]) (htys:c.argTypes.toList=[t,u]) {v:Value}
  (hrun:(Builtin.append_ #[t,u] o.type #[a.eval x,a.eval y]).run P w=.ok v w'):(execOp a.eval o).run P w=.ok (.value v) w':=by
 have e1:c.args=#[x,y]:=by apply Array.ext';simpa using hargs
 have e2:c.argTypes=#[t,u]:=by apply Array.ext';simpa using htys
 unfold execOp
 simp only[ho,resolve,hcal,e1,e2,invoke,builtin,Sem.run_bind,Sem.run_pure,Result.andThen_ok,List.map_toArray,List.map_cons,List.map_nil,hrun]
theorem slice_shape {S:Nat→Nat→Prop} {V:Value} {e:List (List AV)} (h:PR S w V (.slice e false)):∃ ao cap,V=.slice ao e.length cap∧e.length≤cap:=by
 cases h with
 | sliceNil=>exact⟨none,0,rfl,Nat.le_refl _⟩
 | slice b o n cap sz _ _ hn hcap=>subst hn;exact⟨_,cap,rfl,hcap⟩
theorem ev_append (hW:WRel G base s.H gh w) (hF:FR L nt gh w a s) {o:Oper} {c:Call} {x y:Operand} {t u e:TypeId} {sz bytes:Nat} {yx yy:IArg} {isB wr:Bool} {z:AV} {s' : Option AS}
  (ho:o.op=.call c) (hcal:c.callee=.builtin .append) (hargs:c.args.toList=[x,y]) (htys:c.argTypes.toList=[t,u]) (hT:ElemT P t e sz bytes) (hisB:isB=true→e=byteTy) (hu:(∃ e',P.underlying u=some (.slice e'))∨P.underlying u=some .string)
  (hcx:compArg nt x=some yx) (hcy:compArg nt y=some yy) (he:evAppend G s isB wr sz bytes yx yy=some (z,s')) (hd:∀ k,o.dst=some k→k<nt) (hL:wr=true→∀ k,o.dst=some k→k∈L) :
  ∃ v' gh' w',Ran P a o w v' w'∧Out G base nt L gh w a s o.dst z (s'.getD s) v' gh' w':=by
 have hfresh:=fun b hb=>hW.not_outer (gh:=gh) b hb
 have core:∀ (s1:AS) (gh1:Gh) (el:List (List AV)) (own:Bool),s1.H=s.H→WRel G base s1.H gh1 w→FR L nt gh1 w a s1→Ext s.H.length gh w gh1 w→(∀ b o,gh.S b o→gh1.S b o) →
   CR gh1 s1.H.length w .ret (a.eval x) (.slice el own)→appendAV isB sz bytes (.slice el own) (yy.eval G s.T)=some z →
   ∃ v' gh' w',Ran P a o w v' w'∧Out G base nt L gh w a s o.dst z s1 v' gh' w':=by
  intro s1 gh1 el own hH hW1 hF1 hE1 hmono hCR hap
  simp only[appendAV,Option.bind_eq_some_iff] at hap
  obtain⟨f,hf,hap⟩:=hap
  cases f with
  | nil =>
   simp only[Option.some.injEq] at hap
   subst hap
   obtain⟨news,hs,hr⟩:=src_arg (P:=P) hW hF hcy hf rfl hu
   have hn:news=[]:=by have:=hs.newsLen;simp at this;exact this
   subst hn
   obtain⟨gh2,hW2,hF2,hE2,hCR2⟩:=hCR.given hW1 hF1 (slo o.dst) (slo_out _)
   obtain⟨ao,cap,hV,hle⟩:=slice_shape (w:=w) (hCR.dropped).inv_slice
   obtain⟨i,z,hi,_,rfl,_⟩:=hT.hi
   refine⟨a.eval x,gh2,w,.inl (run_call_append ho hcal hargs htys ?_),Out.of (s1:=s1) (gen':=s1.gen) hW2 hF2 (hE1.trans hE2 (by rw[hH];exact Nat.le_refl _)) (Nat.le_refl _) hd (.inl rfl) (fun k hk=>?_)⟩
   ·rw[hV]
    exact run_append_nothing w t u o.type e i hT.ht hi ao _ cap hle _ hs
   ·rw[hk] at hCR2
    exact hCR2
  | cons f0 fr =>
   obtain⟨h0,hap⟩:=cond_some hap
   injection hap with hap
   subst hap
   simp only[Bool.and_eq_true] at h0
   obtain⟨⟨rfl,hfit⟩,hok⟩:=h0
   have hh:headOk sz (f0 :: fr)=true:=by simp only[fitsRows,Bool.and_eq_true] at hfit;exact hfit.2
   obtain⟨news,hs,hr⟩:=src_arg (P:=P) hW hF hcy hf hh hu
   have hr1:RowsP gh1.S w sz news.toArray (f0 :: fr):=⟨hr.1,hr.2.1,fun i j r x hi hj=>by
    obtain⟨v,hv,hp⟩:=hr.2.2 i j r x hi hj
    exact⟨v,hv,hp.mono hmono (fun _ _ _=>rfl) (fun _ _ _ _ h=>h)⟩⟩
   obtain⟨v',gh2,w2,hrun,hW2,hF2,hE2,hCR2⟩:=append_own (P:=P) (ty:=o.type) hW1 hF1 hT hCR hs hr1 hfit hok hisB (by simp) (slo o.dst) (slo_out _)
   refine⟨v',gh2,w2,.inl (run_call_append ho hcal hargs htys hrun),Out.of (s1:=s1) (gen':=s1.gen) hW2 hF2 (hE1.trans hE2 (by rw[hH];exact Nat.le_refl _)) (Nat.le_refl _) hd (.inl rfl) (fun k hk=>?_)⟩
   rw[hk] at hCR2
   exact hCR2
 have wcore:∀ (t0:Nat) (el f:List (List AV)),x=.tmp t0→t0<nt→RowAt gh w (.bx t0) (tmv a t0) el→elemsOf sz (yy.eval G s.T)=some f→fitsRows sz bytes el f=true→wr=true →
   ∃ v' gh' w',Ran P a o w v' w'∧Out G base nt L gh w a s o.dst (.lsl s.gen (el++f)) { s.setT t0 .any with gen:=s.gen+1 } v' gh' w':=by
  intro t0 el f hx ht hrow hf hfit hwr
  have hh:headOk sz f=true:=by simp only[fitsRows,Bool.and_eq_true] at hfit;exact hfit.2
  obtain⟨news,hs,hr⟩:=src_arg (P:=P) hW hF hcy hf hh hu
  obtain⟨v',gh2,w2,hrun,hW2,hF2,hE2,hrow2⟩:=append_wr (P:=P) (ty:=o.type) hW hF hT hrow hs hr hfit o.dst
  have hxe:a.eval x=tmv a t0:=by rw[hx];rfl
  refine⟨v',gh2,w2,.inl (run_call_append ho hcal hargs htys (by rw[hxe];exact hrun)),Out.of (s1:=s.setT t0 .any) (gen':=s.gen+1) hW2 hF2 hE2 (Nat.le_succ _) hd (.inr ⟨⟨s.gen,Nat.le_refl _,rfl⟩,hL hwr⟩) (fun k hk=>⟨Nat.lt_succ_self _,?_⟩)⟩
  rw[hk] at hrow2
  exact hrow2
 cases yx with
 | tmp t0 =>
  obtain⟨rfl,ht⟩:=compArg_tmp hcx
  simp only[evAppend] at he
  split at he
  ·rename_i g el hT0
   simp only[Option.bind_eq_some_iff] at he
   obtain⟨f,hf,he⟩:=he
   obtain⟨h0,he⟩:=cond_some he
   simp only[Option.some.injEq,Prod.mk.injEq] at he
   obtain⟨rfl,rfl⟩:=he
   simp only[Bool.and_eq_true] at h0
   exact wcore t0 el f rfl ht (sr_lsl hF ht hT0) hf h0.2 h0.1
  ·rename_i el own hT0
   cases hwr:wr with
   | true =>
    rw[hwr] at he
    simp only[cond_true,Option.bind_eq_some_iff] at he
    obtain⟨f,hf,he⟩:=he
    obtain⟨h0,he⟩:=cond_some he
    simp only[Option.some.injEq,Prod.mk.injEq] at he
    obtain⟨rfl,rfl⟩:=he
    simp only[Bool.and_eq_true,List.isEmpty_iff] at h0
    obtain⟨⟨rfl,rfl⟩,hfit⟩:=h0
    have hCR:=arg_own hF ht hT0
    have hrow:RowAt gh w (.bx t0) (tmv a t0) []:=by
     rcases hCR with h|⟨e',heq,_,b,cap,C,ty,lo,hi,sz',hval,hk,hne,_⟩
     ·change VR gh s.H.length w (tmv a t0) _ at h
      generalize tmv a t0=V at h
      cases h with
      | plain _ _ h=>cases h
      | full ao k _ h hz =>
       cases h with
       | sliceNil=>exact⟨none,0,rfl,.inl ⟨rfl,rfl,fun ad h=>by cases h⟩⟩
       | slice b o _ _ sz' _ _ hn =>
        simp at hn
        subst hn
        exact⟨_,0,rfl,.inl ⟨rfl,rfl,fun ad h=>⟨by injection h with h;subst h;rfl,hz ad h rfl⟩⟩⟩
     ·injection heq with h1;subst h1;exact absurd rfl hne
    exact wcore t0 [] f rfl ht hrow hf hfit hwr
   | false =>
    rw[hwr] at he
    simp only[cond_false,Option.map_eq_some_iff,Prod.mk.injEq] at he
    obtain⟨z',hap,rfl,rfl⟩:=he
    obtain⟨gh1,hW1,hF1,hE1,st1,hCR⟩:=own_move hW hF ht hT0 .ret (by simp)
    exact core (s.setT t0 (.slice el false)) gh1 el own rfl hW1 hF1 hE1 st1.S hCR hap
  ·rename_i hT0
   cases hwr:wr with
   | true =>
    rw[hwr] at he
    simp only[cond_true,Option.bind_eq_some_iff] at he
    obtain⟨f,hf,he⟩:=he
    obtain⟨h0,he⟩:=cond_some he
    simp only[Option.some.injEq,Prod.mk.injEq] at he
    obtain⟨rfl,rfl⟩:=he
    have hv:=(arg_VR hW hF hcx (show (IArg.tmp t0).eval G s.T=.nilsl from hT0) rfl).inv_nilsl
    exact wcore t0 [] f rfl ht ⟨none,0,hv,.inl ⟨rfl,rfl,fun ad h=>by cases h⟩⟩ hf h0 hwr
   | false =>
    rw[hwr] at he
    simp only[cond_false,Option.map_eq_some_iff,Prod.mk.injEq] at he
    obtain⟨z',hap,rfl,rfl⟩:=he
    have hv:=(arg_VR hW hF hcx (show (IArg.tmp t0).eval G s.T=.nilsl from hT0) rfl).inv_nilsl
    exact core s gh [] true rfl hW hF (Ext.refl _ _ _ hfresh) (fun _ _ h=>h) (.inl (by rw[hv];exact .full none 0 [] .sliceNil (fun ad h=>by cases h))) hap
  ·cases he
 | con v =>
  simp only[evAppend] at he
  cases hwr:wr with
  | true=>rw[hwr] at he;cases he
  | false =>
   rw[hwr] at he
   simp only[cond_false,Option.map_eq_some_iff,Prod.mk.injEq] at he
   obtain⟨z',hap,rfl,rfl⟩:=he
   simp only[IArg.eval] at hap
   cases v<;>simp only[appendAV] at hap<;>try (cases hap;done)
   rename_i el own
   have hv:VR gh s.H.length w (a.eval x) (.slice el own):=by
    cases x with
    | tmp k =>
     simp only[compArg] at hcx
     rcases Bool.eq_false_or_eq_true (Nat.blt k nt) with hb|hb<;>rw[hb] at hcx<;>simp at hcx
    | const u =>
     simp only[compArg,Option.map_eq_some_iff] at hcx
     obtain⟨zz,hz,h⟩:=hcx
     injection h with h
     subst h
     exact constArg_VR hz
    | global g=>simp[compArg] at hcx
    | func f=>simp[compArg] at hcx
   exact core s gh el own rfl hW hF (Ext.refl _ _ _ hfresh) (fun _ _ h=>h) (.inl hv) hap
 | glob g =>
  simp only[evAppend] at he
  cases hwr:wr with
  | true=>rw[hwr] at he;cases he
  | false =>
   rw[hwr] at he
   simp[IArg.eval,appendAV] at he
 | fn f =>
  simp only[evAppend] at he
  cases hwr:wr with
  | true=>rw[hwr] at he;cases he
  | false =>
   rw[hwr] at he
   simp[IArg.eval,appendAV] at he
end
end Go.Abs
end
section
namespace Go.Abs
set_option linter.unusedSimpArgs false
set_option linter.unusedVariables false
def clean (gh:Gh):Prop:=∀ b,gh.κ b=.none∨gh.κ b=.outer∨(∃ l,gh.κ b=.hb l)∨(∃ l j,gh.κ b=.hs l j)∨∃ j,gh.κ b=.par j
def touchHeap (p:Owner):Prop:=(∃ l,p=.hb l)∨(∃ l j,p=.hs l j)∨∃ j,p=.par j
def newH (H:AHeap):Option Chg→AHeap
 | none=>H
 | some c=>c.heap
structure RetOK (G:Nat→List AV) (base:Nat) (H:AHeap) (gh:Gh) (w:World) (r:AV) (c:Option Chg) (v:Value) (gh' : Gh) (w' : World):Prop where
 len:H.length≤(newH H c).length
 W:WRel G base (newH H c) gh' w'
 st:Step touchHeap H.length gh w gh' w'
 out:∀ b,gh'.κ b=.outer→gh.κ b=.outer
 val:CR gh' (newH H c).length w' .ret v r
def ChgOK (H:AHeap) (c:Option Chg):Prop:=H.length≤(newH H c).length∧∀ c',c=some c'→c'.lo≤H.length∧∀ l,l<c'.lo→c'.heap[l]?=H[l]?
def CallsSound (P:Program) (G:Nat→List AV) (cf:CallF):Prop :=
 ∀ f args H r c,cf f args H=some (r,c)→(∃ fn,P.funcs[f]?=some fn∧fn.body.isSome=true∧fn.name≠ "runtime.NumGoroutine")∧ChgOK H c ∧
  ∀ (base:Nat) (gh:Gh) (w:World) (vs:Array Value),WRel G base H gh w→clean gh→vs.size=args.length→(∀ (j:Nat) (v:Value) (x:AV),vs[j]?=some v→args[j]?=some x→CR gh H.length w (.par j) v x) →
   Calls P f vs w fun e w'=>∃ v gh',e=.returned v∧RetOK G base H gh w r c v gh' w'
section
variable {P:Program} {G:Nat→List AV} {base nt:Nat} {L:List Nat} {gh:Gh} {w w' : World} {a:Act} {s:AS} {H:AHeap}
def slotOwner:Owner→Bool
 | .bx _|.sl _|.sc ..|.ret=>true
 | _=>false
def Gh.hide (gh:Gh):Gh:={ gh with κ:=fun b=>bif slotOwner (gh.κ b) then .outer else gh.κ b }
theorem hide_clean (gh:Gh):clean gh.hide:=by
 intro b
 simp only[Gh.hide]
 cases h:gh.κ b<;>simp[slotOwner]
theorem hide_step (hW:WRel G base H gh w) (n:Nat):Step (fun p=>slotOwner p=true) n gh w gh.hide w:=by
 refine⟨fun _ _ h=>h,fun _ _ _=>rfl,Nat.le_refl _,rfl,rfl,rfl,fun b hb hn=>⟨.inl rfl,?_,fun _ h=>h⟩,fun b hb=>?_,fun _ _=>rfl,fun _ _ _ h=>h,fun _ _ _ _ h=>h⟩
 ·simp only[Gh.hide]
  cases h:slotOwner (gh.κ b)
  ·rfl
  ·exact absurd h hn
 ·simp only[Gh.hide,hW.fresh b hb]
  simp[slotOwner]
theorem hide_W (hW:WRel G base H gh w):WRel G base H gh.hide w:=by
 refine hW.step (hide_step hW H.length) (fun l=>⟨by simp[slotOwner],by simp[slotOwner]⟩) hW.sLt (fun b hb=>hW.kLt b fun h=>hb ?_) (fun _ _ _ h=>.inl h)
 simp[Gh.hide,h,slotOwner]
def Gh.back (gh gh' : Gh):Gh:={ gh' with κ:=fun b=>bif slotOwner (gh.κ b) then gh.κ b else gh'.κ b }
theorem back_all (hW:WRel G base H gh w) {r:AV} {c:Option Chg} {v:Value} {gh' : Gh} (h:RetOK G base H gh.hide w r c v gh' w') :
  WRel G base (newH H c) (gh.back gh') w'∧Step touchHeap H.length gh w (gh.back gh') w'∧Ext H.length gh w (gh.back gh') w'∧CR (gh.back gh') (newH H c).length w' .ret v r:=by
 have hout:∀ b,slotOwner (gh.κ b)=true→gh'.κ b=.outer:=by
  intro b hb
  have hlt:b<w.heap.size:=(hW.kLt b (by intro h0;rw[h0] at hb;cases hb)).2
  have:=(h.st.blk b hlt (by simp[Gh.hide,hb,touchHeap])).2.1
  rw[this]
  simp[Gh.hide,hb]
 have st1' : Step (fun p=>p=.outer) (newH H c).length gh' w' (gh.back gh') w':=by
  refine⟨fun _ _ h=>h,fun _ _ _=>rfl,Nat.le_refl _,rfl,rfl,rfl,fun b hb hn=>⟨.inl rfl,?_,fun _ h=>h⟩,fun b hb=>?_,fun _ _=>rfl,fun _ _ _ h=>h,fun _ _ _ _ h=>h⟩
  ·simp only[Gh.back]
   cases hs:slotOwner (gh.κ b)
   ·rfl
   ·exact absurd (hout b hs) hn
  ·simp only[Gh.back]
   have hb' : w.heap.size≤b:=Nat.le_trans h.st.size hb
   rw[hW.fresh b hb']
   simp only[slotOwner,cond_false]
   exact h.st.fresh b hb'
 have hlen:=h.len
 have hst:Step touchHeap H.length gh w (gh.back gh') w':=by
  refine⟨h.st.S,h.st.cell,h.st.size,h.st.os,h.st.tape,h.st.output,fun b hb hn=>?_,fun b hb=>?_,h.st.ρ,h.st.len,h.st.mp⟩
  ·cases hs:slotOwner (gh.κ b) with
   | true =>
    have:=h.st.blk b hb (by simp[Gh.hide,hs,touchHeap])
    exact⟨this.1,by simp[Gh.back,hs],this.2.2⟩
   | false =>
    have e1:gh.hide.κ b=gh.κ b:=by simp[Gh.hide,hs]
    have:=h.st.blk b hb (by rw[e1];exact hn)
    exact⟨this.1,by simp only[Gh.back,hs,cond_false];rw[this.2.1,e1],this.2.2⟩
  ·simp only[Gh.back]
   rw[hW.fresh b hb]
   simp only[slotOwner,cond_false]
   exact h.st.fresh b hb
 refine⟨h.W.step st1' (fun l=>⟨by simp,by simp⟩) h.W.sLt (fun b hb=>?_) (fun _ _ _ h=>.inl h),hst,⟨hst.mono (fun p hp=>?_),fun b hb=>?_⟩,h.val.mono st1' (Nat.le_refl _) (by simp)⟩
 ·simp only[Gh.back] at hb
  cases hs:slotOwner (gh.κ b) with
  | true =>
   have:=hW.kLt b (by intro h0;rw[h0] at hs;cases hs)
   have:=h.st.size
   omega
  | false =>
   rw[hs] at hb
   exact h.W.kLt b hb
 ·rcases hp with ⟨l,rfl⟩|⟨l,j,rfl⟩|⟨j,rfl⟩<;>simp[touchAny]
 ·simp only[Gh.back] at hb
  cases hs:slotOwner (gh.κ b) with
  | true =>
   rw[hs] at hb
   simp only[cond_true] at hb
   rw[hb] at hs
   cases hs
  | false =>
   rw[hs] at hb
   have:=h.out b hb
   simpa [Gh.hide,hs] using this
theorem CR.givenX (hW:WRel G base s.H gh w) (hF:FR L nt gh w a s) {v:Value} {x:AV} (h:CR gh s.H.length w .ret v x) (p:Owner) (hp:p≠.outer) :
  ∃ gh',WRel G base s.H gh' w∧FR L nt gh' w a s∧Ext s.H.length gh w gh' w∧CR gh' s.H.length w p v x:=by
 rcases h with h|⟨e,rfl,h⟩
 ·exact⟨gh,hW,hF,Ext.refl _ _ _ (fun b hb=>hW.not_outer b hb),.inl h⟩
 ·exact CR.given hW hF (.inr ⟨e,rfl,h⟩) p hp
theorem dropAll_VR {n:Nat} {v:Value} {x:AV} (h:VR gh n w v x.drop):VR gh n w v x.dropAll:=by
 cases x<;>first|exact h|skip
 rename_i cs
 exact VR.droppedAll (h:VR gh n w v (.agg cs))
theorem call_core {cf:CallF} (hcf:CallsSound P G cf) (hW:WRel G base s.H gh w) (hF:FR L nt gh w a s) {o:Oper} {f:FuncId} {vs:Array Value} {args:List AV} {r:AV} {ch:Option Chg}
  (he:cf f args s.H=some (r,ch)) (hvs:vs.size=args.length) (hrel:∀ (j:Nat) (v:Value) (x:AV),vs[j]?=some v→args[j]?=some x→CR gh s.H.length w (.par j) v x)
  (hrun:(∃ fn,P.funcs[f]?=some fn∧fn.body.isSome=true∧fn.name≠ "runtime.NumGoroutine")→(execOp a.eval o).run P w=.ok (.enter f vs) w) (hd:∀ k,o.dst=some k→k<nt) (K:Act→World→Prop) (Q:Exit→Act→World→Prop)
  (hK:∀ v' gh' w',Out G base nt L gh w a s o.dst r ((ch.map s.chg).getD s) v' gh' w'→K (a.put o.dst v') w'):o.wp P a w K Q:=by
 obtain⟨hfn,_,hcall⟩:=hcf f _ _ _ _ he
 have hst:=hide_step hW s.H.length
 have hC:=hcall base gh.hide w vs (hide_W hW) (hide_clean gh) hvs (fun j v x hv hx=>(hrel j v x hv hx).mono hst (Nat.le_refl _) (by simp[slotOwner]))
 unfold Oper.wp
 rw[hrun hfn,Oper.upon_enter]
 refine hC.mono ?_
 rintro e w2 ⟨v,gh',rfl,hR⟩
 obtain⟨hW2,hst2,hE2,hv2⟩:=back_all hW hR
 have hlenH:=hR.len
 have key:∀ s1:AS,s1.H=newH s.H ch→FR L nt (gh.back gh') w2 a s1→∃ gh3,Out G base nt L gh w a s o.dst r s1 v gh3 w2:=by
  intro s1 hs1 hF1
  obtain⟨gh3,hW3,hF3,hE3,hv3⟩:=CR.givenX (by rw[hs1];exact hW2) hF1 (by rw[hs1];exact hv2) (slo o.dst) (slo_out _)
  refine⟨gh3,Out.of (s1:=s1) (gen':=s1.gen) hW3 hF3 (hE2.trans hE3 (by rw[hs1];exact hlenH)) (Nat.le_refl _) hd (.inl (genOf_frameCell hv3.frameCell)) (fun k hk=>?_)⟩
  rw[hk] at hv3
  exact sr_of_slot hv3.frameCell hv3
 cases ch with
 | none =>
  obtain⟨gh3,hO⟩:=key s rfl (hF.grown (H':=s.H) (lo':=s.lo) hst2 (fun i=>⟨by simp[touchHeap],by simp[touchHeap],by simp[touchHeap]⟩) (Nat.le_refl _))
  exact hK v gh3 w2 hO
 | some c' =>
  obtain⟨gh3,hO⟩:=key (s.chg c') rfl (hF.grown hst2 (fun i=>⟨by simp[touchHeap],by simp[touchHeap],by simp[touchHeap]⟩) hlenH)
  exact hK v gh3 w2 hO
theorem ev_call {cf:CallF} (hcf:CallsSound P G cf) (hW:WRel G base s.H gh w) (hF:FR L nt gh w a s) {o:Oper} {c:Call} {fx:Operand} {yf:IArg} {ys:List IArg} {f:FuncId} {fs cs:List AV} {r:AV} {ch:Option Chg}
  (ho:o.op=.call c) (hcal:c.callee=.value fx) (hcx:compArg nt fx=some yf) (hcy:compArgs nt c.args.toList=some ys) (hfun:yf.eval G s.T=.func (.func f) fs cs) (hfr:(ys.map fun y=>y.addr G s.T).all frameCell=true)
  (he:cf f (fs++ys.map (fun y=>(y.addr G s.T).dropAll)++cs) s.H=some (r,ch)) (hd:∀ k,o.dst=some k→k<nt) (K:Act→World→Prop) (Q:Exit→Act→World→Prop)
  (hK:∀ v' gh' w',Out G base nt L gh w a s o.dst r ((ch.map s.chg).getD s) v' gh' w'→K (a.put o.dst v') w'):o.wp P a w K Q:=by
 have hfv:=arg_VR hW hF hcx hfun rfl
 obtain⟨us,ts,hfe,hfl,hcl,h1,h2⟩:=hfv.inv_func
 have hargs:=args_VR hW hF hcy hfr
 have hlen:=(compArgs_inv hcy).1
 let vs:Array Value:=us++c.args.map a.eval++ts
 have hvs:vs.size=(fs++ys.map (fun y=>(y.addr G s.T).dropAll)++cs).length:=by
  simp[vs,hfl,hcl] at hlen ⊢
  omega
 have hrel:∀ (j:Nat) (v:Value) (x:AV),vs[j]?=some v→(fs++ys.map (fun y=>(y.addr G s.T).dropAll)++cs)[j]?=some x→VR gh s.H.length w v x:=by
  intro j v x hv hx
  have hal:(c.args.map a.eval).size=ys.length:=by simpa using hlen
  simp only[vs,Array.getElem?_append,Array.size_append] at hv
  simp only[List.getElem?_append,List.length_append,List.length_map] at hx
  rw[hfl,hal] at hv
  split at hv
  ·rename_i c1
   rw[if_pos c1] at hx
   split at hv
   ·rename_i c2
    rw[if_pos c2] at hx
    exact h1 j v x hv hx
   ·rename_i c2
    rw[if_neg c2] at hx
    simp only[List.getElem?_map,Option.map_eq_some_iff] at hx
    obtain⟨y,hy,rfl⟩:=hx
    refine dropAll_VR (hargs (j-fs.length) v _ ?_ ?_)
    ·rw[← Array.toList_map,Array.getElem?_toList];exact hv
    ·simp only[List.getElem?_map,hy,Option.map_some]
  ·rename_i c1
   rw[if_neg c1] at hx
   exact h2 _ v x hv hx
 refine call_core hcf hW hF he hvs (fun j v x hv hx=>.inl (hrel j v x hv hx)) ?_ hd K Q hK
 rintro ⟨fn,hfn,hbody,hname⟩
 unfold execOp
 cases hb:fn.body with
 | none=>rw[hb] at hbody;cases hbody
 | some code =>
  simp[ho,resolve,hcal,hfe,Deferred.ofValue,invoke,callFunc,hfn,hname,hb,vs]
theorem ev_callT {cf:CallF} (hcf:CallsSound P G cf) (hW:WRel G base s.H gh w) (hF:FR L nt gh w a s) {o:Oper} {c:Call} {f:FuncId} {pre post:List IArg} {x:IArg} {r:AV} {ch:Option Chg} {xv:AV} {s1:AS}
  (ho:o.op=.call c) (hcal:c.callee=.value (.func f)) (hcy:compArgs nt c.args.toList=some (pre++x :: post)) (hfr1:(pre.map fun y=>y.addr G s.T).all frameCell=true) (hfr2:(post.map fun y=>y.addr G s.T).all frameCell=true)
  (hx:giveX s x=some (xv,s1)) (he:cf f (pre.map (fun y=>(y.addr G s.T).dropAll)++xv :: post.map (fun y=>(y.addr G s.T).dropAll)) s.H=some (r,ch)) (hd:∀ k,o.dst=some k→k<nt) (K:Act→World→Prop) (Q:Exit→Act→World→Prop)
  (hK:∀ v' gh' w',Out G base nt L gh w a s o.dst r ((ch.map s1.chg).getD s1) v' gh' w'→K (a.put o.dst v') w'):o.wp P a w K Q:=by
 obtain⟨hlen,hcomp⟩:=compArgs_inv hcy
 have hfresh:∀ b,w.heap.size≤b→gh.κ b≠.outer:=fun b hb=>hW.not_outer b hb
 have give:∃ gh1,s1.H=s.H∧WRel G base s1.H gh1 w∧FR L nt gh1 w a s1∧Ext s.H.length gh w gh1 w∧(∃ tc,Step tc s.H.length gh w gh1 w)∧∀ y,compArg nt y=some x→CR gh1 s.H.length w (.par pre.length) (a.eval y) xv:=by
  unfold giveX at hx
  split at hx
  ·rename_i t
   split at hx
   ·rename_i el own hT
    simp only[Option.some.injEq,Prod.mk.injEq] at hx
    obtain⟨rfl,rfl⟩:=hx
    have hmid:=hcomp pre.length
    have ht:t<nt:=by
     have hl:pre.length<c.args.toList.length:=by rw[hlen];simp
     have:=hcomp pre.length _ _ (List.getElem?_eq_getElem hl) (by simp:(pre++IArg.tmp t :: post)[pre.length]?=some (IArg.tmp t))
     exact (compArg_tmp this).2
    obtain⟨gh1,hW1,hF1,hE1,st1,hCR⟩:=own_move hW hF ht hT (.par pre.length) (by simp)
    refine⟨gh1,rfl,hW1,hF1,hE1,⟨_,st1⟩,fun y hy=>?_⟩
    obtain⟨rfl,_⟩:=compArg_tmp hy
    exact hCR
   ·cases hx
  ·split at hx
   ·simp only[Option.some.injEq,Prod.mk.injEq] at hx
    obtain⟨rfl,rfl⟩:=hx
    refine⟨gh,rfl,hW,hF,Ext.refl _ _ _ hfresh,⟨fun _=>False,Step.refl _ _ _ _ hfresh⟩,fun y hy=>?_⟩
    cases y with
    | tmp k =>
     simp only[compArg] at hy
     rcases Bool.eq_false_or_eq_true (Nat.blt k nt) with hb|hb<;>rw[hb] at hy<;>simp at hy
    | const u =>
     simp only[compArg,Option.map_eq_some_iff] at hy
     obtain⟨zz,hz,h⟩:=hy
     injection h with h
     subst h
     exact .inl (constArg_VR hz)
    | global g=>simp[compArg] at hy
    | func f=>simp[compArg] at hy
   ·cases hx
  ·cases hx
 obtain⟨gh1,hsH,hW1,hF1,hE1,⟨tc,st1⟩,hxv⟩:=give
 have hvals:∀ (j:Nat) (y:Operand) (z:IArg),c.args.toList[j]?=some y→(pre++x :: post)[j]?=some z→compArg nt y=some z:=fun j y z h1 h2=>hcomp j y z h1 h2
 let vs:Array Value:=c.args.map a.eval
 have hvs:vs.size=(pre.map (fun y=>(y.addr G s.T).dropAll)++xv :: post.map (fun y=>(y.addr G s.T).dropAll)).length:=by
  have:c.args.size=(pre++x :: post).length:=by simpa using hlen
  simp[vs,this]
 have old:∀ (j:Nat) (y:Operand) (z:IArg),c.args.toList[j]?=some y→(pre++x :: post)[j]?=some z→frameCell (z.addr G s.T)=true→VR gh1 s.H.length w (a.eval y) (z.addr G s.T).dropAll:=by
  intro j y z h1 h2 h3
  have:=arg_VR' hW hF (hcomp j y z h1 h2) rfl h3
  exact (dropAll_VR this).mono st1 (Nat.le_refl _)
 have hrel:∀ (j:Nat) (v:Value) (y:AV),vs[j]?=some v→(pre.map (fun y=>(y.addr G s.T).dropAll)++xv :: post.map (fun y=>(y.addr G s.T).dropAll))[j]?=some y→CR gh1 s1.H.length w (.par j) v y:=by
  intro j v y hv hy
  rw[hsH]
  simp only[vs,Array.getElem?_map,Option.map_eq_some_iff] at hv
  obtain⟨op,hop,rfl⟩:=hv
  have hop' : c.args.toList[j]?=some op:=by rw[Array.getElem?_toList];exact hop
  rcases Nat.lt_trichotomy j pre.length with h|h|h
  ·rw[List.getElem?_append_left (by simpa using h)] at hy
   simp only[List.getElem?_map,Option.map_eq_some_iff] at hy
   obtain⟨z,hz,rfl⟩:=hy
   exact .inl (old j op z hop' (by rw[List.getElem?_append_left h];exact hz) (List.all_eq_true.1 hfr1 _ (List.mem_map.2 ⟨z,List.mem_of_getElem? hz,rfl⟩)))
  ·subst h
   rw[List.getElem?_append_right (by simp)] at hy
   simp only[List.length_map,Nat.sub_self,List.getElem?_cons_zero,Option.some.injEq] at hy
   subst hy
   exact hxv op (hcomp pre.length op x hop' (by simp))
  ·obtain⟨m,rfl⟩:∃ m,j=pre.length+1+m:=⟨j-(pre.length+1),by omega⟩
   rw[List.getElem?_append_right (by simp;omega)] at hy
   simp only[List.length_map,show pre.length+1+m-pre.length=m+1 by omega,List.getElem?_cons_succ,List.getElem?_map,Option.map_eq_some_iff] at hy
   obtain⟨z,hz,rfl⟩:=hy
   exact .inl (old _ op z hop' (by rw[List.getElem?_append_right (by omega),show pre.length+1+m-pre.length=m+1 by omega];simpa using hz) (List.all_eq_true.1 hfr2 _ (List.mem_map.2 ⟨z,List.mem_of_getElem? hz,rfl⟩)))
 refine call_core hcf hW1 hF1 (by rw[hsH];exact he) hvs hrel ?_ hd K Q (fun v' gh' w' hO=>hK v' gh' w' ⟨hO.W,hO.F,by have:=hO.E;rw[hsH] at this;exact hE1.trans this (Nat.le_refl _)⟩)
 rintro ⟨fn,hfn,hbody,hname⟩
 unfold execOp
 cases hb:fn.body with
 | none=>rw[hb] at hbody;cases hbody
 | some code =>
  simp[ho,resolve,hcal,Act.eval,Deferred.ofValue,invoke,callFunc,hfn,hname,hb,vs]
end
end Go.Abs
end
section
namespace Go.Abs
set_option linter.unusedSimpArgs false
set_option linter.unusedVariables false
section
variable {P:Program} {G:Nat→List AV} {base nt:Nat} {L:List Nat} {gh:Gh} {w w' : World} {a:Act} {s:AS} {H:AHeap}
def CheckRun (P:Program) (w:World) (d:Nat):Prop :=
 ∀ (t:TypeId) (ks:List CK),flatK P d t=some ks→∀ (D o:Nat) (cs:Array Value) (em:Bool),d≤D→o+ks.length≤cs.size→∃ v,(part t cs o).run P w=.ok v w∧(Instr.checkKey em D t v).run P w=.ok () w
theorem check_scalar {t:TypeId} {D:Nat} {v:Value} {em:Bool} (h:P.underlying t=some .bool∨(∃ k,P.underlying t=some (.int k))∨P.underlying t=some .string):(Instr.checkKey em (D+1) t v).run P w=.ok () w:=by
 rcases h with h|⟨k,h⟩|h<;>simp[Instr.checkKey,run_underlying h]
theorem check_fields {d:Nat} (hd:CheckRun P w d) {D:Nat} (hD:d≤D) {cs:Array Value} {em:Bool} : ∀ (fs:List Go.Field) (q:Nat) (ks:List CK),fieldsK (flatK P d) fs q=some ks→q+ks.length≤cs.size →
  Sem.run P (forIn fs PUnit.unit fun (f:Go.Field) (_:PUnit) =>
   if f.name≠ "_" then do
    let v ← part f.type cs f.offset
    Instr.checkKey em D f.type v
    pure (ForInStep.yield PUnit.unit)
   else pure (ForInStep.yield PUnit.unit)) w=.ok PUnit.unit w:=by
 intro fs
 induction fs with
 | nil=>intro q ks h1 h2;rfl
 | cons f fs ih =>
  intro q ks h1 h2
  unfold fieldsK at h1
  obtain⟨h3,h1⟩:=cond_some h1
  simp only[Option.bind_eq_some_iff,Option.map_eq_some_iff] at h1
  obtain⟨kf,hkf,kr,hkr,rfl⟩:=h1
  simp only[Bool.and_eq_true,nbeq,decide_eq_true_eq,bne_iff_ne] at h3
  obtain⟨hof,hnm⟩:=h3
  rw[List.length_append] at h2
  obtain⟨v,p1,p2⟩:=hd f.type kf hkf D q cs em hD (by omega)
  have hr:=ih (q+kf.length) kr hkr (by omega)
  rw[List.forIn_cons,if_pos hnm,hof]
  simp only[Sem.run_bind,p1,p2,Result.andThen_ok,Sem.run_pure]
  exact hr
theorem check_run:∀ d,CheckRun P w d
 | 0=>fun t ks h=>by cases h
 | d+1=>by
  intro t ks h D o cs em hD hcs
  have h0:=h
  unfold flatK at h
  cases hu:P.underlying t with
  | none=>rw[hu] at h;cases h
  | some dd =>
   rw[hu] at h
   obtain⟨D,rfl⟩:∃ m,D=m+1:=⟨D-1,by omega⟩
   have sc:ks.length=1→aggT P t=some false→(dd=.bool∨(∃ k,dd=.int k)∨dd=.string)→∃ v,(part t cs o).run P w=.ok v w∧(Instr.checkKey em (D+1) t v).run P w=.ok () w:=by
    intro h1 h2 h3
    have hg:=h2
    have hv:cs[o]?=some cs[o]:=Array.getElem?_eq_getElem (by omega)
    refine⟨cs[o],by simp[part,run_isAgg' hg,hv],check_scalar ?_⟩
    rcases h3 with h3|⟨k,h3⟩|h3<;>subst h3
    ·exact .inl hu
    ·exact .inr (.inl ⟨k,hu⟩)
    ·exact .inr (.inr hu)
   cases dd<;>try (cases h;done)
   case bool=>injection h with h;subst h;exact sc rfl (aggT_scalar hu rfl) (.inl rfl)
   case int kk=>injection h with h;subst h;exact sc rfl (aggT_scalar hu rfl) (.inr (.inl ⟨kk,rfl⟩))
   case string=>injection h with h;subst h;exact sc rfl (aggT_scalar hu rfl) (.inr (.inr rfl))
   case struct fs =>
    obtain⟨_,hks,sz,hsz,hlen⟩:=struct_inv h0 hu
    have hg:aggT P t=some true:=by unfold aggT;rw[hu];rfl
    refine⟨.agg (cs.extract o (o+sz)),by simp[part,run_isAgg' hg,run_sizeOf' hsz],?_⟩
    have:=check_fields (check_run d) (show d≤D by omega) (cs:=cs.extract o (o+sz)) (em:=em) fs.toList 0 ks hks (by simp;omega)
    unfold Instr.checkKey
    simp only[Sem.run_bind,run_underlying hu,Result.andThen_ok]
    rw[← Array.forIn_toList,this]
    rfl
theorem val_cells {n:Nat} {v:Value} {k:AV} {kc:List AV} (h:VR gh n w v k) (hc:k.cells=some kc):(∃ C,v=.agg C∧k=.agg kc∧Row gh n w C kc)∨(kc=[k]∧v.oneCell'=true):=by
 have hr:=cells_rel h hc
 cases k
 case agg xs =>
  obtain⟨C,rfl,hs,hone,h⟩:=h.inv_agg
  injection hc with hc
  subst hc
  exact .inl ⟨C,rfl,rfl,hs,h⟩
 case any=>cases hc
 case tuple=>cases hc
 case lbox=>cases hc
 case lref=>cases hc
 case lsl=>cases hc
 case lsr=>cases hc
 case eref=>cases hc
 case iter=>cases hc
 all_goals
  injection hc with hc
  subst hc
  exact .inr ⟨rfl,h.oneCell (by intro cs h;cases h) (by intro cs h;cases h)⟩
theorem agg_value {n:Nat} {v:Value} {k:AV} (h:VR gh n w v k) (ha:true=k.isAgg):∃ C,v=.agg C:=by
 cases k<;>first|(cases ha;done)|skip
 obtain⟨C,rfl,_⟩:=h.inv_agg
 exact⟨C,rfl⟩
structure KeyT (P:Program) (kt:TypeId) (ks:List CK) (ka:Bool):Prop where
 flat:flatK P 8 kt=some ks
 agg:aggT P kt=some ka
theorem KeyT.cases {kt:TypeId} {ks:List CK} {ka:Bool} (h:KeyT P kt ks ka):(ka=false∧((P.underlying kt=some .bool∧ks=[.b])∨(∃ k,P.underlying kt=some (.int k)∧ks=[.i])∨(P.underlying kt=some .string∧ks=[.s]))) ∨
  (ka=true∧∃ fs,P.underlying kt=some (.struct fs)):=by
 have hf:=h.flat
 have ha:=h.agg
 unfold flatK at hf
 unfold aggT at ha
 cases hu:P.underlying kt with
 | none=>rw[hu] at hf;cases hf
 | some dd =>
  rw[hu] at hf ha
  cases dd<;>try (cases hf;done)
  case bool=>injection hf with hf;subst hf;simp at ha;exact .inl ⟨ha,.inl ⟨rfl,rfl⟩⟩
  case int k=>injection hf with hf;subst hf;simp at ha;exact .inl ⟨ha,.inr (.inl ⟨k,rfl,rfl⟩)⟩
  case string=>injection hf with hf;subst hf;simp at ha;exact .inl ⟨ha,.inr (.inr ⟨rfl,rfl⟩)⟩
  case struct fs=>simp at ha;exact .inr ⟨ha,fs,rfl⟩
theorem run_check {kt:TypeId} {ks:List CK} {ka:Bool} (hK:KeyT P kt ks ka) {n:Nat} {kv:Value} {k:AV} {kc:List AV} (hk:VR gh n w kv k) (hkc:k.cells=some kc) (hl:kc.length=ks.length) (hka:ka=k.isAgg) (em:Bool) :
  (Instr.checkKey em 10000 kt kv).run P w=.ok () w:=by
 rcases hK.cases with ⟨rfl,h⟩|⟨rfl,fs,hu⟩
 ·refine check_scalar ?_
  rcases h with ⟨h,_⟩|⟨k,h,_⟩|⟨h,_⟩
  ·exact .inl h
  ·exact .inr (.inl ⟨k,h⟩)
  ·exact .inr (.inr h)
 ·obtain⟨C,rfl⟩:=agg_value hk hka
  obtain⟨hso,hks,sz,hsz,hlen⟩:=struct_inv hK.flat hu
  have hC:C.size=kc.length:=by
   rcases val_cells hk hkc with ⟨C',e,_,hr⟩|⟨_,h1⟩
   ·injection e with e;subst e;exact hr.1
   ·simp[Value.oneCell'] at h1
  have:=check_fields (check_run (w:=w) (P:=P) 7) (show 7≤9999 by omega) (cs:=C) (em:=em) fs.toList 0 ks hks (by omega)
  unfold Instr.checkKey
  simp only[Sem.run_bind,run_underlying hu,Result.andThen_ok]
  rw[← Array.forIn_toList,this]
  rfl
def KeyAt (S:Nat→Nat→Prop) (w:World) (kz:Nat) (ka:Bool) (v:Value) (r:List AV):Prop:=∃ f:Nat→Value,v=mkV ka kz f∧∀ (j:Nat) (x:AV),r[j]?=some x→j<kz→PR S w (f j) x
theorem eqFlat_len:∀ {k:List CK} {X Y:List AV} {b:Bool},eqFlat k X Y=some b→k.length≤X.length∧k.length≤Y.length
 | [],X,Y,b,h=>⟨Nat.zero_le _,Nat.zero_le _⟩
 | c :: k,X,Y,b,h=>by
  cases c<;>cases X<;>try (cases h;done)
  all_goals (rename_i x X';cases x<;>try (cases h;done))
  all_goals (cases Y<;>try (cases h;done))
  all_goals (rename_i y Y';cases y<;>try (cases h;done))
  ·simp only[eqFlat,Option.map_eq_some_iff] at h
   obtain⟨b',hb,_⟩:=h
   have:=eqFlat_len hb
   simp;omega
  ·simp only[eqFlat] at h
   obtain⟨_,h⟩:=cond_some h
   simp only[Option.map_eq_some_iff] at h
   obtain⟨b',hb,_⟩:=h
   have:=eqFlat_len hb
   simp;omega
  ·simp only[eqFlat,Option.map_eq_some_iff] at h
   obtain⟨b',hb,_⟩:=h
   have:=eqFlat_len hb
   simp;omega
theorem key_equal {kt:TypeId} {ks:List CK} {ka:Bool} (hK:KeyT P kt ks ka) {n:Nat} {kv:Value} {k:AV} {kc:List AV} (hk:VR gh n w kv k) (hkc:k.cells=some kc) (hl:kc.length=ks.length) (hka:ka=k.isAgg)
  {v:Value} {r:List AV} (hv:KeyAt gh.S w ks.length ka v r) {b:Bool} (he:eqFlat ks kc r=some b) :
  (ka=true→(Op.equal kt kv v).run P w=.ok b w)∧(ka=false→∀ d,P.underlying kt=some d→Instr.sameNow d kv v=some b):=by
 obtain⟨f,rfl,hf⟩:=hv
 have hrl:=(eqFlat_len he).2
 rcases hK.cases with ⟨rfl,h⟩|⟨rfl,fs,hu⟩
 ·refine⟨(fun h=>by cases h),fun _ d hd=>?_⟩
  have hkc1:kc=[k]:=by
   cases k<;>first|(cases hka;done)|(injection hkc with hkc;exact hkc.symm)|(cases hkc;done)
  subst hkc1
  have hv0:∀ x,r[0]?=some x→PR gh.S w (f 0) x:=fun x hx=>hf 0 x hx (by rcases h with ⟨_,h⟩|⟨_,_,h⟩|⟨_,h⟩<;>rw[h]<;>exact Nat.one_pos)
  show Instr.sameNow d kv (f 0)=some b
  cases r with
  | nil=>rcases h with ⟨_,h⟩|⟨_,_,h⟩|⟨_,h⟩<;>subst h<;>simp at hrl
  | cons x r =>
   have hx:=hv0 x rfl
   rcases h with ⟨h,rfl⟩|⟨q,h,rfl⟩|⟨h,rfl⟩
   ·rw[h] at hd;injection hd with hd;subst hd
    cases k<;>try (cases he;done)
    cases x<;>try (cases he;done)
    obtain rfl:=hk.inv_bool
    generalize f 0=u at hx
    cases hx
    simp[eqFlat] at he
    simp[Instr.sameNow,he]
   ·rw[h] at hd;injection hd with hd;subst hd
    cases k<;>try (cases he;done)
    cases x<;>try (cases he;done)
    obtain rfl:=hk.inv_int
    generalize f 0=u at hx
    cases hx
    simp only[eqFlat] at he
    obtain⟨h0,he⟩:=cond_some he
    simp at he h0
    simp[Instr.sameNow,he,h0]
   ·rw[h] at hd;injection hd with hd;subst hd
    cases k<;>try (cases he;done)
    cases x<;>try (cases he;done)
    obtain⟨p,rfl,rfl⟩:=hk.inv_str
    generalize f 0=u at hx
    cases hx with
    | str q _ hq =>
     subst hq
     simp[eqFlat] at he
     simp only[Instr.sameNow,Option.some.injEq]
     rw[← he]
     first|rfl|(show (p.data==q.data)=_;simp)
 ·obtain⟨C,rfl⟩:=agg_value hk hka
  refine⟨fun _=>?_,fun h=>by cases h⟩
  have hC:Row gh n w C kc:=by
   rcases val_cells hk hkc with ⟨C',e,_,hr⟩|⟨_,h1⟩
   ·injection e with e;subst e;exact hr
   ·simp[Value.oneCell'] at h1
  have hD:Row gh n w (((List.range ks.length).map f).toArray) (r.take ks.length):=by
   refine⟨by simp;omega,fun j u x hu hx=>?_⟩
   simp only[List.getElem?_toArray,List.getElem?_map,Option.map_eq_some_iff] at hu
   obtain⟨i,hi,rfl⟩:=hu
   obtain⟨hlt,hij⟩:=List.getElem?_eq_some_iff.1 hi
   simp at hlt hij
   subst hij
   rw[List.getElem?_take,if_pos hlt] at hx
   exact .plain _ _ (hf _ x hx hlt)
  have he' : eqFlat ks kc (r.take ks.length)=some b:=by
   rw[← he,← eqFlat_take ks kc r ks.length (Nat.le_refl _),← eqFlat_take ks kc (r.take ks.length) ks.length (Nat.le_refl _),List.take_take,Nat.min_self]
  exact struct_run (flatK_run 7) hK.flat hu (D:=9999) (by omega) (n:=n) hC hD he'
theorem findNow_flat {d:TypeDesc} {kv:Value} {ks:List CK} {kc:List AV} : ∀ (l:List MapEntry) (es:List (List AV)) (i0:Nat) (o:Option Nat),l.length=es.length →
  (∀ (i:Nat) (e:MapEntry) (r:List AV) (b:Bool),l[i]?=some e→es[i]?=some r→eqFlat ks kc r=some b→Instr.sameNow d kv e.key=some b)→findE ks kc es=some o →
  Instr.findNow d kv l i0=some (o.map fun i=>(i0+i,(l.getD i default).val))
 | [],[],i0,o,_,_,h=>by simp only[findE,Option.some.injEq] at h;subst h;rfl
 | [],_ :: _,_,_,hl,_,_=>by simp at hl
 | _ :: _,[],_,_,hl,_,_=>by simp at hl
 | e :: l,r :: es,i0,o,hl,hq,h=>by
  simp only[findE,Option.bind_eq_some_iff] at h
  obtain⟨b,hb,h⟩:=h
  have h0:=hq 0 e r b rfl rfl hb
  cases b with
  | true =>
   simp only[cond_true,Option.some.injEq] at h
   subst h
   simp[Instr.findNow,h0]
  | false =>
   simp only[cond_false,Option.map_eq_some_iff] at h
   obtain⟨o',ho',rfl⟩:=h
   have ih:=findNow_flat l es (i0+1) o' (by simpa using hl) (fun i e r b h1 h2 h3=>hq (i+1) e r b (by simpa using h1) (by simpa using h2) h3) ho'
   simp only[Instr.findNow,h0,ih,Option.map_map]
   cases o' with
   | none=>rfl
   | some i=>simp[Nat.add_assoc,Nat.add_comm 1 i]
theorem findAsking_flat {kt:TypeId} {kv:Value} {ks:List CK} {kc:List AV} : ∀ (l:List MapEntry) (es:List (List AV)) (i0:Nat) (o:Option Nat),l.length=es.length →
  (∀ (i:Nat) (e:MapEntry) (r:List AV) (b:Bool),l[i]?=some e→es[i]?=some r→eqFlat ks kc r=some b→(Op.equal kt kv e.key).run P w=.ok b w)→findE ks kc es=some o →
  (Instr.findAsking kt kv l i0).run P w=.ok (o.map fun i=>(i0+i,(l.getD i default).val)) w
 | [],[],i0,o,_,_,h=>by simp only[findE,Option.some.injEq] at h;subst h;rfl
 | [],_ :: _,_,_,hl,_,_=>by simp at hl
 | _ :: _,[],_,_,hl,_,_=>by simp at hl
 | e :: l,r :: es,i0,o,hl,hq,h=>by
  simp only[findE,Option.bind_eq_some_iff] at h
  obtain⟨b,hb,h⟩:=h
  have h0:=hq 0 e r b rfl rfl hb
  cases b with
  | true =>
   simp only[cond_true,Option.some.injEq] at h
   subst h
   simp[Instr.findAsking,h0]
  | false =>
   simp only[cond_false,Option.map_eq_some_iff] at h
   obtain⟨o',ho',rfl⟩:=h
   have ih:=findAsking_flat l es (i0+1) o' (by simpa using hl) (fun i e r b h1 h2 h3=>hq (i+1) e r b (by simpa using h1) (by simpa using h2) h3) ho'
   simp only[Instr.findAsking,Sem.run_bind,h0,Result.andThen_ok,Bool.false_eq_true,if_false,ih]
   cases o' with
   | none=>rfl
   | some i=>simp[Nat.add_assoc,Nat.add_comm 1 i]
theorem run_find {kt:TypeId} {ks:List CK} {ka:Bool} (hK:KeyT P kt ks ka) {n:Nat} {kv:Value} {k:AV} {kc:List AV} (hk:VR gh n w kv k) (hkc:k.cells=some kc) (hl:kc.length=ks.length) (hka:ka=k.isAgg)
  {l:List MapEntry} {es:List (List AV)} (hlen:l.length=es.length) (hrow:∀ (i:Nat) (e:MapEntry) (r:List AV),l[i]?=some e→es[i]?=some r→KeyAt gh.S w ks.length ka e.key r) {o:Option Nat} (hf:findE ks kc es=some o) :
  (Instr.findKey kt kv l).run P w=.ok (o.map fun i=>(i,(l.getD i default).val)) w:=by
 have hq:=fun (i:Nat) (e:MapEntry) (r:List AV) (b:Bool) (h1:l[i]?=some e) (h2:es[i]?=some r) (h3:eqFlat ks kc r=some b)=>key_equal hK hk hkc hl hka (hrow i e r h1 h2) h3
 rcases hK.cases with ⟨rfl,h⟩|⟨rfl,fs,hu⟩
 ·obtain⟨d,hd⟩:∃ d,P.underlying kt=some d:=by rcases h with ⟨h,_⟩|⟨_,h,_⟩|⟨h,_⟩<;>exact⟨_,h⟩
  have hn:=findNow_flat l es 0 o hlen (fun i e r b h1 h2 h3=>(hq i e r b h1 h2 h3).2 rfl d hd) hf
  simp only[Nat.zero_add] at hn
  simp[Instr.findKey,run_underlying hd,hn]
 ·cases l with
  | nil =>
   cases es with
   | cons _ _=>simp at hlen
   | nil =>
    simp only[findE,Option.some.injEq] at hf
    subst hf
    simp[Instr.findKey,run_underlying hu,Instr.findNow]
  | cons e l =>
   have hn:=findAsking_flat (P:=P) (w:=w) (e :: l) es 0 o hlen (fun i e r b h1 h2 h3=>(hq i e r b h1 h2 h3).1 rfl) hf
   simp only[Nat.zero_add] at hn
   simp[Instr.findKey,run_underlying hu,Instr.findNow,Instr.sameNow,hn]
end
end Go.Abs
end
