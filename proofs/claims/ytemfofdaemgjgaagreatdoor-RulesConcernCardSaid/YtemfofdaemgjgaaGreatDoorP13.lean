/-
  A part of the proof of RulesConcern: AbsLibC, AbsLib2C, AbsLib3C, AbsLib4C, AbsLib5C, AbsLib6C, AbsLib7C, AbsMono.
-/
import Derived.Shelf.Strconv.AtoiAll
import Derived.Shelf.Strconv.Itoa3
import Derived.Shelf.Small.Strs
import Derived.Shelf.Lay
import Derived.Ground.NamesProg
import Derived.Shelf.Strings.Builder1
import Derived.Shelf.Slices.Turned
import Derived.WalkKit
import Derived.Maps.RangeWalk
import Derived.Test.YtemfofdaemgjgaaGreatDoorP12
set_option linter.unusedSimpArgs false
set_option linter.unusedVariables false
section
set_option linter.unusedVariables false
set_option linter.unusedSimpArgs false
namespace Go.Proofs.YtemfofdaemgjgaaGreatDoor
open Go Go.Abs Go.Proofs Go.Shelf RowKit
theorem index_at (s:ByteArray) (c:Int) (w:World):Calls Tryz.prog 81 #[.string s,.int .u8 c] w fun e w'=>e=.returned (.int .i64 (Lib.indexByte s.data.toList c.toNat.toUInt8))∧w'=w:=Any.strings_IndexByte layIndex s c w
theorem itoa_at (n:Int) (h0:-9223372036854775808≤n) (h1:n≤9223372036854775807) (w:World) (htab:Lib.TabIs Tryz.prog w "internal/strconv.uint64pow10" .u64 Lib.pow10Tab) :
  Calls Tryz.prog 60 #[.int .i64 n] w fun e w'=>e=.returned (.string ⟨(Lib.itoa n).toArray⟩)∧∃ k os,w'=Sort.grow (w.drewN k) os:=Any.strconv_Itoa layItoa n h0 h1 w htab
theorem atoi_ok (s:ByteArray) (hmax:s.size≤9223372036854775806) (v:Int) (h:Lib.atoiAll s.data.toList=.ok v) (w:World) :
  Calls Tryz.prog 85 #[.string s] w fun e w'=>e=.returned (.tuple #[.int .i64 v,.nilIface])∧(w'=w∨∃ t,w'=Lib.bytesWorld w 5 t):=Any.strconv_Atoi_ok layAtoi s hmax v h w
theorem atoi_bad (s:ByteArray) (hlim:s.size≤281474976710656) (h1:∀ v,Lib.atoiAll s.data.toList≠.ok v) (h2:Lib.atoiAll s.data.toList≠.range) (ev:Value) (w:World) (hv:w.cell? ⟨6,0,none⟩=some ev) (hev:ev=.nilIface∨∃ te pe,ev=.iface te pe) :
  Calls Tryz.prog 85 #[.string s] w fun e w'=>∃ N,e=.returned (.tuple #[.int .i64 (0),.iface 166 (.pointer (some ⟨N,0,none⟩))])∧Below w.heap.size w w' :=
 (Any.strconv_Atoi_syntax layAtoi s hlim (by
  generalize Lib.atoiAll s.data.toList=x at h1 h2
  cases x<;>first|rfl|exact absurd rfl (h1 _)|exact absurd rfl h2) ev w hv hev).mono fun e w' ⟨N,h1,_,_,h4⟩=>⟨N,h1,h4⟩
theorem atoi_range (s:ByteArray) (hlim:s.size≤281474976710656) (h:Lib.atoiAll s.data.toList=.range) (ev:Value) (w:World) (hv:w.cell? ⟨7,0,none⟩=some ev) (hev:ev=.nilIface∨∃ te pe,ev=.iface te pe) :
  Calls Tryz.prog 85 #[.string s] w fun e w'=>∃ N,e=.returned (.tuple #[.int .i64 (Lib.atoiSat s.data.toList),.iface 166 (.pointer (some ⟨N,0,none⟩))])∧Below w.heap.size w w' :=
 (Any.strconv_Atoi_range layAtoi s hlim h ev w hv hev).mono fun e w' ⟨N,h1,_,_,h4⟩=>⟨N,h1,h4⟩
section
variable {G:Nat→List AV} {base:Nat} {gh:Gh} {w w' : World} {H:AHeap}
theorem step_below (hW:WRel G base H gh w) (hb:Below w.heap.size w w') (n:Nat):Step (fun _=>False) n gh w gh w':=by
 refine⟨fun _ _ h=>h,fun b o h=>cell_of_heap (hb.block b (hW.sLt b o h)),hb.size,hb.os,hb.tape,hb.output,fun b hlt _=>⟨.inl (hb.block b hlt),rfl,fun _ h=>h⟩,fun b hb'=>hW.not_outer b hb',fun _ _=>rfl,fun b ty m hm=>?_,fun b E ck hs h0=>(hb.block b (hW.sLt b 0 hs)).trans h0⟩
 obtain⟨C,fr,h1,h2⟩:=hm
 exact⟨C,fr,by rw[hb.block b (Array.getElem?_eq_some_iff.1 h1).1];exact h1,h2⟩
theorem ret_below (hW:WRel G base H gh w) (hb:Below w.heap.size w w') {v:Value} {r:AV} (hv:VR gh H.length w' v r):RetOK G base H gh w r none v gh w' :=
 ⟨Nat.le_refl _,hW.step (step_below hW hb H.length) (fun l=>⟨id,fun _=>id⟩) (fun b o h=>Nat.lt_of_lt_of_le (hW.sLt b o h) hb.size) (fun b h=>⟨(hW.kLt b h).1,Nat.lt_of_lt_of_le (hW.kLt b h).2 hb.size⟩) (fun _ _ _ h=>.inl h),
  (step_below hW hb H.length).mono (fun _ h=>h.elim),fun _ h=>h,.inl hv⟩
theorem chg_none:ChgOK H none:=⟨Nat.le_refl _,fun c h=>by cases h⟩
theorem args1 {vs:Array Value} {x:AV} (hs:vs.size=[x].length) (h:∀ (j:Nat) (v:Value) (y:AV),vs[j]?=some v→[x][j]?=some y→VR gh H.length w v y):∃ v,vs=#[v]∧VR gh H.length w v x:=by
 obtain⟨l⟩:=vs
 match l,hs with
 | [v],_=>exact⟨v,rfl,h 0 v x rfl rfl⟩
theorem args2 {vs:Array Value} {x y:AV} (hs:vs.size=[x,y].length) (h:∀ (j:Nat) (v:Value) (z:AV),vs[j]?=some v→[x,y][j]?=some z→VR gh H.length w v z):∃ u v,vs=#[u,v]∧VR gh H.length w u x∧VR gh H.length w v y:=by
 obtain⟨l⟩:=vs
 match l,hs with
 | [u,v],_=>exact⟨u,v,rfl,h 0 u x rfl rfl,h 1 v y rfl rfl⟩
theorem args3 {vs:Array Value} {x y z:AV} (hs:vs.size=[x,y,z].length) (h:∀ (j:Nat) (v:Value) (q:AV),vs[j]?=some v→[x,y,z][j]?=some q→VR gh H.length w v q) :
  ∃ t u v,vs=#[t,u,v]∧VR gh H.length w t x∧VR gh H.length w u y∧VR gh H.length w v z:=by
 obtain⟨l⟩:=vs
 match l,hs with
 | [t,u,v],_=>exact⟨t,u,v,rfl,h 0 t x rfl rfl,h 1 u y rfl rfl,h 2 v z rfl rfl⟩
end
theorem digitsF_eq:∀ (f n:Nat) (acc:List UInt8),n<f→digitsF f n acc=Lib.decDigits n++acc
 | 0,n,acc,h=>absurd h (Nat.not_lt_zero _)
 | f+1,n,acc,h=>by
  unfold digitsF
  rw[Lib.decDigits]
  by_cases hn:n<10
  ·rw[show Nat.blt n 10=true by simpa [Nat.blt_eq] using hn,dif_pos hn]
   rfl
  ·rw[show Nat.blt n 10=false by simpa [← Bool.not_eq_true,Nat.blt_eq] using hn,dif_neg hn,cond_false,digitsF_eq f (n / 10) _ (by omega)]
   simp
theorem itoaF_eq (n:Int):itoaF n=Lib.itoa n:=by
 unfold itoaF Lib.itoa
 cases n with
 | ofNat k =>
  simp only
  rw[digitsF_eq (k+1) k [] (by omega),if_neg (by simp)]
  simp
 | negSucc k =>
  simp only
  rw[digitsF_eq (k+2) (k+1) [] (by omega),if_pos (Int.negSucc_lt_zero k)]
  simp
theorem indexF_eq (c:Int) (h0:0≤c) (h1:c<256):∀ (l:List UInt8) (k:Nat),indexF c k l=if Lib.indexByte l c.toNat.toUInt8=-1 then -1 else Lib.indexByte l c.toNat.toUInt8+k
 | [],k=>by simp[indexF,Lib.indexByte]
 | b :: r,k=>by
  have hc:(c.toNat.toUInt8).toNat=c.toNat:=by simp;omega
  have hb:(b==c.toNat.toUInt8)=decide ((b.toNat:Int)=c):=by
   by_cases h:(b.toNat:Int)=c
   ·have:b=c.toNat.toUInt8:=UInt8.toNat_inj.1 (by rw[hc];omega)
    rw[decide_eq_true h];simpa using this
   ·have:b≠c.toNat.toUInt8:=fun e=>h (by rw[e,hc];omega)
    rw[decide_eq_false h];simpa using this
  have hge:∀ l:List UInt8, -1≤Lib.indexByte l c.toNat.toUInt8:=by
   intro l
   induction l with
   | nil=>simp[Lib.indexByte]
   | cons x l ih =>
    simp only[Lib.indexByte]
    split
    ·omega
    ·split
     ·omega
     ·rename_i h;simp at h;omega
  unfold indexF Lib.indexByte
  rw[hb]
  by_cases h:(b.toNat:Int)=c
  ·simp[h]
  ·have:=hge r
   simp only[h,decide_false,cond_false,if_false,Bool.false_eq_true]
   rw[indexF_eq c h0 h1 r (k+1)]
   by_cases hr:Lib.indexByte r c.toNat.toUInt8=-1
   ·simp[hr]
   ·simp only[beq_iff_eq,hr,if_false]
    rw[if_neg (by omega)]
    push_cast
    omega
theorem fnOK (f:FuncId) (fn:Func) (h:Tryz.prog.funcs[f]?=some fn) (hb:fn.body.isSome=true) (hn:fn.name≠ "runtime.NumGoroutine"):∃ fn,Tryz.prog.funcs[f]?=some fn∧fn.body.isSome=true∧fn.name≠ "runtime.NumGoroutine":=⟨fn,h,hb,hn⟩
theorem index_sound {G:Nat→List AV} : OvSound Tryz.prog G 81 ovIndexByte:=by
 intro args H r c he
 refine⟨fnOK 81 _ Tryz.func81 (by kernel_rfl) (by decide),?_⟩
 unfold ovIndexByte at he
 split at he
 ·rename_i l c'
  obtain⟨h0,he⟩:=cond_some he
  simp only[Bool.and_eq_true,decide_eq_true_eq] at h0
  simp only[Option.some.injEq,Prod.mk.injEq] at he
  obtain⟨rfl,rfl⟩:=he
  refine⟨chg_none,fun base gh w vs hW _ hs hrel=>?_⟩
  obtain⟨u,v,rfl,hu,hv⟩:=args2 hs hrel
  obtain⟨s,rfl,hl⟩:=hu.inv_str
  rw[hv.inv_int]
  refine (index_at s c' w).mono ?_
  rintro e w' ⟨rfl,rfl⟩
  refine⟨_,gh,rfl,ret_below hW (Below.refl _ _) ?_⟩
  rw[indexF_eq c' h0.1 h0.2 l 0,hl]
  have:(if Lib.indexByte l c'.toNat.toUInt8=-1 then (-1:Int) else Lib.indexByte l c'.toNat.toUInt8+(0:Nat))=Lib.indexByte l c'.toNat.toUInt8:=by split<;>simp_all
  rw[this]
  exact .plain _ _ (.int _ _)
 ·cases he
theorem below_grow (w:World) (k:Nat) (os:Array Obj):Below w.heap.size w (Sort.grow (w.drewN k) os):=by
 refine⟨rfl,rfl,rfl,by simp[Sort.grow,World.drewN],fun i hi=>?_⟩
 show (w.heap++os)[i]?=_
 rw[Array.getElem?_append_left hi]
theorem tab_is {G:Nat→List AV} {base:Nat} {gh:Gh} {w:World} {H:AHeap} (hW:WRel G base H gh w) {g:Nat} {name:String} (hg:Tryz.prog.globalNamed name=some g) {k:IntKind} {zs:List Int} (hG:G g=zs.map (.int k)) (hne:zs≠[]) :
  Lib.TabIs Tryz.prog w name k zs:=by
 obtain⟨ty,C,fr,h1,h2⟩:=hW.tabs g (by rw[hG];simpa using hne)
 have hC:C=(zs.map fun z=>Value.int k z).toArray:=by
  apply Array.ext_getElem?
  intro j
  rw[hG,List.length_map] at h2
  by_cases hj:j<zs.length
  ·have hx:(G g)[j]?=some (.int k zs[j]):=by rw[hG];simp[hj]
   obtain⟨v,hv,hp,_⟩:=hW.glob g j _ hx
   rw[cell_of_row w g j C ty fr h1] at hv
   cases hp
   rw[hv]
   simp[hj]
  ·rw[Array.getElem?_eq_none (by omega)]
   simp[List.getElem?_eq_none (show zs.length≤j by omega)]
 unfold Lib.TabIs World.var?
 rw[hg]
 simp only[Option.bind_some,h1,hC]
theorem itoa_sound:OvSound Tryz.prog tab 60 ovItoa:=by
 intro args H r c he
 refine⟨fnOK 60 _ Tryz.func60 (by kernel_rfl) (by decide),?_⟩
 unfold ovItoa at he
 split at he
 ·rename_i n
  obtain⟨h0,he⟩:=cond_some he
  simp only[Bool.and_eq_true,decide_eq_true_eq] at h0
  simp only[Option.some.injEq,Prod.mk.injEq] at he
  obtain⟨rfl,rfl⟩:=he
  refine⟨chg_none,fun base gh w vs hW _ hs hrel=>?_⟩
  obtain⟨u,rfl,hu⟩:=args1 hs hrel
  rw[hu.inv_int]
  refine (itoa_at n h0.1 h0.2 w (tab_is hW (by kernel_rfl) (g:=4) rfl (by simp[Lib.pow10Tab]))).mono ?_
  rintro e w' ⟨rfl,k,os,rfl⟩
  exact⟨_,gh,rfl,ret_below hW (below_grow w k os) (.plain _ _ (.str _ _ (by rw[itoaF_eq])))⟩
 ·cases he
theorem err_cell {base:Nat} {gh:Gh} {w:World} {H:AHeap} (hW:WRel tab base H gh w) {g:Nat} (hG:tab g=[.iface teErr .any]):∃ ev,w.cell? ⟨g,0,none⟩=some ev∧(ev=.nilIface∨∃ te pe,ev=.iface te pe):=by
 obtain⟨v,hv,hp,_⟩:=hW.glob g 0 (.iface teErr .any) (by rw[hG];rfl)
 cases hp with
 | iface _ u _ _=>exact⟨_,hv,.inr ⟨_,_,rfl⟩⟩
theorem tuple2 {gh:Gh} {n:Nat} {w:World} {u v:Value} {x y:AV} (h1:VR gh n w u x) (h2:VR gh n w v y):VR gh n w (.tuple #[u,v]) (.tuple [x,y]):=by
 refine .tuple _ _ rfl (fun j a b ha hb=>?_)
 match j with
 | 0=>simp at ha hb;subst ha hb;exact h1
 | 1=>simp at ha hb;subst ha hb;exact h2
 | j+2=>simp at ha
theorem atoi_sound:OvSound Tryz.prog tab 85 ovAtoi:=by
 intro args H r c he
 refine⟨fnOK 85 _ Tryz.func85 (by kernel_rfl) (by decide),?_⟩
 unfold ovAtoi at he
 split at he
 ·rename_i l
  obtain⟨h0,he⟩:=cond_some he
  have hlen:l.length≤281474976710656:=by simpa [Nat.ble_eq] using h0
  have hc:c=none:=by split at he<;>(simp only[Option.some.injEq,Prod.mk.injEq] at he;exact he.2.symm)
  subst hc
  refine⟨chg_none,fun base gh w vs hW _ hs hrel=>?_⟩
  obtain⟨u,rfl,hu⟩:=args1 hs hrel
  obtain⟨s,rfl,hl⟩:=hu.inv_str
  have hsize:s.size≤281474976710656:=by
   have:s.size=s.data.toList.length:=by simp
   rw[this,hl];exact hlen
  split at he
  ·rename_i v hat
   simp only[Option.some.injEq,Prod.mk.injEq,and_true] at he
   subst he
   refine (atoi_ok s (by omega) v (by rw[hl];exact hat) w).mono ?_
   rintro e w' ⟨rfl,hw⟩
   refine⟨_,gh,rfl,ret_below hW ?_ (tuple2 (.plain _ _ (.int _ _)) (.plain _ _ .niliface))⟩
   rcases hw with rfl|⟨t,rfl⟩
   ·exact Below.refl _ _
   ·exact Lib.bytesWorld_below _ _ _
  ·rename_i hat
   simp only[Option.some.injEq,Prod.mk.injEq,and_true] at he
   subst he
   obtain⟨ev,h1,h2⟩:=err_cell hW (g:=7) rfl
   refine (atoi_range s hsize (by rw[hl];exact hat) ev w h1 h2).mono ?_
   rintro e w' ⟨N,rfl,hb⟩
   rw[hl]
   exact⟨_,gh,rfl,ret_below hW hb (tuple2 (.plain _ _ (.int _ _)) (.iface _ _ _ (.plain _ _ (.any _ rfl))))⟩
  ·rename_i hno hnr
   simp only[Option.some.injEq,Prod.mk.injEq,and_true] at he
   subst he
   obtain⟨ev,h1,h2⟩:=err_cell hW (g:=6) rfl
   refine (atoi_bad s hsize (by rw[hl];exact fun v e=>hno v e) (by rw[hl];exact fun e=>hnr e) ev w h1 h2).mono ?_
   rintro e w' ⟨N,rfl,hb⟩
   exact⟨_,gh,rfl,ret_below hW hb (tuple2 (.plain _ _ (.int _ _)) (.iface _ _ _ (.plain _ _ (.any _ rfl))))⟩
 ·cases he
end Go.Proofs.YtemfofdaemgjgaaGreatDoor
end
section
set_option linter.unusedVariables false
set_option linter.unusedSimpArgs false
set_option maxHeartbeats 1000000
set_option maxRecDepth 100000
namespace Go.Proofs.YtemfofdaemgjgaaGreatDoor
open Go Go.Abs Go.Proofs Go.Shelf RowKit
theorem sizeB:(Tryz.prog.info? 125).map (·.size)=some 2:=by kernel_rfl
theorem liesB:liesAt Tryz.prog Tryz.prog.depth 125 (2 / Tryz.prog.cellsOf 125) 0 125 1=true:=by kernel_rfl
theorem copy_used (b:Nat) (w:World) (h0:w.cell? ⟨b,0,none⟩=some (.pointer (some ⟨b,0,none⟩))) :
  Calls Tryz.prog 78 #[.pointer (some ⟨b,0,none⟩)] w fun e w'=>e=.returned (.tuple #[])∧w'=w:=by
 obtain⟨j,hj,_⟩:=Option.map_eq_some_iff.1 sizeB
 go_enter Tryz.func78,Tryz.ntmps78
 go_wp2
 rw[Lib.run_neq_ptr_same w _ Tryz.underlying122 hj]
 go_wp2
 go_end0
 exact⟨rfl,rfl⟩
theorem copy_fresh (b:Nat) (w:World) (h0:w.cell? ⟨b,0,none⟩=some (.pointer none)) (hsh:w.shape? b=some (125,2)) (hfz:w.frozen? ⟨b,0,none⟩=false) :
  Calls Tryz.prog 78 #[.pointer (some ⟨b,0,none⟩)] w fun e w'=>e=.returned (.tuple #[])∧w'=w.setCell ⟨b,0,none⟩ (.pointer (some ⟨b,0,none⟩)):=by
 obtain⟨j,hj,hjs⟩:=Option.map_eq_some_iff.1 sizeB
 go_enter Tryz.func78,Tryz.ntmps78
 go_wp2
 rw[Lib.run_to_unsafe w ⟨b,0,none⟩ Tryz.underlying122 Tryz.underlying152 hj (by rw[hjs];decide) hsh (Nat.zero_lt_succ 1)]
 simp only[Result.andThen]
 rw[Oper.upon_value]
 go_wp2
 rw[run_callFunc_extern Tryz.func86 (by kernel_rfl) (by kernel_rfl) (by kernel_rfl) (e:=Extern.AbiNoEscape.same) (by kernel_rfl)]
 rw[Lib.run_noEscape]
 simp only[Result.andThen]
 rw[Oper.upon_value]
 go_wp2
 rw[Lib.run_from_unsafe w ⟨b,0,none⟩ Tryz.underlying152 Tryz.underlying122 hj hsh liesB]
 simp only[Result.andThen]
 rw[Oper.upon_value]
 go_wp2
 go_end0
 exact⟨rfl,rfl⟩
theorem copy_sound {G:Nat→List AV} : OvSound Tryz.prog G 78 ovCopyCheck:=by
 intro args H r c he
 refine⟨fnOK 78 _ Tryz.func78 (by kernel_rfl) (by decide),?_⟩
 unfold ovCopyCheck at he
 split at he
 ·rename_i l
  split at he
  ·
   rename_i x hH
   simp only[Option.some.injEq,Prod.mk.injEq] at he
   obtain⟨rfl,rfl⟩:=he
   have hlt:l<H.length:=(List.getElem?_eq_some_iff.1 hH).1
   refine⟨⟨by simp[newH],fun c' hc'=>?_⟩,fun base gh w vs hW _ hs hrel=>?_⟩
   ·injection hc' with hc'
    subst hc'
    refine⟨Nat.le_of_lt hlt,fun k hk=>?_⟩
    simp only at hk ⊢
    rw[List.getElem?_set_ne (by omega)]
   ·obtain⟨u,rfl,hu⟩:=args1 hs hrel
    obtain⟨_,rfl⟩:=hu.inv_ref
    obtain⟨hκ,hS,C,ty,hb,hC,hcs⟩:=hW.boxes l _ _ hH
    obtain⟨C2,fr2,hb2,hC2⟩:=hW.types l _ _ hH (by decide)
    rw[hb] at hb2
    injection hb2 with hb2
    injection hb2 with e1 e2 e3
    subst e1 e2
    have hC2:C.size=2:=hC2
    have h0:C[0]?=some C[0]:=Array.getElem?_eq_getElem (by omega)
    have hc0:C[0]=.pointer none:=by
     have:=(hcs 0 _ .nilptr h0 rfl).2.dropped
     generalize C[0]=V at this
     cases this with
     | plain _ _ h=>cases h;rfl
    have hcell:w.cell? ⟨gh.ρ l,0,none⟩=some (.pointer none):=by rw[cell_of_row w _ 0 C _ _ hb,h0,hc0]
    have hno:∀ o,gh.S (gh.ρ l) o→(C.setIfInBounds 0 (.pointer (some ⟨gh.ρ l,0,none⟩)))[o]?=C[o]?:=fun o ho=>(hS o ho).elim
    have st:=row_step0 hW hb (by simp) hno H.length
    rw[hκ] at st
    refine (copy_fresh (gh.ρ l) w hcell (by simp[World.shape?,hb,hC2]) (by simp[World.frozen?,hb])).mono ?_
    rintro e w' ⟨rfl,rfl⟩
    rw[setCell_eq_setRow w (gh.ρ l) 0 C _ (0,0) _ hb]
    have hW' : WRel G base (H.set l (.box 125 [.ref l 0,x])) gh (w.setRow (gh.ρ l) (C.setIfInBounds 0 (.pointer (some ⟨gh.ρ l,0,none⟩)))):=by
     refine hW.setBox st hH (by intro k hk;simp[hk]) (fun b o ho=>by simpa using hW.sLt b o ho) (fun b hb=>by simpa using hW.kLt b hb) ⟨hκ,hS,_,_,setRow_heap w _ C _ _ _ hb,by simpa using hC,fun j v y hv hy=>?_⟩ ?_ ?_ ?_
     ·match j with
      | 0 =>
       simp at hy
       subst hy
       rw[Array.getElem?_setIfInBounds_self_of_lt (by omega)] at hv
       injection hv with hv
       subst hv
       exact⟨rfl,.inl (.ref l 0 hlt)⟩
      | j+1 =>
       rw[Array.getElem?_setIfInBounds_ne (by omega)] at hv
       obtain⟨k1,k2⟩:=hcs (j+1) v y hv (by simpa using hy)
       exact⟨k1,k2.mono st (Nat.le_refl _) (by simp)⟩
     ·have:=hW.refs l _ _ hH
      simp only[List.all_cons,List.all_nil,Bool.and_true,Bool.and_eq_true] at this ⊢
      exact⟨by simp[heapCell],this.2⟩
     ·exact fun _ _ h=>h
     ·rfl
    refine⟨_,gh,rfl,by simp[newH],hW',st.mono (fun p hp=>.inl ⟨l,hp⟩),fun _ h=>h,.inl .undef⟩
  ·
   rename_i l' y hH
   obtain⟨h0,he1⟩:=cond_some he
   clear he
   have hll:l=l':=by simpa [nbeq] using h0
   simp only[Option.some.injEq,Prod.mk.injEq] at he1
   obtain⟨rfl,rfl⟩:=he1
   subst hll
   refine⟨chg_none,fun base gh w vs hW _ hs hrel=>?_⟩
   obtain⟨u,rfl,hu⟩:=args1 hs hrel
   obtain⟨_,rfl⟩:=hu.inv_ref
   obtain⟨hκ,hS,C,ty,hb,hC,hcs⟩:=hW.boxes l _ _ hH
   have hC2:2≤C.size:=hC
   have h0' : C[0]?=some C[0]:=Array.getElem?_eq_getElem (by omega)
   have hc0:C[0]=.pointer (some ⟨gh.ρ l,0,none⟩):=(VR.inv_ref (hcs 0 _ (.ref l 0) h0' rfl).2.dropped).2
   refine (copy_used (gh.ρ l) w (by rw[cell_of_row w _ 0 C _ _ hb,h0',hc0])).mono ?_
   rintro e w' ⟨rfl,rfl⟩
   exact⟨_,gh,rfl,ret_below hW (Below.refl _ _) .undef⟩
  ·cases he
 ·cases he
end Go.Proofs.YtemfofdaemgjgaaGreatDoor
end
section
set_option linter.unusedVariables false
set_option linter.unusedSimpArgs false
set_option maxHeartbeats 1000000
set_option maxRecDepth 100000
namespace Go.Proofs.YtemfofdaemgjgaaGreatDoor
open Go Go.Abs Go.Proofs Go.Shelf RowKit
theorem string_gen (b:Nat) (a q:Option Addr) (n cap:Nat) (s:ByteArray) (w W1 W:World) (c1:w.drew.cell? ⟨b,1,none⟩=some (.slice a n cap)) (c2:W1.cell? ⟨b,1,none⟩=some (.slice a n cap))
  (hSD:(Builtin.unsafeSliceData_ #[123] 142 #[.slice a n cap]).run Tryz.prog w.drew=.ok (.pointer q) W1)
  (hUS:(Builtin.unsafeString_ #[142,3] 9 #[.pointer q,.int .i64 n]).run Tryz.prog W1=.ok (.string s) W) :
  Calls Tryz.prog 61 #[.pointer (some ⟨b,0,none⟩)] w fun e w'=>e=.returned (.string s)∧w'=W:=by
 have mixed:Tryz.prog.follows .mixedOrders=true:=by kernel_rfl
 go_enter Tryz.func61,Tryz.ntmps61
 go_wp2
 go_region_o
 all_goals (go_wp2;go_ret;exact⟨rfl,rfl⟩)
end Go.Proofs.YtemfofdaemgjgaaGreatDoor
end
section
set_option linter.unusedVariables false
set_option linter.unusedSimpArgs false
namespace Go.Proofs.YtemfofdaemgjgaaGreatDoor
open Go Go.Abs Go.Proofs Go.Shelf RowKit
theorem liesAt_off {P:Program} {e:TypeId} (hc:P.cellsOf e=1) (count n off:Nat) (hn:off+n≤count):liesAt P P.depth e count off e n=true:=by
 have hd:P.depth=(2*(P.types.size+Made.depth)+1)+1:=rfl
 rw[hd]
 simp only[liesAt,Bool.or_eq_true]
 left
 rw[hd]
 simp[rowAt,hc,hn,sameLayout]
 exact .inl (Nat.mod_one off)
theorem run_unsafeString_off {P:Program} (w:World) (pt it ty e:TypeId) (hp:P.underlying pt=some (.pointer e)) (hc:P.cellsOf e=1) (g off cells:Nat) (hsh:w.shape? g=some (e,cells)) (l:List UInt8) (h0:l≠[]) (hn:off+l.length≤cells) (h63:l.length≤9223372036854775807)
  (hcell:∀ j x,l[j]?=some x→w.cell? ((⟨g,off,none⟩:Addr).add j)=some (.int .u8 x.toNat)) :
  (Builtin.unsafeString_ #[pt,it] ty #[.pointer (some ⟨g,off,none⟩),.int .i64 l.length]).run P w=.ok (.string ⟨l.toArray⟩) (w.freeze ⟨g,off,none⟩ l.length):=by
 have hl:l.length≠0:=by simpa using h0
 have hlb:=Lib.run_loadBytes (P:=P) w l ⟨g,off,none⟩ .empty hcell
 have hlies:=liesAt_off (P:=P) hc (cells / P.cellsOf e) l.length off (by rw[hc];simpa using hn)
 have h63' : ¬ (9223372036854775807:Int)<(l.length:Int):=by omega
 have hdef:Builtin.unsafeString_ #[pt,it] ty #[.pointer (some ⟨g,off,none⟩),.int .i64 l.length] =
   (do
    let n ← asInt (.int .i64 l.length)
    if n<0 then runtimePanic (.error "unsafe.String: len out of range")
    if n>IntKind.i64.max then unsupported (.unsafePointer "String: a length above the largest int")
    if n=0 then pure (.string .empty)
    else if ← variablesAt ⟨g,off,none⟩ (← elemOf pt) n.toNat then do
     let s ← loadBytes ⟨g,off,none⟩ .empty n.toNat
     freeze ⟨g,off,none⟩ n.toNat
     pure (.string s)
    else unsupported (.unsafePointer "String: not so many bytes at ptr")):=rfl
 rw[hdef]
 have hmax:IntKind.i64.max=9223372036854775807:=rfl
 have hneg:¬ (l.length:Int)<0:=by omega
 simp[asInt,asIntOf,hmax,h63',hneg,hl,variablesAt,hsh,elemOf,run_underlying hp,hlies,hlb]
end Go.Proofs.YtemfofdaemgjgaaGreatDoor
end
section
set_option linter.unusedVariables false
set_option linter.unusedSimpArgs false
namespace Go.Proofs.YtemfofdaemgjgaaGreatDoor
open Go Go.Abs Go.Proofs Go.Shelf RowKit
section
variable {G:Nat→List AV} {base:Nat} {gh:Gh} {w w' : World} {H:AHeap}
theorem ret_step (hW:WRel G base H gh w) (st:Step (fun _=>False) H.length gh w gh w') {v:Value} {r:AV} (hv:VR gh H.length w' v r):RetOK G base H gh w r none v gh w' :=
 ⟨Nat.le_refl _,hW.step st (fun l=>⟨id,fun _=>id⟩) (fun b o h=>Nat.lt_of_lt_of_le (hW.sLt b o h) st.size) (fun b h=>⟨(hW.kLt b h).1,Nat.lt_of_lt_of_le (hW.kLt b h).2 st.size⟩) (fun _ _ _ h=>.inl h),
  st.mono (fun _ h=>h.elim),fun _ h=>h,.inl hv⟩
theorem step_freeze (hW:WRel G base H gh w) {b o n:Nat} {C:Array Value} {ty:TypeId} {fr:Nat × Nat} (hb:w.heap[b]?=some (.cells C ty fr)) (hn:n≠0) (hS:∀ j,j<n→gh.S b (o+j)) (h8:∃ m,C[o]?=some (.int .u8 m)) (m:Nat) :
  Step (fun _=>False) m gh w gh (w.drew.freeze ⟨b,o,none⟩ n):=by
 have hlt:b<w.heap.size:=(Array.getElem?_eq_some_iff.1 hb).1
 have hheap:∀ k,(w.drew.freeze ⟨b,o,none⟩ n).heap[k]?=if k=b then some (.cells C ty (if fr.1==fr.2 then (o,o+n) else (min fr.1 o,max fr.2 (o+n)))) else w.heap[k]?:=by
  intro k
  unfold World.freeze
  rw[if_neg hn]
  show (w.heap.modify b _)[k]?=_
  rw[Array.getElem?_modify]
  by_cases hk:k=b
  ·subst hk
   rw[if_pos rfl,if_pos rfl,hb]
   obtain⟨lo,hi⟩:=fr
   rfl
  ·rw[if_neg (fun e=>hk e.symm),if_neg hk]
 have hcell:∀ k j,(w.drew.freeze ⟨b,o,none⟩ n).cell? ⟨k,j,none⟩=w.cell? ⟨k,j,none⟩:=by
  intro k j
  simp only[World.cell?,hheap]
  by_cases hk:k=b
  ·subst hk;rw[if_pos rfl,hb]
  ·rw[if_neg hk]
 have hsize:(w.drew.freeze ⟨b,o,none⟩ n).heap.size=w.heap.size:=by
  unfold World.freeze
  rw[if_neg hn]
  show (w.heap.modify b _).size=_
  simp
 have hos:(w.drew.freeze ⟨b,o,none⟩ n).os=w.os∧(w.drew.freeze ⟨b,o,none⟩ n).tape=w.tape∧(w.drew.freeze ⟨b,o,none⟩ n).output=w.output:=by
  unfold World.freeze
  rw[if_neg hn]
  exact⟨rfl,rfl,rfl⟩
 refine⟨fun _ _ h=>h,fun k j _=>hcell k j,by rw[hsize];exact Nat.le_refl _,hos.1,hos.2.1,hos.2.2,fun k hk _=>⟨?_,rfl,fun _ h=>h⟩,fun k hk=>hW.not_outer k (by rw[← hsize];rw[hsize];exact hk),fun _ _=>rfl,fun k ty' m' hm=>?_,fun k E ck _ h0=>?_⟩
 rotate_left 2
 ·rw[hheap]
  by_cases hkb:k=b
  ·subst hkb;rw[hb] at h0;cases h0
  ·rw[if_neg hkb];exact h0
 ·rw[hheap]
  by_cases hkb:k=b
  ·subst hkb
   rw[if_pos rfl,hb]
   obtain⟨lo,hi⟩:=fr
   obtain⟨m8,h8⟩:=h8
   have hlast:∀ q,(∀ o,q≤o→¬ gh.S k o)→o+n≤q:=fun q hno=>by
    rcases Nat.lt_or_ge (o+(n-1)) q with h|h
    ·omega
    ·exact absurd (hS (n-1) (by omega)) (hno _ h)
   by_cases hlh:(lo==hi)=true
   ·exact .inr ⟨C,ty,lo,hi,o,o+n,rfl,by rw[if_pos hlh],⟨o,m8,by simpa using hS 0 (by omega),h8⟩,fun q hq hno=>hlast q hno⟩
   ·exact .inr ⟨C,ty,lo,hi,min lo o,max hi (o+n),rfl,by rw[if_neg hlh],⟨o,m8,by simpa using hS 0 (by omega),h8⟩,fun q hq hno=>by have:=hlast q hno;omega⟩
  ·rw[if_neg hkb];exact .inl rfl
 ·obtain⟨C',fr',h1,h2⟩:=hm
  by_cases hkb:k=b
  ·subst hkb
   rw[hb] at h1
   injection h1 with h1
   injection h1 with e1 e2 e3
   subst e1 e2
   exact⟨C,_,by rw[hheap,if_pos rfl],h2⟩
  ·exact⟨C',fr',by rw[hheap,if_neg hkb];exact h1,h2⟩
end
theorem run_getObj (P:Program) (w:World) {r:Nat} {o:Obj} (h:w.heap[r]?=some o) (hc:∀ C t f,o≠.cells C t f):(getObj r).run P w=.ok o w:=by
 cases o<;>first|(exact absurd rfl (hc _ _ _))|simp[getObj,Sem.run,h]
theorem run_sliceData0 (w:World) (ad:Addr) (h:ad.block<w.heap.size):∃ q W1,(Builtin.unsafeSliceData_ #[123] 142 #[.slice (some ad) 0 0]).run Tryz.prog w.drew=.ok (.pointer q) W1∧Below w.heap.size w W1:=by
 have hp:Tryz.prog.underlying 142=some (.pointer 5):=Tryz.underlying142
 have hdef:Builtin.unsafeSliceData_ #[123] 142 #[.slice (some ad) 0 0] =
   (do
    if (0:Nat)≠0 then pure (.pointer (some ad))
    else if (← viewAt ad.block).isSome then pure (.pointer (some ad))
    else pure (.pointer (some ⟨← newObj (.view ad (← elemOf 142)),0,none⟩))):=rfl
 have hlt:ad.block<w.drew.heap.size:=h
 rw[hdef]
 cases ho:w.drew.heap[ad.block]? with
 | none=>rw[Array.getElem?_eq_getElem hlt] at ho;cases ho
 | some o =>
  cases o with
  | cells C ty fr =>
   refine⟨some ⟨w.heap.size,0,none⟩,w.drew.alloc (.view ad 5),?_,(Below.drew (Below.refl _ w)).alloc (Nat.le_refl _) _⟩
   have hsh:w.drew.shape? ad.block=some (ty,C.size):=by simp[World.shape?,ho]
   simp[viewAt,hsh,elemOf,run_underlying hp]
  | view a t =>
   refine⟨some ad,w.drew,?_,Below.drew (Below.refl _ w)⟩
   have hg:=run_getObj Tryz.prog w.drew ho (fun _ _ _ h=>by cases h)
   have hsh:w.drew.shape? ad.block=none:=by simp[World.shape?,ho]
   simp[viewAt,hsh,hg,Result.andThen]
  | _ =>
   refine⟨some ⟨w.heap.size,0,none⟩,w.drew.alloc (.view ad 5),?_,(Below.drew (Below.refl _ w)).alloc (Nat.le_refl _) _⟩
   have hg:=run_getObj Tryz.prog w.drew ho (fun _ _ _ h=>by cases h)
   have hsh:w.drew.shape? ad.block=none:=by simp[World.shape?,ho]
   simp[viewAt,hsh,elemOf,run_underlying hp,hg,Result.andThen]
theorem cell_lt' {w:World} {b o:Nat} {v:Value} (h:w.cell? ⟨b,o,none⟩=some v):b<w.heap.size:=by
 rcases Nat.lt_or_ge b w.heap.size with h'|h'
 ·exact h'
 ·simp[World.cell?,Array.getElem?_eq_none h'] at h
theorem bytes_row:∀ {e:List (List AV)} {l:List UInt8},bytesOf e=some l→e.length=l.length∧∀ (i:Nat) (b:UInt8),l[i]?=some b→∃ m:Int,e[i]?=some [.int .u8 m]∧b=UInt8.ofNat m.toNat
 | [],l,h=>by
  simp only[bytesOf,Option.some.injEq] at h
  subst h
  exact⟨rfl,fun i b h=>by simp at h⟩
 | r :: e,l,h=>by
  unfold bytesOf at h
  split at h
  ·cases ‹_ :: _=[]›
  ·rename_i n e' heq
   injection heq with h1 h2
   subst h1 h2
   obtain⟨l',h3,rfl⟩:=Option.map_eq_some_iff.1 h
   obtain⟨k1,k2⟩:=bytes_row h3
   refine⟨by simp[k1],fun i b hb=>?_⟩
   cases i with
   | zero=>simp at hb;exact⟨n,rfl,hb.symm⟩
   | succ i=>exact k2 i b (by simpa using hb)
  ·cases h
theorem string_sound {G:Nat→List AV} : OvSound Tryz.prog G 61 ovString:=by
 intro args H r c he
 refine⟨fnOK 61 _ Tryz.func61 (by kernel_rfl) (by decide),?_⟩
 unfold ovString at he
 split at he
 ·rename_i l
  split at he
  ·rename_i x e hH
   obtain⟨h0,he⟩:=cond_some he
   simp only[Bool.and_eq_true] at h0
   have hlen:e.length≤4611686018427387904:=by simpa [Nat.ble_eq] using h0.1
   have hrange:=h0.2
   obtain⟨bs,hbs,he⟩:=Option.map_eq_some_iff.1 he
   simp only[Prod.mk.injEq] at he
   obtain⟨rfl,rfl⟩:=he
   obtain⟨hbl,hbr⟩:=bytes_row hbs
   have hlt:l<H.length:=(List.getElem?_eq_some_iff.1 hH).1
   refine⟨chg_none,fun base gh w vs hW _ hs hrel=>?_⟩
   obtain⟨u,rfl,hu⟩:=args1 hs hrel
   obtain⟨_,rfl⟩:=hu.inv_ref
   obtain⟨hκ,hS,C,ty,hb,hC,hcs⟩:=hW.boxes l _ _ hH
   have hC2:2≤C.size:=hC
   have h1:C[1]?=some C[1]:=Array.getElem?_eq_getElem (by omega)
   have hv:=(hcs 1 _ (.slice e true) h1 rfl).2
   have hcell:w.cell? ⟨gh.ρ l,1,none⟩=some C[1]:=by rw[cell_of_row w _ 1 C _ _ hb,h1]
   generalize C[1]=v at hv hcell
   by_cases hne:e=[]
   ·subst hne
    have hb0:bs=[]:=by
     simp only[bytesOf,Option.some.injEq] at hbs;exact hbs.symm
    subst hb0
    have hv' : ∃ a,v=.slice a 0 0∧∀ ad,a=some ad→ad.block<w.heap.size:=by
     rcases hv with hv|⟨e',heq,_,_,_,_,_,_,_,_,_,_,hne',_⟩
     ·cases hv with
      | plain _ _ h=>cases h
      | full a k _ h hz =>
       have hk:k=0:=by cases h with
        | sliceNil=>rfl
        | slice _ _ _ _ _ _ _ hn=>simpa using hn.symm
       subst hk
       exact⟨a,rfl,fun ad ha=>hz ad ha rfl⟩
     ·injection heq with heq;subst heq;exact absurd rfl hne'
    obtain⟨a,rfl,hz⟩:=hv'
    have c1:w.drew.cell? ⟨gh.ρ l,1,none⟩=some (.slice a 0 0):=hcell
    have fin:∀ (q:Option Addr) (W1:World),(Builtin.unsafeSliceData_ #[123] 142 #[.slice a 0 0]).run Tryz.prog w.drew=.ok (.pointer q) W1→Below w.heap.size w W1→Calls Tryz.prog 61 #[.pointer (some ⟨gh.ρ l,0,none⟩)] w fun e w'=>∃ v gh',e=.returned v∧RetOK G base H gh w (.str []) none v gh' w':=by
     intro q W1 hSD hbel
     have c2:W1.cell? ⟨gh.ρ l,1,none⟩=some (.slice a 0 0):=by rw[hbel.cell (cell_lt' hcell)];exact hcell
     refine (string_gen (gh.ρ l) a q 0 0 .empty w W1 W1 c1 c2 hSD (Lib.run_unsafeString_none W1 _ _ _ q)).mono ?_
     rintro e w' ⟨rfl,rfl⟩
     exact⟨_,gh,rfl,ret_below hW hbel (.plain _ _ (.str _ _ rfl))⟩
    cases a with
    | none=>exact fin none w.drew rfl (Below.drew (Below.refl _ w))
    | some ad =>
     obtain⟨q,W1,h1,h2⟩:=run_sliceData0 w ad (hz ad rfl)
     exact fin q W1 h1 h2
   ·have hpr:PR gh.S w v (.slice e false):=by
     rcases hv with hv|⟨e',heq,h,_⟩
     ·cases hv with
      | plain _ _ h=>cases h
      | full a k _ h hz=>exact h
     ·injection heq with heq;subst heq;exact h
    cases hpr with
    | sliceNil=>exact absurd rfl hne
    | slice b o n cap sz _ f hn hcap hrow hcell2 hrel2 =>
     subst hn
     have hpos:0<e.length:=List.length_pos_iff.2 hne
     have hbpos:0<bs.length:=by omega
     obtain⟨m0,hm0,_⟩:=hbr 0 bs[0] (List.getElem?_eq_getElem hbpos)
     have hsz:sz=1:=(hrow 0 _ hm0).symm
     subst hsz
     have each:∀ (i:Nat) (x:UInt8),bs[i]?=some x→gh.S b (o+i)∧w.cell? ⟨b,o+i,none⟩=some (.int .u8 x.toNat):=by
      intro i x hx
      obtain⟨m,hm,rfl⟩:=hbr i x hx
      obtain⟨k1,k2,_⟩:=hcell2 i 0 _ _ hm rfl
      have hr:=hrel2 i 0 _ _ hm rfl
      have hf:f i 0=.int .u8 m:=by
       generalize f i 0=V at hr
       cases hr;rfl
      simp only[Nat.mul_one,Nat.add_zero] at k1 k2
      refine⟨k1,?_⟩
      rw[k2,hf]
      have hm8:=List.all_eq_true.1 hrange _ (List.mem_of_getElem? hm)
      simp only[Bool.and_eq_true,decide_eq_true_eq] at hm8
      have e1:((UInt8.ofNat m.toNat).toNat:Int)=m:=by
       rw[UInt8.toNat_ofNat']
       omega
      rw[e1]
     obtain⟨Cb,fr,hbb⟩:∃ Cb fr,w.heap[b]?=some (.cells Cb byteTy fr):=by
      have:=each 0 bs[0] (List.getElem?_eq_getElem hbpos)
      exact hW.bytes b (o+0) _ this.1 this.2
     have hsh:w.drew.shape? b=some (5,Cb.size):=by
      have:w.drew.heap[b]?=some (.cells Cb byteTy fr):=hbb
      simp[World.shape?,this]
     have hin:o+bs.length≤Cb.size:=by
      have:=(each (bs.length-1) bs[bs.length-1] (List.getElem?_eq_getElem (by omega))).2
      rw[cell_of_row w b _ Cb _ _ hbb] at this
      have:=(Array.getElem?_eq_some_iff.1 this).1
      omega
     have c1:w.drew.cell? ⟨gh.ρ l,1,none⟩=some (.slice (some ⟨b,o,none⟩) e.length cap):=hcell
     have hSD:(Builtin.unsafeSliceData_ #[123] 142 #[.slice (some ⟨b,o,none⟩) e.length cap]).run Tryz.prog w.drew=.ok (.pointer (some ⟨b,o,none⟩)) w.drew:=Lib.run_unsafeSliceData_row _ _ _ _ _ _ (by omega)
     have hUS:=run_unsafeString_off (P:=Tryz.prog) w.drew 142 3 9 5 Tryz.underlying142 (by kernel_rfl) b o Cb.size hsh bs (by intro e;rw[e] at hbpos;simp at hbpos) hin (by omega) (fun j x hx=>by
      have hadd:(Addr.mk b o none).add j=⟨b,o+j,none⟩:=by
       unfold Addr.add
       split
       ·rename_i h0;subst h0;simp
       ·simp
      rw[hadd];exact (each j x hx).2)
     rw[← hbl] at hUS
     refine (string_gen (gh.ρ l) _ _ e.length cap _ w _ _ c1 c1 hSD hUS).mono ?_
     rintro e' w' ⟨rfl,rfl⟩
     refine⟨_,gh,rfl,ret_step hW (step_freeze hW hbb (by omega) (fun j hj=>(each j bs[j] (List.getElem?_eq_getElem (by omega))).1) ⟨bs[0].toNat,?_⟩ _) (.plain _ _ (.str _ _ rfl))⟩
     have:=(each 0 bs[0] (List.getElem?_eq_getElem hbpos)).2
     rw[cell_of_row w b _ Cb _ _ hbb] at this
     simpa using this
  ·cases he
 ·cases he
end Go.Proofs.YtemfofdaemgjgaaGreatDoor
end
section
set_option linter.unusedVariables false
set_option linter.unusedSimpArgs false
namespace Go.Proofs.YtemfofdaemgjgaaGreatDoor
open Go Go.Abs Go.Proofs Go.Shelf RowKit Go.Maps
def okd (author:Int) (ws:List Int) (k:Nat):List Int:=(ws.take k).filter fun x=>decide (x≠author)
def Dk (author:Int) (ws:List Int) (k:Nat):DataW Unit:=setOf (.lit (.bool true)) ((okd author ws k).map (Lit.int .i64))
theorem okd_succ (author:Int) (ws:List Int) (k:Nat) (hk:k<ws.length):okd author ws (k+1)=okd author ws k++(if ws.getD k 0=author then [] else [ws.getD k 0]):=by
 unfold okd
 rw[List.take_add_one,List.filter_append]
 simp only[List.getElem?_eq_getElem hk,Option.toList_some,List.getD,Option.getD_some]
 by_cases h:ws[k]=author<;>simp[h]
theorem Dk_old (author:Int) (ws:List Int) (k:Nat) (hk:k<ws.length) (h:ws.getD k 0=author):Dk author ws (k+1)=Dk author ws k:=by
 unfold Dk;rw[okd_succ _ _ _ hk,if_pos h,List.append_nil]
theorem Dk_new (author:Int) (ws:List Int) (k:Nat) (hk:k<ws.length) (h:ws.getD k 0≠author):Dk author ws (k+1)=(Dk author ws k).put (.int .i64 (ws.getD k 0)) (.lit (.bool true)):=by
 unfold Dk;rw[okd_succ _ _ _ hk,if_neg h,List.map_append,List.map_singleton,setOf_snoc]
theorem any_int (x:Int):∀ l:List Int,l.any ((fun y:Lit=>y.sameKey (.int .i64 x)) ∘ Lit.int .i64)=l.contains x
 | []=>rfl
 | a :: r=>by
  rw[List.any_cons,List.contains_cons,any_int x r]
  congr 1
  show decide (IntKind.i64=IntKind.i64∧a=x)=(x==a)
  by_cases e:a=x
  ·subst e
   simp
  ·have e' : ¬ x=a:=fun h=>e h.symm
   simp[e,e']
theorem has_Dk (author:Int) (ws:List Int) (k:Nat) (x:Int):Maps.has (Dk author ws k) (.int .i64 x)=(okd author ws k).contains x:=by
 unfold Dk
 rw[has_setOf _ _ _ (fun y hy=>by obtain⟨_,_,rfl⟩:=List.mem_map.1 hy;trivial),List.any_map]
 exact any_int x _
theorem mem_others (author x:Int):∀ l,x∈others author l↔x≠author∧x∈l
 | []=>by simp[others]
 | y :: r=>by
  unfold others
  have ih:=mem_others author x r
  by_cases h:y=author
  ·simp only[h,decide_true,Bool.true_or,cond_true,ih,List.mem_cons]
   constructor
   ·rintro ⟨a,b⟩;exact⟨a,.inr b⟩
   ·rintro ⟨a,b|b⟩
    ·exact absurd b a
    ·exact⟨a,b⟩
  ·by_cases hm:y∈r
   ·have he:r.elem y=true:=by simpa using hm
    simp only[he,Bool.or_true,cond_true,ih,List.mem_cons]
    constructor
    ·rintro ⟨a,b⟩;exact⟨a,.inr b⟩
    ·rintro ⟨a,b|b⟩
     ·subst b;exact⟨a,hm⟩
     ·exact⟨a,b⟩
   ·have he:r.elem y=false:=by simpa using hm
    simp only[he,h,decide_false,Bool.or_false,cond_false,List.mem_cons,ih]
    constructor
    ·rintro (rfl|⟨a,b⟩)
     ·exact⟨h,.inl rfl⟩
     ·exact⟨a,.inr b⟩
    ·rintro ⟨a,b|b⟩
     ·exact .inl b
     ·exact .inr ⟨a,b⟩
theorem nodup_others (author:Int):∀ l,(others author l).Nodup
 | []=>by simp[others]
 | y :: r=>by
  unfold others
  by_cases h:(decide (y=author) || r.elem y)=true
  ·rw[h,cond_true];exact nodup_others author r
  ·have h' : (decide (y=author) || r.elem y)=false:=by simpa using h
   rw[h',cond_false,List.nodup_cons]
   refine⟨fun hm=>?_,nodup_others author r⟩
   have:=((mem_others author y r).1 hm).2
   simp[this] at h
structure Todo (left:Lit→Bool) (todo:List Int):Prop where
 nodup:todo.Nodup
 left:∀ x,left (.int .i64 x)=todo.contains x
theorem todo_start (author:Int) (ws:List Int):Todo (Maps.has (Dk author ws ws.length)) (others author ws):=by
 refine⟨nodup_others author ws,fun x=>?_⟩
 rw[has_Dk]
 apply Bool.eq_iff_iff.2
 simp only[List.contains_iff_mem,mem_others]
 unfold okd
 simp[List.mem_filter,and_comm]
theorem todo_step {left:Lit→Bool} {todo:List Int} (h:Todo left todo) {x:Int} (hx:left (.int .i64 x)=true):Todo (fun z=>left z&&!z.sameKey (.int .i64 x)) (todo.erase x):=by
 refine⟨h.nodup.erase x,fun y=>?_⟩
 rw[h.left y]
 have:(Lit.int .i64 y).sameKey (.int .i64 x)=decide (y=x):=by
  show decide (IntKind.i64=IntKind.i64∧y=x)=_
  simp
 rw[this]
 apply Bool.eq_iff_iff.2
 simp[h.nodup.mem_erase_iff,and_comm]
theorem todo_end {left:Lit→Bool} {todo:List Int} (h:Todo left todo) (hl:∀ z,left z=false):todo=[]:=by
 cases todo with
 | nil=>rfl
 | cons x r=>have:=h.left x;rw[hl] at this;simp at this
theorem todo_count {todo:List Int} {p:Int→Bool} {x:Int} (hx:x∈todo):(todo.filter p).length=((todo.erase x).filter p).length+(if p x then 1 else 0):=by
 have h:=(List.perm_cons_erase hx).filter p
 rw[h.length_eq,List.filter_cons]
 split<;>simp
structure RuleAt (w:World) (b o:Nat) (n:Int) (xs:List Int):Prop where
 ex:∃ s0 s1 a cw,w.cell? ⟨b,o,none⟩=some (.string s0)∧w.cell? ⟨b,o+1,none⟩=some (.string s1)∧w.cell? ⟨b,o+2,none⟩=some (.int .i64 n)∧w.cell? ⟨b,o+3,none⟩=some (.slice a xs.length cw) ∧
  (xs=[]∨∃ bb oo,a=some ⟨bb,oo,none⟩∧∀ j,j<xs.length→w.cell? ⟨bb,oo+j,none⟩=some (.int .i64 (xs.getD j 0)))
def IntsAt (w:World) (a:Option Addr) (xs:List Int):Prop:=xs=[]∨∃ bb oo,a=some ⟨bb,oo,none⟩∧∀ j,j<xs.length→w.cell? ⟨bb,oo+j,none⟩=some (.int .i64 (xs.getD j 0))
theorem contains_at (a:Option Addr) (c:Nat) (xs:List Int) (x:Int) (w:World) (h:IntsAt w a xs) (hl:xs.length≤4611686018427387904) :
  Calls Tryz.prog 57 #[.slice a xs.length c,.int .i64 x] w fun e w'=>e=.returned (.bool (xs.contains x))∧w'=w:=by
 rcases h with rfl|⟨b,o,rfl,h⟩
 ·exact Any.slices_Contains_int_empty layContains a c x w
 ·have:=Any.slices_Contains_int layContains b o xs.length c xs x w (Nat.le_refl _) (by omega) h
  rwa [List.take_length] at this
theorem law3:Keyed Tryz.prog 3:=int_keyed Tryz.underlying3
theorem IntsAt.below {w w' : World} {a:Option Addr} {xs:List Int} (h:IntsAt w a xs) (hb:Below w.heap.size w w'):IntsAt w' a xs:=by
 rcases h with h|⟨bb,oo,ha,h⟩
 ·exact .inl h
 ·exact .inr ⟨bb,oo,ha,fun j hj=>by rw[hb.cell (cell_lt' (h j hj))];exact h j hj⟩
theorem invK (key:Value) (kl:Lit) (h:keyOf Tryz.prog 3 key=some kl):∃ x,key=.int .i64 x:=by
 obtain⟨x,rfl,_⟩:=Maps.keyOf_int_inv Tryz.underlying3 h
 exact⟨x,rfl⟩
theorem others_len (author:Int):∀ l,(others author l).length≤l.length
 | []=>by simp[others]
 | y :: r=>by
  unfold others
  have:=others_len author r
  cases (decide (y=author) || r.elem y)<;>simp<;>omega
def cnt (xs todo:List Int):Nat:=(todo.filter fun x=>xs.elem x).length
theorem cnt_le (xs todo:List Int):cnt xs todo≤todo.length:=List.length_filter_le _ _
theorem cnt_nil (xs:List Int):cnt xs []=0:=rfl
theorem cnt_step {xs todo:List Int} {x:Int} (hx:x∈todo):cnt xs todo=cnt xs (todo.erase x)+(if xs.contains x then 1 else 0):=by
 have:=todo_count (p:=fun x=>xs.elem x) hx
 simpa [cnt] using this
set_option maxHeartbeats 1600000 in
set_option maxRecDepth 100000 in
theorem enough_walk (al:Option Addr) (cl:Nat) (rs:List (Int × List Int)) (author:Int) (aw:Option Addr) (cw:Nat) (ws:List Int) (w:World)
  (hw:IntsAt w aw ws) (hwf:∀ x∈ws,(Lit.int .i64 x).wf=true) (hwl:ws.length≤4611686018427387904) (hll:rs.length≤4611686018427387904)
  (hl:rs=[]∨∃ b o,al=some ⟨b,o,none⟩∧∀ j r,rs[j]?=some r→RuleAt w b (o+j*4) r.1 r.2∧r.2.length≤4611686018427387904) :
  Calls Tryz.prog 30 #[.slice al rs.length cl,.int .i64 author,.slice aw ws.length cw] w fun e w'=>e=.returned (.bool (rs.all (met (others author ws))))∧Below w.heap.size w w':=by
 have hmm:=@run_makeMap Tryz.prog
 have z4:∀ w,(zeroValue 4).run Tryz.prog w=.ok (.bool false) w:=fun w=>by kernel_rfl
 go_enter Tryz.func30,Tryz.ntmps30
 go_wp2
 go_loopw [17] (fun i wr=>∃ k:Nat,k≤ws.length∧i=.int .i64 k∧wr.ownsMap Tryz.prog 3 (plainElem Tryz.prog 4) w.heap.size k (Dk author ws k)∧Below w.heap.size w wr) (fun i _=>ws.length-(intOf i).toNat)
 case atStart=>exact⟨0,Nat.zero_le _,rfl,World.ownsMap_made _ _ _ _,(Below.refl _ _).alloc (Nat.le_refl _) _⟩
 case round =>
  obtain⟨k,hk,rfl,hown,hbel⟩:=hrel
  rcases Nat.lt_or_ge k ws.length with hlt|hge
  ·obtain⟨bb,oo,rfl,hcs⟩:∃ bb oo,aw=some ⟨bb,oo,none⟩∧∀ j,j<ws.length→w.cell? ⟨bb,oo+j,none⟩=some (.int .i64 (ws.getD j 0)):=by
    rcases hw with rfl|h
    ·simp at hlt
    ·exact h
   obtain⟨x,hx⟩:∃ x,ws.getD k 0=x:=⟨_,rfl⟩
   have hcx:wr.cell? ⟨bb,oo+k,none⟩=some (.int .i64 (ws.getD k 0)):=by rw[hbel.cell (cell_lt' (hcs k hlt))];exact hcs k hlt
   have hoD:=Dk_old author ws k hlt
   have hnD:=Dk_new author ws k hlt
   have hmem:ws.getD k 0∈ws:=by rw[List.getD,List.getElem?_eq_getElem hlt];exact List.getElem_mem hlt
   rw[hx] at hcx hmem hoD hnD
   have hkey:keyOf Tryz.prog 3 (.int .i64 x)=some (.int .i64 x):=keyOf_int_mk Tryz.underlying3 (hwf _ hmem)
   have HO:Hid (x=author→Dk author ws (k+1)=Dk author ws k):=hoD
   have HN:Hid (x≠author→Dk author ws (k+1)=(Dk author ws k).put (.int .i64 x) (.lit (.bool true))):=hnD
   clear hoD hnD hx
   have HD:Hid (wr.ownsMap Tryz.prog 3 (plainElem Tryz.prog 4) w.heap.size k (Dk author ws k)):=hown
   go_wp2_with (first
    | (at_mapUpdate;refine wpList_mapUpdate_own _ rfl _ _ _ 119 rfl 3 4 law3 Tryz.underlying119 (plainElem Tryz.prog 4) w.heap.size k (Dk author ws k) rfl HD.out (by unfold maxLen;omega) _ _ _ rfl rfl hkey _ [] (plainElem_bool Tryz.underlying4 true) ?_;intro w1 hown1 hgrow1)
    | go_in)
   ·have hne:x≠author:=by simpa using (by assumption:(x != author)=true)
    go_roundw
    case rel=>exact⟨k+1,by omega,by go_num,by rw[HN.out hne];exact hown1,hbel.grown hgrow1 hbel.size (fun j hj=>by cases hj;exact Nat.le_refl _)⟩
    case measure=>simp[intOf];omega
   ·have he:x=author:=by simpa using (by assumption:(x != author)=false)
    go_roundw
    case rel=>exact⟨k+1,by omega,by go_num,by rw[HO.out he];exact hown.mono (Nat.le_succ _),hbel⟩
    case measure=>simp[intOf];omega
  ·have hkk:k=ws.length:=by omega
   subst hkk
   go_wp2
   go_loopw [29] (fun i wr=>∃ k:Nat,k≤rs.length∧i=.int .i64 k∧wr.ownsMap Tryz.prog 3 (plainElem Tryz.prog 4) w.heap.size ws.length (Dk author ws ws.length)∧Below w.heap.size w wr∧(rs.take k).all (met (others author ws))=true) (fun i _=>rs.length-(intOf i).toNat)
   case atStart=>exact⟨0,Nat.zero_le _,rfl,hown,hbel,by simp⟩
   case round =>
    clear hown hbel hk hge
    rename World=>wo
    obtain⟨k,hk,rfl,hown,hbel,hall⟩:=hrel
    rcases Nat.lt_or_ge k rs.length with hlt|hge
    ·obtain⟨b,o,rfl,hcs⟩:∃ b o,al=some ⟨b,o,none⟩∧∀ j r,rs[j]?=some r→RuleAt w b (o+j*4) r.1 r.2∧r.2.length≤4611686018427387904:=by
      rcases hl with rfl|h
      ·simp at hlt
      ·exact h
     have hstep:Hid (rs.take (k+1)=rs.take k++[rs[k]]):=by show _=_;rw[List.take_add_one];simp[hlt]
     obtain⟨⟨⟨s0,s1,a,cr,c0,c1,c2,c3,hin0⟩⟩,hxl⟩:=hcs k rs[k] (List.getElem?_eq_getElem hlt)
     have hin:IntsAt w a rs[k].2:=hin0
     clear hin0
     rw[← hbel.cell (cell_lt' c0)] at c0
     rw[← hbel.cell (cell_lt' c1)] at c1
     rw[← hbel.cell (cell_lt' c2)] at c2
     rw[← hbel.cell (cell_lt' c3)] at c3
     have hin:=hin.below hbel
     have hmemr:Hid (rs[k]∈rs):=List.getElem_mem hlt
     generalize rs[k]=r at c0 c1 c2 c3 hin hxl hstep hmemr
     obtain⟨n,xs⟩:=r
     simp only at c0 c1 c2 c3 hin hxl
     clear hcs hl
     have HD:Hid (wo.ownsMap Tryz.prog 3 (plainElem Tryz.prog 4) w.heap.size ws.length (Dk author ws ws.length)):=hown
     go_wp2_with (first
      | (at_range;refine wpList_range_own _ rfl _ 119 rfl 3 4 law3 Tryz.underlying119 (plainElem Tryz.prog 4) w.heap.size ws.length (Dk author ws ws.length) rfl (HD.out.alloc _) ?_;intro w0 hrg0 hg0 hs0)
      | go_in)
     go_frame
     have hsz:(wo.alloc (Obj.cells #[Value.string s0,Value.string s1,Value.int IntKind.i64 n,Value.slice a xs.length cr] 77)).heap.size=wo.heap.size+1:=by simp
     rw[hsz] at hrg0 ⊢
     have hbq0:=(Below.refl (wo.heap.size+1) (wo.alloc (Obj.cells #[Value.string s0,Value.string s1,Value.int IntKind.i64 n,Value.slice a xs.length cr] 77))).grown hg0 (by simp) (fun j hj=>by cases hj)
     have hoth:=others_len author ws
     have hcle:=cnt_le xs (others author ws)
     go_loopw [12] (fun i wq=>∃ (left:Lit→Bool) (c:Nat) (todo:List Int) (m:Nat),i=.int .i64 m∧wq.ranges Tryz.prog 3 (plainElem Tryz.prog 4) w.heap.size (wo.heap.size+1) ws.length (Dk author ws ws.length) left c ∧
       Todo left todo∧m+cnt xs todo=cnt xs (others author ws)∧Below (wo.heap.size+1) (wo.alloc (Obj.cells #[Value.string s0,Value.string s1,Value.int IntKind.i64 n,Value.slice a xs.length cr] 77)) wq)
      (fun _ wq=>wq.rangeLeft w.heap.size (wo.heap.size+1))
     case atStart=>exact⟨_,_,others author ws,0,rfl,hrg0,todo_start author ws,by omega,hbq0⟩
     case round =>
      clear hrg0 hg0 hs0 hbq0
      rename World=>wq
      obtain⟨left,c,todo,m,rfl,hrg,htd,hm,hbq⟩:=hrel
      have q2:=hbq.cell (p:=⟨wo.heap.size,2,none⟩) (Nat.lt_succ_self _)
      have q3:=hbq.cell (p:=⟨wo.heap.size,3,none⟩) (Nat.lt_succ_self _)
      have d2:(wo.alloc (Obj.cells #[Value.string s0,Value.string s1,Value.int IntKind.i64 n,Value.slice a xs.length cr] 77)).cell? ⟨wo.heap.size,2,none⟩=some (.int .i64 n):=by simp
      have d3:(wo.alloc (Obj.cells #[Value.string s0,Value.string s1,Value.int IntKind.i64 n,Value.slice a xs.length cr] 77)).cell? ⟨wo.heap.size,3,none⟩=some (.slice a xs.length cr):=by simp
      rw[d2] at q2
      rw[d3] at q3
      clear d2 d3
      have hbw:Below wo.heap.size wo wq:=((Below.refl _ _).alloc (Nat.le_refl _) _).trans (hbq.mono (Nat.le_succ _))
      have hinq:IntsAt wq a xs:=hin.below hbw
      have HR:Hid (wq.ranges Tryz.prog 3 (plainElem Tryz.prog 4) w.heap.size (wo.heap.size+1) ws.length (Dk author ws ws.length) left c):=hrg
      go_wp2_with (first
       | (at_next;refine wpList_next_ranges _ rfl _ rfl 3 law3 (plainElem Tryz.prog 4) (Value.int .i64) (fun v:Value=>v) invK (fun v _ _=>⟨v,rfl⟩) w.heap.size (wo.heap.size+1) ws.length (Dk author ws ws.length) left c rfl HR.out ?_ ?_)
       | go_in)
      ·intro hc0 hl0
       have hnil:=todo_end htd hl0
       subst hnil
       rw[cnt_nil] at hm
       have hmt:met (others author ws) (n,xs)=decide (n≤(m:Int)):=by
        have hm' : m=((others author ws).filter fun x=>xs.elem x).length:=hm
        rw[hm'];rfl
       have HM:Hid (met (others author ws) (n,xs)=decide (n≤(m:Int))):=hmt
       have HA:Hid ((List.take k rs).all (met (others author ws))=true):=hall
       have hown':=hrg.owns
       have hend:=hbel.trans (hbw.mono hbel.size)
       clear hmt hall hrg HR
       go_wp2
       ·have hlt' : (m:Int)<n:=by assumption
        have hf:rs.all (met (others author ws))=false:=List.all_eq_false.2 ⟨(n,xs),hmemr.out,by rw[HM.out];simp;omega⟩
        go_ret
        rw[hf]
        exact⟨rfl,hend⟩
       ·go_roundw
        case rel=>exact⟨k+1,by omega,by go_num,hown',hend,by rw[hstep.out,List.all_append,HA.out];simp[HM.out];assumption⟩
        case measure=>simp[intOf];omega
      ·intro x vb kl y ps w1 c1 hkey hlk hv hat hrg1 hlt1 hg1 hs1 hen
       obtain⟨x',ex,rfl,_⟩:=Maps.keyOf_int_inv Tryz.underlying3 hkey
       cases ex
       have hx:x∈todo:=by have:=htd.left x;rw[hlk] at this;simpa using this.symm
       have htd1:=todo_step htd hlk
       have hcs:=cnt_step (xs:=xs) hx
       have hqs:wo.heap.size+1≤wq.heap.size:=by have:=hbq.size;rw[hsz] at this;exact this
       have hb1:=hbq.grown hg1 hqs (fun j hj=>by cases hj;exact Nat.le_refl _)
       have hw1:Below wo.heap.size wo w1:=((Below.refl _ _).alloc (Nat.le_refl _) _).trans (hb1.mono (Nat.le_succ _))
       have q2':=hg1.block wo.heap.size hqs (by simp)
       have q3' : w1.cell? ⟨wo.heap.size,3,none⟩=some (.slice a xs.length cr):=by rw[← q3];exact cell_of_heap q2'
       have hin1:IntsAt w1 a xs:=hin.below hw1
       have HC:Hid (cnt xs todo=cnt xs (todo.erase x)+(if xs.contains x then 1 else 0)):=hcs
       have HT:Hid (Todo (fun z=>left z&&!z.sameKey (Lit.int .i64 x)) (todo.erase x)):=htd1
       have HL:Hid (left (Lit.int .i64 x)=true):=hlk
       have HX:Hid (x∈todo):=hx
       have H1:Hid (IntsAt w1 a xs):=hin1
       have HG:Hid (w1.ranges Tryz.prog 3 (plainElem Tryz.prog 4) w.heap.size (wo.heap.size+1) ws.length (Dk author ws ws.length) (fun z=>left z&&!z.sameKey (Lit.int .i64 x)) c1):=hrg1
       clear hcs htd1 hlk hx hin1 hrg1 hat hv hkey q2'
       go_wp2_with (first
        | (go_at_call 57;refine (contains_at a cr xs x w1 H1.out hxl).mono ?_;rintro e w' ⟨rfl,rfl⟩)
        | go_in)
       ·have hxm:xs.contains x=true:=by simpa using (by assumption:x∈xs)
        have hc1:=HC.out
        rw[if_pos hxm] at hc1
        go_roundw
        case rel=>exact⟨_,c1,todo.erase x,m+1,by go_num,HG.out,HT.out,by omega,hb1⟩
        case measure=>rw[HG.out.left_eq,hrg.left_eq];exact hlt1
       ·have hxm:¬ xs.contains x=true:=by simpa using (by assumption:¬ x∈xs)
        have hc1:=HC.out
        rw[if_neg hxm] at hc1
        go_roundw
        case rel=>exact⟨_,c1,todo.erase x,m,rfl,HG.out,HT.out,by omega,hb1⟩
        case measure=>rw[HG.out.left_eq,hrg.left_eq];exact hlt1
    ·have hkk:k=rs.length:=by omega
     subst hkk
     go_wp2
     go_ret
     rw[List.take_length] at hall
     rw[hall]
     exact⟨rfl,hbel⟩
end Go.Proofs.YtemfofdaemgjgaaGreatDoor
end
section
set_option linter.unusedVariables false
set_option linter.unusedSimpArgs false
namespace Go.Proofs.YtemfofdaemgjgaaGreatDoor
open Go Go.Abs Go.Proofs Go.Shelf RowKit Go.Maps
theorem intsOf_rows:∀ {e:List (List AV)} {xs:List Int},intsOf e=some xs→e.length=xs.length∧∀ (i:Nat) (x:Int),xs[i]?=some x→e[i]?=some [.int .i64 x]
 | [],xs,h=>by
  simp only[intsOf,Option.some.injEq] at h
  subst h
  exact⟨rfl,fun i b h=>by simp at h⟩
 | r :: e,xs,h=>by
  unfold intsOf at h
  split at h
  ·cases ‹_ :: _=[]›
  ·rename_i n e' heq
   injection heq with h1 h2
   subst h1 h2
   obtain⟨l',h3,rfl⟩:=Option.map_eq_some_iff.1 h
   obtain⟨k1,k2⟩:=intsOf_rows h3
   refine⟨by simp[k1],fun i b hb=>?_⟩
   cases i with
   | zero=>simp at hb;subst hb;rfl
   | succ i=>exact k2 i b (by simpa using hb)
  ·cases h
theorem ruleOf_row {r:List AV} {x:Int × List Int} (h:ruleOf r=some x):∃ s0 s1 ws own,r=[.str s0,.str s1,.int .i64 x.1,.slice ws own]∧intsOf ws=some x.2∧x.2.length≤4611686018427387904:=by
 unfold ruleOf at h
 split at h
 ·rename_i s0 s1 n ws own
  obtain⟨xs,h1,h2⟩:=Option.bind_eq_some_iff.1 h
  obtain⟨h3,h4⟩:=cond_some h2
  injection h4 with h4
  subst h4
  exact⟨s0,s1,ws,own,rfl,h1,by simpa [Nat.ble_eq] using h3⟩
 ·cases h
theorem rulesOf_rows:∀ {e:List (List AV)} {xs:List (Int × List Int)},rulesOf e=some xs→e.length=xs.length∧∀ (i:Nat) (x:Int × List Int),xs[i]?=some x→∃ r,e[i]?=some r∧ruleOf r=some x
 | [],xs,h=>by
  simp only[rulesOf,Option.some.injEq] at h
  subst h
  exact⟨rfl,fun i b h=>by simp at h⟩
 | r :: e,xs,h=>by
  simp only[rulesOf] at h
  obtain⟨x,h1,h2⟩:=Option.bind_eq_some_iff.1 h
  obtain⟨l',h3,rfl⟩:=Option.map_eq_some_iff.1 h2
  obtain⟨k1,k2⟩:=rulesOf_rows h3
  refine⟨by simp[k1],fun i b hb=>?_⟩
  cases i with
  | zero=>simp at hb;subst hb;exact⟨r,rfl,h1⟩
  | succ i=>exact k2 i b (by simpa using hb)
section
variable {gh:Gh} {n:Nat} {w:World} {v:Value} {S:Nat→Nat→Prop}
theorem VR_slice {e:List (List AV)} {own:Bool} (h:VR gh n w v (.slice e own)):PR gh.S w v (.slice e false):=by
 cases h with
 | plain _ _ h=>cases h<;>first|exact .sliceNil|exact .slice _ _ _ _ _ _ _ ‹_› ‹_› ‹_› ‹_› ‹_›
 | full a k e h hz=>exact h
theorem PR_ints {e:List (List AV)} {own:Bool} {xs:List Int} (h:PR S w v (.slice e own)) (hx:intsOf e=some xs):∃ a cap,v=.slice a xs.length cap∧IntsAt w a xs:=by
 obtain⟨hl,hr⟩:=intsOf_rows hx
 cases h with
 | sliceNil =>
  have:xs=[]:=List.eq_nil_of_length_eq_zero (by simpa using hl.symm)
  subst this
  exact⟨none,0,rfl,.inl rfl⟩
 | slice b o n cap sz _ f hn hcap hrow hcell hrel =>
  refine⟨_,cap,by rw[← hl,hn],?_⟩
  by_cases hne:xs=[]
  ·exact .inl hne
  refine .inr ⟨b,o,rfl,fun j hj=>?_⟩
  have hj':=hr j _ (List.getElem?_eq_getElem hj)
  have hsz:sz=1:=(hrow j _ hj').symm
  subst hsz
  obtain⟨_,k2,_⟩:=hcell j 0 _ _ hj' rfl
  have k3:=hrel j 0 _ _ hj' rfl
  simp only[Nat.mul_one,Nat.add_zero] at k2
  rw[k2]
  generalize f j 0=V at k3
  cases k3
  rw[List.getD,List.getElem?_eq_getElem hj]
  rfl
theorem PR_rules {e:List (List AV)} {own:Bool} {rs:List (Int × List Int)} (h:PR S w v (.slice e own)) (hx:rulesOf e=some rs) :
  ∃ a cap,v=.slice a rs.length cap∧(rs=[]∨∃ b o,a=some ⟨b,o,none⟩∧∀ j r,rs[j]?=some r→RuleAt w b (o+j*4) r.1 r.2∧r.2.length≤4611686018427387904):=by
 obtain⟨hl,hr⟩:=rulesOf_rows hx
 cases h with
 | sliceNil =>
  have:rs=[]:=List.eq_nil_of_length_eq_zero (by simpa using hl.symm)
  subst this
  exact⟨none,0,rfl,.inl rfl⟩
 | slice b o n cap sz _ f hn hcap hrow hcell hrel =>
  refine⟨_,cap,by rw[← hl,hn],?_⟩
  refine .inr ⟨b,o,rfl,fun j r hj=>?_⟩
  obtain⟨row,he,hrl⟩:=hr j r hj
  obtain⟨s0,s1,ws,own',rfl,hi,hlen⟩:=ruleOf_row hrl
  have hsz:sz=4:=(hrow j _ he).symm
  subst hsz
  have c0:=(hcell j 0 _ _ he rfl).2.1
  have c1:=(hcell j 1 _ _ he rfl).2.1
  have c2:=(hcell j 2 _ _ he rfl).2.1
  have c3:=(hcell j 3 _ _ he rfl).2.1
  have r0:=hrel j 0 _ _ he rfl
  have r1:=hrel j 1 _ _ he rfl
  have r2:=hrel j 2 _ _ he rfl
  have r3:=hrel j 3 _ _ he rfl
  generalize f j 0=V0 at c0 r0
  generalize f j 1=V1 at c1 r1
  generalize f j 2=V2 at c2 r2
  generalize f j 3=V3 at c3 r3
  obtain⟨a,cap',rfl,hin⟩:=PR_ints r3 hi
  cases r0 with|str S0 _ _=>?_
  cases r1 with|str S1 _ _=>?_
  cases r2
  exact⟨⟨S0,S1,a,cap',c0,c1,c2,c3,hin⟩,hlen⟩
end
theorem enough_sound {G:Nat→List AV} : OvSound Tryz.prog G 30 ovEnough:=by
 intro args H r c he
 refine⟨fnOK 30 _ Tryz.func30 (by kernel_rfl) (by decide),?_⟩
 unfold ovEnough at he
 split at he
 ·rename_i l _ author who _
  obtain⟨ws,hws,he⟩:=Option.bind_eq_some_iff.1 he
  obtain⟨rs,hrs,he⟩:=Option.bind_eq_some_iff.1 he
  obtain⟨h0,he⟩:=cond_some he
  simp only[Bool.and_eq_true] at h0
  simp only[Option.some.injEq,Prod.mk.injEq] at he
  obtain⟨rfl,rfl⟩:=he
  refine⟨chg_none,fun base gh w vs hW _ hs hrel=>?_⟩
  obtain⟨t,u,v,rfl,ht,hu,hv⟩:=args3 hs hrel
  rw[hu.inv_int]
  obtain⟨al,cl,rfl,hl⟩:=PR_rules (VR_slice ht) hrs
  obtain⟨aw,cw,rfl,hw⟩:=PR_ints (VR_slice hv) hws
  refine (enough_walk al cl rs author aw cw ws w hw (fun x hx=>?_) (by simpa [Nat.ble_eq] using h0.1.1) (by simpa [Nat.ble_eq] using h0.1.2) hl).mono ?_
  ·have:=List.all_eq_true.1 h0.2 x hx
   simp only[Bool.and_eq_true,decide_eq_true_eq] at this
   have h1:IntKind.i64.min=-9223372036854775808:=by decide
   have h2:IntKind.i64.max=9223372036854775807:=by decide
   simp only[Lit.wf,h1,h2,Bool.and_eq_true,decide_eq_true_eq]
   exact this
  ·rintro e w' ⟨rfl,hb⟩
   exact⟨_,gh,rfl,ret_below hW hb (.plain _ _ (.bool _))⟩
 ·cases he
end Go.Proofs.YtemfofdaemgjgaaGreatDoor
end
section
namespace Go.Abs
set_option linter.unusedSimpArgs false
set_option linter.unusedVariables false
def CallF.Le (f g:CallF):Prop:=∀ a b c r,f a b c=some r→g a b c=some r
section
variable {G:Nat→List AV} {f g:CallF}
theorem cond_mono {α:Type} {b:Bool} {x y:Option α} {r:α} (h:cond b x none=some r) (hxy:x=some r→y=some r):cond b y none=some r:=by
 cases b
 ·cases h
 ·exact hxy h
theorem evOp_mono (h:CallF.Le f g) {s:AS} {o:IOp} {r:AV × Option AS} (he:evOp G f s o=some r):evOp G g s o=some r:=by
 cases o with
 | call fn args =>
  simp only[evOp] at he ⊢
  split at he
  ·refine cond_mono he fun he=>?_
   simp only[Option.map_eq_some_iff] at he ⊢
   obtain⟨r0,h0,rfl⟩:=he
   exact⟨r0,h _ _ _ _ h0,rfl⟩
  ·cases he
 | callT fn pre x post =>
  simp only[evOp] at he ⊢
  refine cond_mono he fun he=>?_
  simp only[Option.bind_eq_some_iff,Option.map_eq_some_iff] at he ⊢
  obtain⟨p,hp,r0,h0,he⟩:=he
  exact⟨p,hp,r0,h _ _ _ _ h0,he⟩
 | callP fn args =>
  simp only[evOp] at he ⊢
  split at he
  ·refine cond_mono he fun he=>?_
   simp only[Option.bind_eq_some_iff] at he ⊢
   obtain⟨r0,h0,he⟩:=he
   exact⟨r0,h _ _ _ _ h0,he⟩
  ·cases he
 | _=>exact he
theorem evOper_mono (h:CallF.Le f g) {d:Bool} {s:AS} {o:IOper} {r:AS} (he:evOper G f d s o=some r):evOper G g d s o=some r:=by
 have key:∀ r,((evOp G f s o.op).bind fun r=>match r.2 with
   | none=>cond (d&&(genOf r.1).isSome) none (some (s.putD o.dst r.1))
   | some s'=>cond d none (some (s'.putD o.dst r.1)))=some r→((evOp G g s o.op).bind fun r=>match r.2 with
   | none=>cond (d&&(genOf r.1).isSome) none (some (s.putD o.dst r.1))
   | some s'=>cond d none (some (s'.putD o.dst r.1)))=some r:=by
  intro r hr
  simp only[Option.bind_eq_some_iff] at hr ⊢
  obtain⟨x,h1,h2⟩:=hr
  exact⟨x,evOp_mono h h1,h2⟩
 unfold evOper at he ⊢
 simp only at he ⊢
 split at he
 ·exact key _ he
 ·split at he
  ·rename_i b hb
   cases hbw:(b==_) with
   | true=>rw[hbw] at he;exact key _ he
   | false=>rw[hbw] at he;exact he
  ·exact he
  ·cases he
theorem evOps_mono (h:CallF.Le f g) {d:Bool} : ∀ {os:List IOper} {s r:AS},evOps G f d os s=some r→evOps G g d os s=some r
 | [],_,_,he=>he
 | o :: os,s,r,he=>by
  simp only[evOps,Option.bind_eq_some_iff] at he ⊢
  obtain⟨x,h1,h2⟩:=he
  exact⟨x,evOper_mono h h1,evOps_mono h h2⟩
theorem iter_mono {F F' : AS→Option (IExit × AS)} (h:∀ s r,F s=some r→F' s=some r):∀ {n m:Nat} {s:AS} {r:IExit × AS},n≤m→iter F n s=some r→iter F' m s=some r
 | 0,_,_,_,_,he=>by cases he
 | n+1,0,_,_,hn,_=>by omega
 | n+1,m+1,s,r,hn,he=>by
  simp only[iter,Option.bind_eq_some_iff] at he ⊢
  obtain⟨x,h1,h2⟩:=he
  refine⟨x,h _ _ h1,?_⟩
  split at h2
  ·exact iter_mono h (by omega) h2
  ·exact h2
theorem evC_mono (h:CallF.Le f g) {n m:Nat} (hn:n≤m):∀ {c:ICode} {s:AS} {r:IExit × AS},evC G f n c s=some r→evC G g m c s=some r
 | .skip,_,_,he=>he
 | .exit _,_,_,he=>he
 | .ret,_,_,he=>he
 | .region d os,s,r,he=>by
  simp only[evC,Option.map_eq_some_iff] at he ⊢
  obtain⟨x,h1,h2⟩:=he
  exact⟨x,evOps_mono h h1,h2⟩
 | .seq a b,s,r,he=>by
  simp only[evC,Option.bind_eq_some_iff] at he ⊢
  obtain⟨x,h1,h2⟩:=he
  refine⟨x,evC_mono h hn h1,?_⟩
  split at h2
  ·exact evC_mono h hn h2
  ·exact h2
 | .cond c a b,s,r,he=>by
  simp only[evC] at he ⊢
  split at he
  ·rename_i t ht
   cases t
   ·exact evC_mono h hn (c:=b) he
   ·exact evC_mono h hn (c:=a) he
  ·cases he
 | .block id a,s,r,he=>by
  simp only[evC,Option.map_eq_some_iff] at he ⊢
  obtain⟨x,h1,h2⟩:=he
  exact⟨x,evC_mono h hn h1,h2⟩
 | .loop a,s,r,he=>by
  simp only[evC] at he ⊢
  exact iter_mono (fun s r h'=>evC_mono h hn h') hn he
theorem runF_mono (h:CallF.Le f g) {n m:Nat} (hn:n≤m) {fn:IFunc} {args:List AV} {H:AHeap} {r:AV × Option Chg} (he:runF G f n fn args H=some r):runF G g m fn args H=some r:=by
 unfold runF at he ⊢
 refine cond_mono he fun he=>?_
 simp only[Option.bind_eq_some_iff] at he ⊢
 obtain⟨x,h1,h2⟩:=he
 exact⟨x,evC_mono h hn h1,h2⟩
end
theorem evF_step {A:AP} : ∀ n,CallF.Le (evF A n) (evF A (n+1))
 | 0=>fun a b c r h=>by cases h
 | n+1=>fun a b c r h=>by
  simp only[evF] at h ⊢
  cases ho:A.ov a with
  | some g=>rw[ho] at h;exact h
  | none =>
   rw[ho] at h
   cases hf:A.fns a with
   | none=>rw[hf] at h;cases h
   | some fn=>rw[hf] at h;exact runF_mono (evF_step n) (by omega) h
theorem evF_mono {A:AP} {n m:Nat} (h:n≤m):CallF.Le (evF A n) (evF A m):=by
 induction h with
 | refl=>exact fun _ _ _ _ h=>h
 | step _ ih=>exact fun a b c r hr=>evF_step _ a b c r (ih a b c r hr)
noncomputable def callD (A:AP):CallF:=fun f args H=>open Classical in if h:∃ n r,evF A n f args H=some r then some (Classical.choose (Classical.choose_spec h)) else none
theorem callD_eq {A:AP} {f:FuncId} {args:List AV} {H:AHeap} {r:AV × Option Chg} : callD A f args H=some r↔∃ n,evF A n f args H=some r:=by
 unfold callD
 constructor
 ·intro h
  split at h
  ·rename_i hx
   have:=Classical.choose_spec (Classical.choose_spec hx)
   injection h with h
   rw[h] at this
   exact⟨_,this⟩
  ·cases h
 ·rintro ⟨n,hn⟩
  have hx:∃ n r,evF A n f args H=some r:=⟨n,r,hn⟩
  rw[dif_pos hx]
  have h1:=Classical.choose_spec (Classical.choose_spec hx)
  have h2:=evF_mono (Nat.le_max_left n (Classical.choose hx)) _ _ _ _ hn
  have h3:=evF_mono (Nat.le_max_right n (Classical.choose hx)) _ _ _ _ h1
  rw[h2] at h3
  injection h3 with h3
  rw[h3]
section
variable {A:AP}
theorem evOp_lim {s:AS} {o:IOp} {r:AV × Option AS} (he:evOp A.glob (callD A) s o=some r):∃ n,evOp A.glob (evF A n) s o=some r:=by
 cases o with
 | call fn args =>
  simp only[evOp] at he ⊢
  split at he
  ·rename_i n fs cs hf
   cases hb:((args.map fun a=>a.addr A.glob s.T).all frameCell) with
   | false=>rw[hb] at he;cases he
   | true =>
    rw[hb] at he
    simp only[cond_true,Option.map_eq_some_iff] at he
    obtain⟨r0,h0,rfl⟩:=he
    obtain⟨k,hk⟩:=callD_eq.1 h0
    exact⟨k,by simp only[hk,cond_true,Option.map_some]⟩
  ·cases he
 | callT fn pre x post =>
  simp only[evOp] at he ⊢
  cases hb:((pre.map fun a=>a.addr A.glob s.T).all frameCell&&(post.map fun a=>a.addr A.glob s.T).all frameCell) with
  | false=>rw[hb] at he;cases he
  | true =>
   rw[hb] at he
   simp only[cond_true,Option.bind_eq_some_iff,Option.map_eq_some_iff] at he
   obtain⟨p,hp,r0,h0,he⟩:=he
   obtain⟨k,hk⟩:=callD_eq.1 h0
   exact⟨k,by simp only[hp,hk,cond_true,Option.bind_some,Option.map_some,he]⟩
 | callP fn args =>
  simp only[evOp] at he ⊢
  split at he
  ·rename_i n fs cs hf
   cases hb:((args.map fun a=>a.addr A.glob s.T).all frameCell) with
   | false=>rw[hb] at he;cases he
   | true =>
    rw[hb] at he
    simp only[cond_true,Option.bind_eq_some_iff] at he
    obtain⟨r0,h0,he⟩:=he
    obtain⟨k,hk⟩:=callD_eq.1 h0
    exact⟨k,by simp only[hk,cond_true,Option.bind_some];exact he⟩
  ·cases he
 | _=>exact⟨0,he⟩
theorem evOper_lim {d:Bool} {s:AS} {o:IOper} {r:AS} (he:evOper A.glob (callD A) d s o=some r):∃ n,evOper A.glob (evF A n) d s o=some r:=by
 have key:∀ r,((evOp A.glob (callD A) s o.op).bind fun r=>match r.2 with
   | none=>cond (d&&(genOf r.1).isSome) none (some (s.putD o.dst r.1))
   | some s'=>cond d none (some (s'.putD o.dst r.1)))=some r→∃ n,((evOp A.glob (evF A n) s o.op).bind fun r=>match r.2 with
   | none=>cond (d&&(genOf r.1).isSome) none (some (s.putD o.dst r.1))
   | some s'=>cond d none (some (s'.putD o.dst r.1)))=some r:=by
  intro r hr
  simp only[Option.bind_eq_some_iff] at hr ⊢
  obtain⟨x,h1,h2⟩:=hr
  obtain⟨n,hn⟩:=evOp_lim h1
  exact⟨n,x,hn,h2⟩
 unfold evOper at he ⊢
 simp only at he ⊢
 split at he
 ·exact key _ he
 ·split at he
  ·rename_i b hb
   cases hbw:(b==_) with
   | true=>rw[hbw] at he;exact key _ he
   | false=>rw[hbw] at he;exact⟨0,he⟩
  ·exact⟨0,he⟩
  ·cases he
theorem evOps_lim {d:Bool} : ∀ {os:List IOper} {s r:AS},evOps A.glob (callD A) d os s=some r→∃ n,evOps A.glob (evF A n) d os s=some r
 | [],_,_,he=>⟨0,he⟩
 | o :: os,s,r,he=>by
  simp only[evOps,Option.bind_eq_some_iff] at he ⊢
  obtain⟨x,h1,h2⟩:=he
  obtain⟨n,hn⟩:=evOper_lim h1
  obtain⟨m,hm⟩:=evOps_lim h2
  exact⟨max n m,x,evOper_mono (evF_mono (Nat.le_max_left n m)) hn,evOps_mono (evF_mono (Nat.le_max_right n m)) hm⟩
theorem iter_lim {F:AS→Option (IExit × AS)} {F' : Nat→AS→Option (IExit × AS)} (hm:∀ n m s r,n≤m→F' n s=some r→F' m s=some r) (h:∀ s r,F s=some r→∃ n,F' n s=some r) :
  ∀ {n:Nat} {s:AS} {r:IExit × AS},iter F n s=some r→∃ m,iter (F' m) n s=some r
 | 0,_,_,he=>by cases he
 | n+1,s,r,he=>by
  simp only[iter,Option.bind_eq_some_iff] at he ⊢
  obtain⟨x,h1,h2⟩:=he
  obtain⟨m1,hm1⟩:=h _ _ h1
  split at h2
  ·obtain⟨m2,hm2⟩:=iter_lim hm h h2
   refine⟨max m1 m2,x,hm _ _ _ _ (Nat.le_max_left _ _) hm1,?_⟩
   rename_i hx
   simp only[hx]
   exact iter_mono (fun s r=>hm _ _ _ _ (Nat.le_max_right _ _)) (Nat.le_refl _) hm2
  ·rename_i hx
   refine⟨m1,x,hm1,?_⟩
   split
   ·rename_i hx';exact absurd hx' hx
   ·exact h2
theorem evC_lim {n:Nat} : ∀ {c:ICode} {s:AS} {r:IExit × AS},evC A.glob (callD A) n c s=some r→∃ m,evC A.glob (evF A m) n c s=some r
 | .skip,_,_,he=>⟨0,he⟩
 | .exit _,_,_,he=>⟨0,he⟩
 | .ret,_,_,he=>⟨0,he⟩
 | .region d os,s,r,he=>by
  simp only[evC,Option.map_eq_some_iff] at he ⊢
  obtain⟨x,h1,h2⟩:=he
  obtain⟨m,hm⟩:=evOps_lim h1
  exact⟨m,x,hm,h2⟩
 | .seq a b,s,r,he=>by
  simp only[evC,Option.bind_eq_some_iff] at he ⊢
  obtain⟨x,h1,h2⟩:=he
  obtain⟨m1,hm1⟩:=evC_lim h1
  split at h2
  ·rename_i hx
   obtain⟨m2,hm2⟩:=evC_lim h2
   refine⟨max m1 m2,x,evC_mono (evF_mono (Nat.le_max_left _ _)) (Nat.le_refl _) hm1,?_⟩
   simp only[hx]
   exact evC_mono (evF_mono (Nat.le_max_right _ _)) (Nat.le_refl _) hm2
  ·rename_i hx
   refine⟨m1,x,hm1,?_⟩
   split
   ·rename_i hx';exact absurd hx' hx
   ·exact h2
 | .cond c a b,s,r,he=>by
  simp only[evC] at he ⊢
  split at he
  ·rename_i t ht
   cases t
   ·exact evC_lim (c:=b) he
   ·exact evC_lim (c:=a) he
  ·cases he
 | .block id a,s,r,he=>by
  simp only[evC,Option.map_eq_some_iff] at he ⊢
  obtain⟨x,h1,h2⟩:=he
  obtain⟨m,hm⟩:=evC_lim h1
  exact⟨m,x,hm,h2⟩
 | .loop a,s,r,he=>by
  simp only[evC] at he ⊢
  exact iter_lim (F':=fun m=>evC A.glob (evF A m) n a) (fun n' m s r hn h=>evC_mono (evF_mono hn) (Nat.le_refl _) h) (fun s r h=>evC_lim h) he
theorem runF_lim {n:Nat} {fn:IFunc} {args:List AV} {H:AHeap} {r:AV × Option Chg} (he:runF A.glob (callD A) n fn args H=some r):∃ m,runF A.glob (evF A m) n fn args H=some r:=by
 unfold runF at he ⊢
 cases hb:Nat.beq args.length fn.np with
 | false=>rw[hb] at he;cases he
 | true =>
  rw[hb] at he
  simp only[cond_true,Option.bind_eq_some_iff] at he ⊢
  obtain⟨x,h1,h2⟩:=he
  obtain⟨m,hm⟩:=evC_lim h1
  exact⟨m,x,hm,h2⟩
theorem callD_run {f:FuncId} {fn:IFunc} (ho:A.ov f=none) (hf:A.fns f=some fn) {n:Nat} {args:List AV} {H:AHeap} {r:AV × Option Chg} (h:runF A.glob (callD A) n fn args H=some r):callD A f args H=some r:=by
 obtain⟨m,hm⟩:=runF_lim h
 refine callD_eq.2 ⟨max m n+1,?_⟩
 simp only[evF,ho,hf]
 exact runF_mono (evF_mono (Nat.le_max_left _ _)) (Nat.le_max_right _ _) hm
theorem callD_ov {f:FuncId} {g:List AV→AHeap→Option (AV × Option Chg)} (ho:A.ov f=some g) {args:List AV} {H:AHeap} {r:AV × Option Chg} (h:g args H=some r) (hn:args.all noRight=true:=by rfl):callD A f args H=some r :=
 callD_eq.2 ⟨1,by simp only[evF,ho,hn,cond_true];exact h⟩
end
end Go.Abs
end
