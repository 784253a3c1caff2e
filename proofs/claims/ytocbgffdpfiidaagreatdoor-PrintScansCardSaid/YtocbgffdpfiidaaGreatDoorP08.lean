/-
  A part of the proof of PrintScans: AbsLibS, AbsLib2S, AbsLib3S, AbsLib4S, AbsLib5S, AbsMono, AbsWp, AbsNon, AbsAll, AbsMemo.
-/
import Derived.Shelf.Strconv.AtoiAll
import Derived.Shelf.Strconv.Itoa3
import Derived.Shelf.Small.Strs
import Derived.Shelf.Lay
import Derived.Ground.NamesProg
import Derived.Shelf.Strings.Builder1
import Derived.Test.YtocbgffdpfiidaaGreatDoorP07
set_option linter.unusedSimpArgs false
set_option linter.unusedVariables false
set_option linter.defProp false
set_option maxHeartbeats 1000000
set_option maxRecDepth 100000
namespace Go.Proofs.YtocbgffdpfiidaaGreatDoor
open Go Go.Abs Go.Proofs Go.Shelf RowKit
section
theorem LU(s:ByteArray)(c:Int)(w:World):Calls Tryz.prog 66 #[.string s,.int .u8 c] w fun e w'=>e=.returned (.int .i64 (Lib.indexByte s.data.toList c.toNat.toUInt8))/\w'=w:=Any.strings_IndexByte NZ s c w
theorem I9(s:ByteArray)(c:Int)(w:World):Calls Tryz.prog 97 #[.string s,.int .u8 c] w fun e w'=>e=.returned (.int .i64 (Lib.indexByte s.data.toList c.toNat.toUInt8))/\w'=w:=Any.stringslite_IndexByte Jg s c w
theorem R0(n:Int)(h0:-9223372036854775808<=n)(h1:n<=9223372036854775807)(w:World)(adw:Lib.TabIs Tryz.prog w "internal/strconv.uint64pow10" .u64 Lib.pow10Tab) :
  Calls Tryz.prog 81 #[.int .i64 n] w fun e w'=>e=.returned (.string ⟨(Lib.itoa n).toArray⟩)/\∃ k os,w'=Sort.grow (w.drewN k) os:=Any.strconv_Itoa R4 n h0 h1 w adw
theorem PE(s:ByteArray)(V4:s.size<=9223372036854775806)(v:Int)(h:Lib.atoiAll s.data.toList=.ok v)(w:World) :
  Calls Tryz.prog 122 #[.string s] w fun e w'=>e=.returned (.tuple #[.int .i64 v,.nilIface])/\(w'=w\/∃ t,w'=Lib.bytesWorld w 5 t):=Any.strconv_Atoi_ok zU s V4 v h w
theorem Kq(s:ByteArray)(V3:s.size<=281474976710656)(h1:∀ v,Lib.atoiAll s.data.toList≠.ok v)(h2:Lib.atoiAll s.data.toList≠.range)(ev:Value)(w:World)(hv:w.cell? ⟨7,0,none⟩=some ev)(bb:ev=.nilIface\/∃ te pe,ev=.iface te pe) :
  Calls Tryz.prog 122 #[.string s] w fun e w'=>∃ N,e=.returned (.tuple #[.int .i64 (0),.iface 190 (.pointer (some ⟨N,0,none⟩))])/\Below w.heap.size w w' :=
 (Any.strconv_Atoi_syntax zU s V3 (by
  generalize Lib.atoiAll s.data.toList=x at h1 h2
  cases x<;>first|rfl|exact absurd rfl (h1 _)|exact absurd rfl h2) ev w hv bb).mono fun e w' ⟨N,h1,_,_,h4⟩=>⟨N,h1,h4⟩
theorem DM(s:ByteArray)(V3:s.size<=281474976710656)(h:Lib.atoiAll s.data.toList=.range)(ev:Value)(w:World)(hv:w.cell? ⟨8,0,none⟩=some ev)(bb:ev=.nilIface\/∃ te pe,ev=.iface te pe) :
  Calls Tryz.prog 122 #[.string s] w fun e w'=>∃ N,e=.returned (.tuple #[.int .i64 (Lib.atoiSat s.data.toList),.iface 190 (.pointer (some ⟨N,0,none⟩))])/\Below w.heap.size w w' :=
 (Any.strconv_Atoi_range zU s V3 h ev w hv bb).mono fun e w' ⟨N,h1,_,_,h4⟩=>⟨N,h1,h4⟩
section
variable {G:Nat->List AV}{base:Nat}{gh:Gh}{w w' : World}{H:ag}
theorem wA(hW:aF G base H gh w)(hb:Below w.heap.size w w')(n:Nat):Step (fun _=>False) n gh w gh w':=by
 refine⟨fun _ _ h=>h,fun b o h=>cell_of_heap (hb.block b (hW.lX b o h)),hb.size,hb.os,hb.tape,hb.output,fun b aZ _=>⟨.inl (hb.block b aZ),rfl,fun _ h=>h⟩,fun b fE=>hW.bq b fE,fun _ _=>rfl,fun b ty m hm=>?_,fun b E ck hs h0=>(hb.block b (hW.lX b 0 hs)).trans h0⟩
 obtain⟨C,fr,h1,h2⟩:=hm
 exact⟨C,fr,by rw[hb.block b (ahT.1 h1).1];exact h1,h2⟩
theorem jr(hW:aF G base H gh w)(hb:Below w.heap.size w w'){v:Value}{r:AV}(hv:VR gh H.length w' v r):j9 G base H gh w r none v gh w' :=
 ⟨ahQ _,hW.step (wA hW hb H.length) (fun l=>⟨id,fun _=>id⟩) (fun b o h=>aiP (hW.lX b o h) hb.size) (fun b h=>⟨(hW.mH b h).1,aiP (hW.mH b h).2 hb.size⟩) (fun _ _ _ h=>.inl h),
  (wA hW hb H.length).mono (fun _ h=>h.elim),fun _ h=>h,.inl hv⟩
theorem mP:j8 H none:=⟨ahQ _,fun c h=>by cases h⟩
theorem A1{vs:Array Value}{x:AV}(hs:vs.size=[x].length)(h:∀ (j:Nat) (v:Value) (y:AV),vs[j]?=some v->[x][j]?=some y->VR gh H.length w v y):∃ v,vs=#[v]/\VR gh H.length w v x:=by
 obtain⟨l⟩:=vs
 match l,hs with
 | [v],_=>exact⟨v,rfl,h 0 v x rfl rfl⟩
theorem TY{vs:Array Value}{x y:AV}(hs:vs.size=[x,y].length)(h:∀ (j:Nat) (v:Value) (z:AV),vs[j]?=some v->[x,y][j]?=some z->VR gh H.length w v z):∃ u v,vs=#[u,v]/\VR gh H.length w u x/\VR gh H.length w v y:=by
 obtain⟨l⟩:=vs
 match l,hs with
 | [u,v],_=>exact⟨u,v,rfl,h 0 u x rfl rfl,h 1 v y rfl rfl⟩
end
theorem p7:∀ (f n:Nat) (acc:List UInt8),n<f->da f n acc=Lib.decDigits n++acc
 | 0,n,acc,h=>absurd h (ajv _)
 | f+1,n,acc,h=>by
  unfold da
  rw[Lib.decDigits]
  by_cases hn:n<10
  ·rw[show Nat.blt n 10=true by simpa [aih] using hn,dif_pos hn]
   rfl
  ·rw[show Nat.blt n 10=false by simpa [<- ajS,aih] using hn,dif_neg hn,ahW,p7 f (n / 10) _ (by omega)]
   simp
theorem NR(n:Int):NQ n=Lib.itoa n:=by
 unfold NQ Lib.itoa
 cases n with
 | ofNat k =>
  simp only
  rw[p7 (k+1) k [] (by omega),if_neg (by simp)]
  simp
 | negSucc k =>
  simp only
  rw[p7 (k+2) (k+1) [] (by omega),if_pos (Int.negSucc_lt_zero k)]
  simp
theorem sH(c:Int)(h0:0<=c)(h1:c<256):∀ (l:List UInt8) (k:Nat),gK c k l=if Lib.indexByte l c.toNat.toUInt8=-1 then -1 else Lib.indexByte l c.toNat.toUInt8+k
 | [],k=>by simp[gK,Lib.indexByte]
 | b :: r,k=>by
  have hc:(c.toNat.toUInt8).toNat=c.toNat:=by simp;omega
  have hb:(b==c.toNat.toUInt8)=decide ((b.toNat:Int)=c):=by
   by_cases h:(b.toNat:Int)=c
   ·have:b=c.toNat.toUInt8:=UInt8.toNat_inj.1 (by rw[hc];omega)
    rw[decide_eq_true h];simpa using this
   ·have:b≠c.toNat.toUInt8:=fun e=>h (by rw[e,hc];omega)
    rw[aiT h];simpa using this
  have hge:∀ l:List UInt8, -1<=Lib.indexByte l c.toNat.toUInt8:=by
   intro l
   induction l with
   | nil=>simp[Lib.indexByte]
   | cons x l ih =>
    simp only[Lib.indexByte]
    split
    ·omega
    ·split
     ·omega
     ·rename_i h;simp at h;omega
  unfold gK Lib.indexByte
  rw[hb]
  by_cases h:(b.toNat:Int)=c
  ·simp[h]
  ·have:=hge r
   simp only[h,aiG,ahW,aj0,aiS]
   rw[sH c h0 h1 r (k+1)]
   by_cases hr:Lib.indexByte r c.toNat.toUInt8=-1
   ·simp[hr]
   ·simp only[aiF,hr,aj0]
    rw[if_neg (by omega)]
    push_cast
    omega
theorem IK(f:FuncId)(fn:Func)(h:Tryz.prog.funcs[f]?=some fn)(hb:fn.body.isSome=true)(hn:fn.name≠ "runtime.NumGoroutine"):∃ fn,Tryz.prog.funcs[f]?=some fn/\fn.body.isSome=true/\fn.name≠ "runtime.NumGoroutine":=⟨fn,h,hb,hn⟩
theorem tE{G:Nat->List AV} : jy Tryz.prog G 66 fL:=by
 intro args H r c he
 refine⟨IK 66 _ Tryz.func66 (by kernel_rfl) (by decide),?_⟩
 unfold fL at he
 split at he
 ·rename_i l c'
  obtain⟨h0,he⟩:=ab he
  simp only[ahR,ah8] at h0
  simp only[ahM,ahN] at he
  obtain⟨rfl,rfl⟩:=he
  refine⟨mP,fun base gh w vs hW _ hs bX=>?_⟩
  obtain⟨u,v,rfl,hu,hv⟩:=TY hs bX
  obtain⟨s,rfl,hl⟩:=hu.gS
  rw[hv.gQ]
  refine (LU s c' w).mono ?_
  rintro e w' ⟨rfl,rfl⟩
  refine⟨_,gh,rfl,jr hW (Below.refl _ _) ?_⟩
  rw[sH c' h0.1 h0.2 l 0,hl]
  have:(if Lib.indexByte l c'.toNat.toUInt8=-1 then (-1:Int) else Lib.indexByte l c'.toNat.toUInt8+(0:Nat))=Lib.indexByte l c'.toNat.toUInt8:=by split<;>simp_all
  rw[this]
  exact .plain _ _ (.int _ _)
 ·cases he
theorem ru{G:Nat->List AV} : jy Tryz.prog G 97 fL:=by
 intro args H r c he
 refine⟨IK 97 _ Tryz.func97 (by kernel_rfl) (by decide),?_⟩
 unfold fL at he
 split at he
 ·rename_i l c'
  obtain⟨h0,he⟩:=ab he
  simp only[ahR,ah8] at h0
  simp only[ahM,ahN] at he
  obtain⟨rfl,rfl⟩:=he
  refine⟨mP,fun base gh w vs hW _ hs bX=>?_⟩
  obtain⟨u,v,rfl,hu,hv⟩:=TY hs bX
  obtain⟨s,rfl,hl⟩:=hu.gS
  rw[hv.gQ]
  refine (I9 s c' w).mono ?_
  rintro e w' ⟨rfl,rfl⟩
  refine⟨_,gh,rfl,jr hW (Below.refl _ _) ?_⟩
  rw[sH c' h0.1 h0.2 l 0,hl]
  have:(if Lib.indexByte l c'.toNat.toUInt8=-1 then (-1:Int) else Lib.indexByte l c'.toNat.toUInt8+(0:Nat))=Lib.indexByte l c'.toNat.toUInt8:=by split<;>simp_all
  rw[this]
  exact .plain _ _ (.int _ _)
 ·cases he
theorem DP(w:World)(k:Nat)(os:Array Obj):Below w.heap.size w (Sort.grow (w.drewN k) os):=by
 refine⟨rfl,rfl,rfl,by simp[Sort.grow,World.drewN],fun i hi=>?_⟩
 show (w.heap++os)[i]?=_
 rw[aj1 hi]
theorem Yy{G:Nat->List AV}{base:Nat}{gh:Gh}{w:World}{H:ag}(hW:aF G base H gh w){g:Nat}{name:String}(hg:Tryz.prog.globalNamed name=some g){k:IntKind}{zs:List Int}(hG:G g=zs.map (.int k))(cS:zs≠[]) :
  Lib.TabIs Tryz.prog w name k zs:=by
 obtain⟨ty,C,fr,h1,h2⟩:=hW.uj g (by rw[hG];simpa using cS)
 have hC:C=(zs.map fun z=>Value.int k z).toArray:=by
  apply Array.ext_getElem?
  intro j
  rw[hG,aie] at h2
  by_cases hj:j<zs.length
  ·have hx:(G g)[j]?=some (.int k zs[j]):=by rw[hG];simp[hj]
   obtain⟨v,hv,hp,_⟩:=hW.aP g j _ hx
   rw[cell_of_row w g j C ty fr h1] at hv
   cases hp
   rw[hv]
   simp[hj]
  ·rw[ai5 (by omega)]
   simp[air (show zs.length<=j by omega)]
 unfold Lib.TabIs World.var?
 rw[hg]
 simp only[ahV,h1,hC]
theorem vE:jy Tryz.prog HN 81 Ab:=by
 intro args H r c he
 refine⟨IK 81 _ Tryz.func81 (by kernel_rfl) (by decide),?_⟩
 unfold Ab at he
 split at he
 ·rename_i n
  obtain⟨h0,he⟩:=ab he
  simp only[ahR,ah8] at h0
  simp only[ahM,ahN] at he
  obtain⟨rfl,rfl⟩:=he
  refine⟨mP,fun base gh w vs hW _ hs bX=>?_⟩
  obtain⟨u,rfl,hu⟩:=A1 hs bX
  rw[hu.gQ]
  refine (R0 n h0.1 h0.2 w (Yy hW (by kernel_rfl) (g:=6) rfl (by simp[Lib.pow10Tab]))).mono ?_
  rintro e w' ⟨rfl,k,os,rfl⟩
  exact⟨_,gh,rfl,jr hW (DP w k os) (.plain _ _ (.str _ _ (by rw[NR])))⟩
 ·cases he
theorem Bx{base:Nat}{gh:Gh}{w:World}{H:ag}(hW:aF HN base H gh w){g:Nat}(hG:HN g=[.iface yM .any]):∃ ev,w.cell? ⟨g,0,none⟩=some ev/\(ev=.nilIface\/∃ te pe,ev=.iface te pe):=by
 obtain⟨v,hv,hp,_⟩:=hW.aP g 0 (.iface yM .any) (by rw[hG];rfl)
 cases hp with
 | iface _ u _ _=>exact⟨_,hv,.inr ⟨_,_,rfl⟩⟩
theorem GQ{gh:Gh}{n:Nat}{w:World}{u v:Value}{x y:AV}(h1:VR gh n w u x)(h2:VR gh n w v y):VR gh n w (.tuple #[u,v]) (.tuple [x,y]):=by
 refine .tuple _ _ rfl (fun j a b ha hb=>?_)
 match j with
 | 0=>simp at ha hb;subst ha hb;exact h1
 | 1=>simp at ha hb;subst ha hb;exact h2
 | j+2=>simp at ha
theorem uI:jy Tryz.prog HN 122 Aa:=by
 intro args H r c he
 refine⟨IK 122 _ Tryz.func122 (by kernel_rfl) (by decide),?_⟩
 unfold Aa at he
 split at he
 ·rename_i l
  obtain⟨h0,he⟩:=ab he
  have hlen:l.length<=281474976710656:=by simpa [aiq] using h0
  have hc:c=none:=by split at he<;>(simp only[ahM,ahN] at he;exact he.2.symm)
  subst hc
  refine⟨mP,fun base gh w vs hW _ hs bX=>?_⟩
  obtain⟨u,rfl,hu⟩:=A1 hs bX
  obtain⟨s,rfl,hl⟩:=hu.gS
  have lK:s.size<=281474976710656:=by
   have:s.size=s.data.toList.length:=by simp
   rw[this,hl];exact hlen
  split at he
  ·rename_i v kE
   simp only[ahM,ahN,ai9] at he
   subst he
   refine (PE s (by omega) v (by rw[hl];exact kE) w).mono ?_
   rintro e w' ⟨rfl,hw⟩
   refine⟨_,gh,rfl,jr hW ?_ (GQ (.plain _ _ (.int _ _)) (.plain _ _ .bt))⟩
   rcases hw with rfl|⟨t,rfl⟩
   ·exact Below.refl _ _
   ·exact Lib.bytesWorld_below _ _ _
  ·rename_i kE
   simp only[ahM,ahN,ai9] at he
   subst he
   obtain⟨ev,h1,h2⟩:=Bx hW (g:=8) rfl
   refine (DM s lK (by rw[hl];exact kE) ev w h1 h2).mono ?_
   rintro e w' ⟨N,rfl,hb⟩
   rw[hl]
   exact⟨_,gh,rfl,jr hW hb (GQ (.plain _ _ (.int _ _)) (.iface _ _ _ (.plain _ _ (.any _ rfl))))⟩
  ·rename_i j6 hnr
   simp only[ahM,ahN,ai9] at he
   subst he
   obtain⟨ev,h1,h2⟩:=Bx hW (g:=7) rfl
   refine (Kq s lK (by rw[hl];exact fun v e=>j6 v e) (by rw[hl];exact fun e=>hnr e) ev w h1 h2).mono ?_
   rintro e w' ⟨N,rfl,hb⟩
   exact⟨_,gh,rfl,jr hW hb (GQ (.plain _ _ (.int _ _)) (.iface _ _ _ (.plain _ _ (.any _ rfl))))⟩
 ·cases he
end
theorem UK:(Tryz.prog.info? 92).map (·.size)=some 2:=by kernel_rfl
theorem aaO:liesAt Tryz.prog Tryz.prog.depth 92 (2 / Tryz.prog.cellsOf 92) 0 92 1=true:=by kernel_rfl
theorem Im(b:Nat)(w:World)(h0:w.cell? ⟨b,0,none⟩=some (.pointer (some ⟨b,0,none⟩))) :
  Calls Tryz.prog 68 #[.pointer (some ⟨b,0,none⟩)] w fun e w'=>e=.returned (.tuple #[])/\w'=w:=by
 obtain⟨j,hj,_⟩:=ahK.1 UK
 go_enter Tryz.func68,Tryz.ntmps68
 go_wp2
 rw[Lib.run_neq_ptr_same w _ Tryz.underlying89 hj]
 go_wp2
 go_end0
 exact⟨rfl,rfl⟩
theorem D7(b:Nat)(w:World)(h0:w.cell? ⟨b,0,none⟩=some (.pointer none))(J2:w.shape? b=some (92,2))(hfz:w.frozen? ⟨b,0,none⟩=false) :
  Calls Tryz.prog 68 #[.pointer (some ⟨b,0,none⟩)] w fun e w'=>e=.returned (.tuple #[])/\w'=w.setCell ⟨b,0,none⟩ (.pointer (some ⟨b,0,none⟩)):=by
 obtain⟨j,hj,hjs⟩:=ahK.1 UK
 go_enter Tryz.func68,Tryz.ntmps68
 go_wp2
 rw[Lib.run_to_unsafe w ⟨b,0,none⟩ Tryz.underlying89 Tryz.underlying156 hj (by rw[hjs];decide) J2 (Nat.zero_lt_succ 1)]
 simp only[Result.andThen]
 rw[Oper.upon_value]
 go_wp2
 rw[run_callFunc_extern Tryz.func99 (by kernel_rfl) (by kernel_rfl) (by kernel_rfl) (e:=Extern.AbiNoEscape.same) (by kernel_rfl)]
 rw[Lib.run_noEscape]
 simp only[Result.andThen]
 rw[Oper.upon_value]
 go_wp2
 rw[Lib.run_from_unsafe w ⟨b,0,none⟩ Tryz.underlying156 Tryz.underlying89 hj J2 aaO]
 simp only[Result.andThen]
 rw[Oper.upon_value]
 go_wp2
 go_end0
 exact⟨rfl,rfl⟩
theorem uS{G:Nat->List AV} : jy Tryz.prog G 68 ml:=by
 intro args H r c he
 refine⟨IK 68 _ Tryz.func68 (by kernel_rfl) (by decide),?_⟩
 unfold ml at he
 split at he
 ·rename_i l
  split at he
  ·
   rename_i x hH
   simp only[ahM,ahN] at he
   obtain⟨rfl,rfl⟩:=he
   have aZ:l<H.length:=(ahO.1 hH).1
   refine⟨⟨by simp[lP],fun c' xg=>?_⟩,fun base gh w vs hW _ hs bX=>?_⟩
   ·injection xg with xg
    subst xg
    refine⟨ako aZ,fun k hk=>?_⟩
    simp only at hk ⊢
    rw[ajU (by omega)]
   ·obtain⟨u,rfl,hu⟩:=A1 hs bX
    obtain⟨_,rfl⟩:=hu.gR
    obtain⟨hκ,hS,C,ty,hb,hC,fq⟩:=hW.boxes l _ _ hH
    obtain⟨C2,fr2,iV,ZK⟩:=hW.types l _ _ hH (by decide)
    rw[hb] at iV
    injection iV with iV
    injection iV with e1 e2 e3
    subst e1 e2
    have ZK:C.size=2:=ZK
    have h0:C[0]?=some C[0]:=ahY (by omega)
    have Ud:C[0]=.pointer none:=by
     have:=(fq 0 _ .cJ h0 rfl).2.dropped
     generalize C[0]=V at this
     cases this with
     | plain _ _ h=>cases h;rfl
    have bI:w.cell? ⟨gh.ρ l,0,none⟩=some (.pointer none):=by rw[cell_of_row w _ 0 C _ _ hb,h0,Ud]
    have j6:∀ o,gh.S (gh.ρ l) o->(C.setIfInBounds 0 (.pointer (some ⟨gh.ρ l,0,none⟩)))[o]?=C[o]?:=fun o ho=>(hS o ho).elim
    have st:=jX hW hb (by simp) j6 H.length
    rw[hκ] at st
    refine (D7 (gh.ρ l) w bI (by simp[World.shape?,hb,ZK]) (by simp[World.frozen?,hb])).mono ?_
    rintro e w' ⟨rfl,rfl⟩
    rw[setCell_eq_setRow w (gh.ρ l) 0 C _ (0,0) _ hb]
    have j0:aF G base (H.set l (.box 92 [.ref l 0,x])) gh (w.setRow (gh.ρ l) (C.setIfInBounds 0 (.pointer (some ⟨gh.ρ l,0,none⟩)))):=by
     refine hW.GL st hH (by intro k hk;simp[hk]) (fun b o ho=>by simpa using hW.lX b o ho) (fun b hb=>by simpa using hW.mH b hb) ⟨hκ,hS,_,_,setRow_heap w _ C _ _ _ hb,by simpa using hC,fun j v y hv hy=>?_⟩ ?_ ?_ ?_
     ·match j with
      | 0 =>
       simp at hy
       subst hy
       rw[Array.getElem?_setIfInBounds_self_of_lt (by omega)] at hv
       injection hv with hv
       subst hv
       exact⟨rfl,.inl (.ref l 0 aZ)⟩
      | j+1 =>
       rw[ajB (by omega)] at hv
       obtain⟨k1,k2⟩:=fq (j+1) v y hv (by simpa using hy)
       exact⟨k1,k2.mono st (ahQ _) (by simp)⟩
     ·have:=hW.refs l _ _ hH
      simp only[ajb,ake,aka,ahR] at this ⊢
      exact⟨by simp[aR],this.2⟩
     ·exact fun _ _ h=>h
     ·rfl
    refine⟨_,gh,rfl,by simp[lP],j0,st.mono (fun p hp=>.inl ⟨l,hp⟩),fun _ h=>h,.inl .undef⟩
  ·
   rename_i l' y hH
   obtain⟨h0,Uh⟩:=ab he
   clear he
   have Uq:l=l':=by simpa [dV] using h0
   simp only[ahM,ahN] at Uh
   obtain⟨rfl,rfl⟩:=Uh
   subst Uq
   refine⟨mP,fun base gh w vs hW _ hs bX=>?_⟩
   obtain⟨u,rfl,hu⟩:=A1 hs bX
   obtain⟨_,rfl⟩:=hu.gR
   obtain⟨hκ,hS,C,ty,hb,hC,fq⟩:=hW.boxes l _ _ hH
   have ZK:2<=C.size:=hC
   have JU:C[0]?=some C[0]:=ahY (by omega)
   have Ud:C[0]=.pointer (some ⟨gh.ρ l,0,none⟩):=(VR.gR (fq 0 _ (.ref l 0) JU rfl).2.dropped).2
   refine (Im (gh.ρ l) w (by rw[cell_of_row w _ 0 C _ _ hb,JU,Ud])).mono ?_
   rintro e w' ⟨rfl,rfl⟩
   exact⟨_,gh,rfl,jr hW (Below.refl _ _) .undef⟩
  ·cases he
 ·cases he
theorem wB(b:Nat)(a q:Option Addr)(n cap:Nat)(s:ByteArray)(w W1 W:World)(c1:w.drew.cell? ⟨b,1,none⟩=some (.slice a n cap))(c2:W1.cell? ⟨b,1,none⟩=some (.slice a n cap))
  (hSD:(Builtin.unsafeSliceData_ #[90] 131 #[.slice a n cap]).run Tryz.prog w.drew=.ok (.pointer q) W1)
  (hUS:(Builtin.unsafeString_ #[131,3] 9 #[.pointer q,.int .i64 n]).run Tryz.prog W1=.ok (.string s) W) :
  Calls Tryz.prog 38 #[.pointer (some ⟨b,0,none⟩)] w fun e w'=>e=.returned (.string s)/\w'=W:=by
 have mixed:Tryz.prog.follows .mixedOrders=true:=by kernel_rfl
 go_enter Tryz.func38,Tryz.ntmps38
 go_wp2
 go_region_o
 all_goals (go_wp2;go_ret;exact⟨rfl,rfl⟩)
theorem Gg{P:Program}{e:TypeId}(hc:P.cellsOf e=1)(count n off:Nat)(hn:off+n<=count):liesAt P P.depth e count off e n=true:=by
 have hd:P.depth=(2*(P.types.size+Made.depth)+1)+1:=rfl
 rw[hd]
 simp only[liesAt,ajk]
 left
 rw[hd]
 simp[rowAt,hc,hn,sameLayout]
 exact .inl (Nat.mod_one off)
theorem oT{P:Program}(w:World)(pt it ty e:TypeId)(hp:P.underlying pt=some (.pointer e))(hc:P.cellsOf e=1)(g off cells:Nat)(J2:w.shape? g=some (e,cells))(l:List UInt8)(h0:l≠[])(hn:off+l.length<=cells)(h63:l.length<=9223372036854775807)
  (bI:∀ j x,l[j]?=some x->w.cell? ((⟨g,off,none⟩:Addr).add j)=some (.int .u8 x.toNat)) :
  (Builtin.unsafeString_ #[pt,it] ty #[.pointer (some ⟨g,off,none⟩),.int .i64 l.length]).run P w=.ok (.string ⟨l.toArray⟩) (w.freeze ⟨g,off,none⟩ l.length):=by
 have hl:l.length≠0:=by simpa using h0
 have B6:=Lib.run_loadBytes (P:=P) w l ⟨g,off,none⟩ .empty bI
 have Z9:=Gg (P:=P) hc (cells / P.cellsOf e) l.length off (by rw[hc];simpa using hn)
 have acA:¬ (9223372036854775807:Int)<(l.length:Int):=by omega
 have Lo:Builtin.unsafeString_ #[pt,it] ty #[.pointer (some ⟨g,off,none⟩),.int .i64 l.length] =
   (do
    let n <- asInt (.int .i64 l.length)
    if n<0 then runtimePanic (.error "unsafe.String: len out of range")
    if n>IntKind.i64.max then unsupported (.unsafePointer "String: a length above the largest int")
    if n=0 then pure (.string .empty)
    else if <- variablesAt ⟨g,off,none⟩ (<- elemOf pt) n.toNat then do
     let s <- loadBytes ⟨g,off,none⟩ .empty n.toNat
     freeze ⟨g,off,none⟩ n.toNat
     pure (.string s)
    else unsupported (.unsafePointer "String: not so many bytes at ptr")):=rfl
 rw[Lo]
 have V4:IntKind.i64.max=9223372036854775807:=rfl
 have aah:¬ (l.length:Int)<0:=by omega
 simp[asInt,asIntOf,V4,acA,aah,hl,variablesAt,J2,elemOf,run_underlying hp,Z9,B6]
section
section
variable {G:Nat->List AV}{base:Nat}{gh:Gh}{w w' : World}{H:ag}
theorem OG(hW:aF G base H gh w)(st:Step (fun _=>False) H.length gh w gh w'){v:Value}{r:AV}(hv:VR gh H.length w' v r):j9 G base H gh w r none v gh w' :=
 ⟨ahQ _,hW.step st (fun l=>⟨id,fun _=>id⟩) (fun b o h=>aiP (hW.lX b o h) st.size) (fun b h=>⟨(hW.mH b h).1,aiP (hW.mH b h).2 st.size⟩) (fun _ _ _ h=>.inl h),
  st.mono (fun _ h=>h.elim),fun _ h=>h,.inl hv⟩
theorem Dc(hW:aF G base H gh w){b o n:Nat}{C:Array Value}{ty:TypeId}{fr:Nat × Nat}(hb:w.heap[b]?=some (.cells C ty fr))(hn:n≠0)(hS:∀ j,j<n->gh.S b (o+j))(h8:∃ m,C[o]?=some (.int .u8 m))(m:Nat) :
  Step (fun _=>False) m gh w gh (w.drew.freeze ⟨b,o,none⟩ n):=by
 have aZ:b<w.heap.size:=(ahT.1 hb).1
 have nV:∀ k,(w.drew.freeze ⟨b,o,none⟩ n).heap[k]?=if k=b then some (.cells C ty (if fr.1==fr.2 then (o,o+n) else (min fr.1 o,max fr.2 (o+n)))) else w.heap[k]?:=by
  intro k
  unfold World.freeze
  rw[if_neg hn]
  show (w.heap.modify b _)[k]?=_
  rw[Array.getElem?_modify]
  by_cases hk:k=b
  ·subst hk
   rw[if_pos rfl,if_pos rfl,hb]
   obtain⟨lo,hi⟩:=fr
   rfl
  ·rw[if_neg (fun e=>hk e.symm),if_neg hk]
 have bI:∀ k j,(w.drew.freeze ⟨b,o,none⟩ n).cell? ⟨k,j,none⟩=w.cell? ⟨k,j,none⟩:=by
  intro k j
  simp only[World.cell?,nV]
  by_cases hk:k=b
  ·subst hk;rw[if_pos rfl,hb]
  ·rw[if_neg hk]
 have lK:(w.drew.freeze ⟨b,o,none⟩ n).heap.size=w.heap.size:=by
  unfold World.freeze
  rw[if_neg hn]
  show (w.heap.modify b _).size=_
  simp
 have hos:(w.drew.freeze ⟨b,o,none⟩ n).os=w.os/\(w.drew.freeze ⟨b,o,none⟩ n).tape=w.tape/\(w.drew.freeze ⟨b,o,none⟩ n).output=w.output:=by
  unfold World.freeze
  rw[if_neg hn]
  exact⟨rfl,rfl,rfl⟩
 refine⟨fun _ _ h=>h,fun k j _=>bI k j,by rw[lK];exact ahQ _,hos.1,hos.2.1,hos.2.2,fun k hk _=>⟨?_,rfl,fun _ h=>h⟩,fun k hk=>hW.bq k (by rw[<- lK];rw[lK];exact hk),fun _ _=>rfl,fun k j7 m' hm=>?_,fun k E ck _ h0=>?_⟩
 rotate_left 2
 ·rw[nV]
  by_cases uy:k=b
  ·subst uy;rw[hb] at h0;cases h0
  ·rw[if_neg uy];exact h0
 ·rw[nV]
  by_cases uy:k=b
  ·subst uy
   rw[if_pos rfl,hb]
   obtain⟨lo,hi⟩:=fr
   obtain⟨m8,h8⟩:=h8
   have rj:∀ q,(∀ o,q<=o->¬ gh.S k o)->o+n<=q:=fun q j6=>by
    rcases aja (o+(n-1)) q with h|h
    ·omega
    ·exact absurd (hS (n-1) (by omega)) (j6 _ h)
   by_cases Up:(lo==hi)=true
   ·exact .inr ⟨C,ty,lo,hi,o,o+n,rfl,by rw[if_pos Up],⟨o,m8,by simpa using hS 0 (by omega),h8⟩,fun q hq j6=>rj q j6⟩
   ·exact .inr ⟨C,ty,lo,hi,min lo o,max hi (o+n),rfl,by rw[if_neg Up],⟨o,m8,by simpa using hS 0 (by omega),h8⟩,fun q hq j6=>by have:=rj q j6;omega⟩
  ·rw[if_neg uy];exact .inl rfl
 ·obtain⟨C',ZD,h1,h2⟩:=hm
  by_cases uy:k=b
  ·subst uy
   rw[hb] at h1
   injection h1 with h1
   injection h1 with e1 e2 e3
   subst e1 e2
   exact⟨C,_,by rw[nV,if_pos rfl],h2⟩
  ·exact⟨C',ZD,by rw[nV,if_neg uy];exact h1,h2⟩
end
theorem wj(P:Program)(w:World){r:Nat}{o:Obj}(h:w.heap[r]?=some o)(hc:∀ C t f,o≠.cells C t f):(getObj r).run P w=.ok o w:=by
 cases o<;>first|(exact absurd rfl (hc _ _ _))|simp[getObj,Sem.run,h]
theorem wo(w:World)(ad:Addr)(h:ad.block<w.heap.size):∃ q W1,(Builtin.unsafeSliceData_ #[90] 131 #[.slice (some ad) 0 0]).run Tryz.prog w.drew=.ok (.pointer q) W1/\Below w.heap.size w W1:=by
 have hp:Tryz.prog.underlying 131=some (.pointer 5):=Tryz.underlying131
 have Lo:Builtin.unsafeSliceData_ #[90] 131 #[.slice (some ad) 0 0] =
   (do
    if (0:Nat)≠0 then pure (.pointer (some ad))
    else if (<- viewAt ad.block).isSome then pure (.pointer (some ad))
    else pure (.pointer (some ⟨<- newObj (.view ad (<- elemOf 131)),0,none⟩))):=rfl
 have aZ:ad.block<w.drew.heap.size:=h
 rw[Lo]
 cases ho:w.drew.heap[ad.block]? with
 | none=>rw[ahY aZ] at ho;cases ho
 | some o =>
  cases o with
  | cells C ty fr =>
   refine⟨some ⟨w.heap.size,0,none⟩,w.drew.alloc (.view ad 5),?_,(Below.drew (Below.refl _ w)).alloc (ahQ _) _⟩
   have J2:w.drew.shape? ad.block=some (ty,C.size):=by simp[World.shape?,ho]
   simp[viewAt,J2,elemOf,run_underlying hp]
  | view a t =>
   refine⟨some ad,w.drew,?_,Below.drew (Below.refl _ w)⟩
   have hg:=wj Tryz.prog w.drew ho (fun _ _ _ h=>by cases h)
   have J2:w.drew.shape? ad.block=none:=by simp[World.shape?,ho]
   simp[viewAt,J2,hg,Result.andThen]
  | _ =>
   refine⟨some ⟨w.heap.size,0,none⟩,w.drew.alloc (.view ad 5),?_,(Below.drew (Below.refl _ w)).alloc (ahQ _) _⟩
   have hg:=wj Tryz.prog w.drew ho (fun _ _ _ h=>by cases h)
   have J2:w.drew.shape? ad.block=none:=by simp[World.shape?,ho]
   simp[viewAt,J2,elemOf,run_underlying hp,hg,Result.andThen]
theorem KB{w:World}{b o:Nat}{v:Value}(h:w.cell? ⟨b,o,none⟩=some v):b<w.heap.size:=by
 rcases aja b w.heap.size with h'|h'
 ·exact h'
 ·simp[World.cell?,ai5 h'] at h
theorem xC:∀ {e:List (List AV)} {l:List UInt8},bytesOf e=some l->e.length=l.length/\∀ (i:Nat) (b:UInt8),l[i]?=some b->∃ m:Int,e[i]?=some [.int .u8 m]/\b=UInt8.ofNat m.toNat
 | [],l,h=>by
  simp only[bytesOf,ahM] at h
  subst h
  exact⟨rfl,fun i b h=>by simp at h⟩
 | r :: e,l,h=>by
  unfold bytesOf at h
  split at h
  ·cases ‹_ :: _=[]›
  ·rename_i n e' heq
   injection heq with h1 h2
   subst h1 h2
   obtain⟨l',h3,rfl⟩:=ahK.1 h
   obtain⟨k1,k2⟩:=xC h3
   refine⟨by simp[k1],fun i b hb=>?_⟩
   cases i with
   | zero=>simp at hb;exact⟨n,rfl,hb.symm⟩
   | succ i=>exact k2 i b (by simpa using hb)
  ·cases h
theorem rQ{G:Nat->List AV} : jy Tryz.prog G 38 rJ:=by
 intro args H r c he
 refine⟨IK 38 _ Tryz.func38 (by kernel_rfl) (by decide),?_⟩
 unfold rJ at he
 split at he
 ·rename_i l
  split at he
  ·rename_i x e hH
   obtain⟨h0,he⟩:=ab he
   simp only[ahR] at h0
   have hlen:e.length<=4611686018427387904:=by simpa [aiq] using h0.1
   have Wi:=h0.2
   obtain⟨bs,hbs,he⟩:=ahK.1 he
   simp only[ahN] at he
   obtain⟨rfl,rfl⟩:=he
   obtain⟨Lj,hbr⟩:=xC hbs
   have aZ:l<H.length:=(ahO.1 hH).1
   refine⟨mP,fun base gh w vs hW _ hs bX=>?_⟩
   obtain⟨u,rfl,hu⟩:=A1 hs bX
   obtain⟨_,rfl⟩:=hu.gR
   obtain⟨hκ,hS,C,ty,hb,hC,fq⟩:=hW.boxes l _ _ hH
   have ZK:2<=C.size:=hC
   have h1:C[1]?=some C[1]:=ahY (by omega)
   have hv:=(fq 1 _ (.slice e true) h1 rfl).2
   have bI:w.cell? ⟨gh.ρ l,1,none⟩=some C[1]:=by rw[cell_of_row w _ 1 C _ _ hb,h1]
   generalize C[1]=v at hv bI
   by_cases cS:e=[]
   ·subst cS
    have hb0:bs=[]:=by
     simp only[bytesOf,ahM] at hbs;exact hbs.symm
    subst hb0
    have nW:∃ a,v=.slice a 0 0/\∀ ad,a=some ad->ad.block<w.heap.size:=by
     rcases hv with hv|⟨e',heq,_,_,_,_,_,_,_,_,_,_,ud,_⟩
     ·cases hv with
      | plain _ _ h=>cases h
      | full a k _ h hz =>
       have hk:k=0:=by cases h with
        | cy=>rfl
        | slice _ _ _ _ _ _ _ hn=>simpa using hn.symm
       subst hk
       exact⟨a,rfl,fun ad ha=>hz ad ha rfl⟩
     ·injection heq with heq;subst heq;exact absurd rfl ud
    obtain⟨a,rfl,hz⟩:=nW
    have c1:w.drew.cell? ⟨gh.ρ l,1,none⟩=some (.slice a 0 0):=bI
    have fin:∀ (q:Option Addr) (W1:World),(Builtin.unsafeSliceData_ #[90] 131 #[.slice a 0 0]).run Tryz.prog w.drew=.ok (.pointer q) W1->Below w.heap.size w W1->Calls Tryz.prog 38 #[.pointer (some ⟨gh.ρ l,0,none⟩)] w fun e w'=>∃ v aD,e=.returned v/\j9 G base H gh w (.str []) none v aD w':=by
     intro q W1 hSD ZR
     have c2:W1.cell? ⟨gh.ρ l,1,none⟩=some (.slice a 0 0):=by rw[ZR.cell (KB bI)];exact bI
     refine (wB (gh.ρ l) a q 0 0 .empty w W1 W1 c1 c2 hSD (Lib.run_unsafeString_none W1 _ _ _ q)).mono ?_
     rintro e w' ⟨rfl,rfl⟩
     exact⟨_,gh,rfl,jr hW ZR (.plain _ _ (.str _ _ rfl))⟩
    cases a with
    | none=>exact fin none w.drew rfl (Below.drew (Below.refl _ w))
    | some ad =>
     obtain⟨q,W1,h1,h2⟩:=wo w ad (hz ad rfl)
     exact fin q W1 h1 h2
   ·have AM:PR gh.S w v (.slice e false):=by
     rcases hv with hv|⟨e',heq,h,_⟩
     ·cases hv with
      | plain _ _ h=>cases h
      | full a k _ h hz=>exact h
     ·injection heq with heq;subst heq;exact h
    cases AM with
    | cy=>exact absurd rfl cS
    | slice b o n cap sz _ f hn ig bp VP aap =>
     subst hn
     have B7:0<e.length:=aj2.2 cS
     have B2:0<bs.length:=by omega
     obtain⟨m0,hm0,_⟩:=hbr 0 bs[0] (ahP B2)
     have fA:sz=1:=(bp 0 _ hm0).symm
     subst fA
     have each:∀ (i:Nat) (x:UInt8),bs[i]?=some x->gh.S b (o+i)/\w.cell? ⟨b,o+i,none⟩=some (.int .u8 x.toNat):=by
      intro i x hx
      obtain⟨m,hm,rfl⟩:=hbr i x hx
      obtain⟨k1,k2,_⟩:=VP i 0 _ _ hm rfl
      have hr:=aap i 0 _ _ hm rfl
      have hf:f i 0=.int .u8 m:=by
       generalize f i 0=V at hr
       cases hr;rfl
      simp only[aji,ajl] at k1 k2
      refine⟨k1,?_⟩
      rw[k2,hf]
      have hm8:=ahU.1 Wi _ (ahZ hm)
      simp only[ahR,ah8] at hm8
      have e1:((UInt8.ofNat m.toNat).toNat:Int)=m:=by
       rw[UInt8.toNat_ofNat']
       omega
      rw[e1]
     obtain⟨Cb,fr,AI⟩:∃ Cb fr,w.heap[b]?=some (.cells Cb fQ fr):=by
      have:=each 0 bs[0] (ahP B2)
      exact hW.bytes b (o+0) _ this.1 this.2
     have J2:w.drew.shape? b=some (5,Cb.size):=by
      have:w.drew.heap[b]?=some (.cells Cb fQ fr):=AI
      simp[World.shape?,this]
     have hin:o+bs.length<=Cb.size:=by
      have:=(each (bs.length-1) bs[bs.length-1] (ahP (by omega))).2
      rw[cell_of_row w b _ Cb _ _ AI] at this
      have:=(ahT.1 this).1
      omega
     have c1:w.drew.cell? ⟨gh.ρ l,1,none⟩=some (.slice (some ⟨b,o,none⟩) e.length cap):=bI
     have hSD:(Builtin.unsafeSliceData_ #[90] 131 #[.slice (some ⟨b,o,none⟩) e.length cap]).run Tryz.prog w.drew=.ok (.pointer (some ⟨b,o,none⟩)) w.drew:=Lib.run_unsafeSliceData_row _ _ _ _ _ _ (by omega)
     have hUS:=oT (P:=Tryz.prog) w.drew 131 3 9 5 Tryz.underlying131 (by kernel_rfl) b o Cb.size J2 bs (by intro e;rw[e] at B2;simp at B2) hin (by omega) (fun j x hx=>by
      have Lh:(Addr.mk b o none).add j=⟨b,o+j,none⟩:=by
       unfold Addr.add
       split
       ·rename_i h0;subst h0;simp
       ·simp
      rw[Lh];exact (each j x hx).2)
     rw[<- Lj] at hUS
     refine (wB (gh.ρ l) _ _ e.length cap _ w _ _ c1 c1 hSD hUS).mono ?_
     rintro e' w' ⟨rfl,rfl⟩
     refine⟨_,gh,rfl,OG hW (Dc hW AI (by omega) (fun j hj=>(each j bs[j] (ahP (by omega))).1) ⟨bs[0].toNat,?_⟩ _) (.plain _ _ (.str _ _ rfl))⟩
     have:=(each 0 bs[0] (ahP B2)).2
     rw[cell_of_row w b _ Cb _ _ AI] at this
     simpa using this
  ·cases he
 ·cases he
end
end Go.Proofs.YtocbgffdpfiidaaGreatDoor
namespace Go.Abs
section
def cz.Le(f g:cz):Prop:=∀ a b c r,f a b c=some r->g a b c=some r
section
variable {G:Nat->List AV}{f g:cz}
theorem o7{α:Type}{b:Bool}{x y:Option α}{r:α}(h:cond b x none=some r)(Ht:x=some r->y=some r):cond b y none=some r:=by
 cases b
 ·cases h
 ·exact Ht h
theorem Iy(h:cz.Le f g){s:AS}{o:dR}{r:AV × Option AS}(he:ai G f s o=some r):ai G g s o=some r:=by
 cases o with
 | call fn args =>
  simp only[ai] at he ⊢
  split at he
  ·refine o7 he fun he=>?_
   simp only[ahK] at he ⊢
   obtain⟨r0,h0,rfl⟩:=he
   exact⟨r0,h _ _ _ _ h0,rfl⟩
  ·cases he
 | xF fn pre x post =>
  simp only[ai] at he ⊢
  refine o7 he fun he=>?_
  simp only[ahL,ahK] at he ⊢
  obtain⟨p,hp,r0,h0,he⟩:=he
  exact⟨p,hp,r0,h _ _ _ _ h0,he⟩
 | iL fn args =>
  simp only[ai] at he ⊢
  split at he
  ·refine o7 he fun he=>?_
   simp only[ahL] at he ⊢
   obtain⟨r0,h0,he⟩:=he
   exact⟨r0,h _ _ _ _ h0,he⟩
  ·cases he
 | _=>exact he
theorem tn(h:cz.Le f g){d:Bool}{s:AS}{o:az}{r:AS}(he:bO G f d s o=some r):bO G g d s o=some r:=by
 have key:∀ r,((ai G f s o.op).bind fun r=>match r.2 with
   | none=>cond (d&&(aQ r.1).isSome) none (some (s.b9 o.dst r.1))
   | some s'=>cond d none (some (s'.b9 o.dst r.1)))=some r->((ai G g s o.op).bind fun r=>match r.2 with
   | none=>cond (d&&(aQ r.1).isSome) none (some (s.b9 o.dst r.1))
   | some s'=>cond d none (some (s'.b9 o.dst r.1)))=some r:=by
  intro r hr
  simp only[ahL] at hr ⊢
  obtain⟨x,h1,h2⟩:=hr
  exact⟨x,Iy h h1,h2⟩
 unfold bO at he ⊢
 simp only at he ⊢
 split at he
 ·exact key _ he
 ·split at he
  ·rename_i b hb
   cases VK:(b==_) with
   | true=>rw[VK] at he;exact key _ he
   | false=>rw[VK] at he;exact he
  ·exact he
  ·cases he
theorem qb(h:cz.Le f g){d:Bool} : ∀ {os:List az} {s r:AS},dU G f d os s=some r->dU G g d os s=some r
 | [],_,_,he=>he
 | o :: os,s,r,he=>by
  simp only[dU,ahL] at he ⊢
  obtain⟨x,h1,h2⟩:=he
  exact⟨x,tn h h1,qb h h2⟩
theorem mU{F F' : AS->Option (bw × AS)}(h:∀ s r,F s=some r->F' s=some r):∀ {n m:Nat} {s:AS} {r:bw × AS},n<=m->iter F n s=some r->iter F' m s=some r
 | 0,_,_,_,_,he=>by cases he
 | n+1,0,_,_,hn,_=>by omega
 | n+1,m+1,s,r,hn,he=>by
  simp only[iter,ahL] at he ⊢
  obtain⟨x,h1,h2⟩:=he
  refine⟨x,h _ _ h1,?_⟩
  split at h2
  ·exact mU h (by omega) h2
  ·exact h2
theorem ia(h:cz.Le f g){n m:Nat}(hn:n<=m):∀ {c:a7} {s:AS} {r:bw × AS},gH G f n c s=some r->gH G g m c s=some r
 | .skip,_,_,he=>he
 | .exit _,_,_,he=>he
 | .ret,_,_,he=>he
 | .wU _ _ _,_,_,he=>by simp[gH] at he
 | .region d os,s,r,he=>by
  simp only[gH,ahK] at he ⊢
  obtain⟨x,h1,h2⟩:=he
  exact⟨x,qb h h1,h2⟩
 | .seq a b,s,r,he=>by
  simp only[gH,ahL] at he ⊢
  obtain⟨x,h1,h2⟩:=he
  refine⟨x,ia h hn h1,?_⟩
  split at h2
  ·exact ia h hn h2
  ·exact h2
 | .cond c a b,s,r,he=>by
  simp only[gH] at he ⊢
  split at he
  ·rename_i t ht
   cases t
   ·exact ia h hn (c:=b) he
   ·exact ia h hn (c:=a) he
  ·cases he
 | .block id a,s,r,he=>by
  simp only[gH,ahK] at he ⊢
  obtain⟨x,h1,h2⟩:=he
  exact⟨x,ia h hn h1,h2⟩
 | .loop a,s,r,he=>by
  simp only[gH] at he ⊢
  exact mU (fun s r h'=>ia h hn h') hn he
theorem yE(h:cz.Le f g){n m:Nat}(hn:n<=m){fn:au}{args:List AV}{H:ag}{r:AV × Option fD}(he:sS G f n fn args H=some r):sS G g m fn args H=some r:=by
 unfold sS at he ⊢
 refine o7 he fun he=>?_
 simp only[ahL] at he ⊢
 obtain⟨x,h1,h2⟩:=he
 exact⟨x,ia h hn h1,h2⟩
end
theorem Bz{A:AP} : ∀ n,cz.Le (xN A n) (xN A (n+1))
 | 0=>fun a b c r h=>by cases h
 | n+1=>fun a b c r h=>by
  simp only[xN] at h ⊢
  cases ho:A.ov a with
  | some g=>rw[ho] at h;exact h
  | none =>
   rw[ho] at h
   cases hf:A.fns a with
   | none=>rw[hf] at h;cases h
   | some fn=>rw[hf] at h;exact yE (Bz n) (by omega) h
theorem ko{A:AP}{n m:Nat}(h:n<=m):cz.Le (xN A n) (xN A m):=by
 induction h with
 | refl=>exact fun _ _ _ _ h=>h
 | step _ ih=>exact fun a b c r hr=>Bz _ a b c r (ih a b c r hr)
noncomputable def aB(A:AP):cz:=fun f args H=>open Classical in if h:∃ n r,xN A n f args H=some r then some (Classical.choose (ajt h)) else none
theorem mO{A:AP}{f:FuncId}{args:List AV}{H:ag}{r:AV × Option fD} : aB A f args H=some r↔∃ n,xN A n f args H=some r:=by
 unfold aB
 constructor
 ·intro h
  split at h
  ·rename_i hx
   have:=ajt (ajt hx)
   injection h with h
   rw[h] at this
   exact⟨_,this⟩
  ·cases h
 ·rintro ⟨n,hn⟩
  have hx:∃ n r,xN A n f args H=some r:=⟨n,r,hn⟩
  rw[dif_pos hx]
  have h1:=ajt (ajt hx)
  have h2:=ko (ajI n (Classical.choose hx)) _ _ _ _ hn
  have h3:=ko (ajj n (Classical.choose hx)) _ _ _ _ h1
  rw[h2] at h3
  injection h3 with h3
  rw[h3]
section
variable {A:AP}
theorem KR{s:AS}{o:dR}{r:AV × Option AS}(he:ai A.aP (aB A) s o=some r):∃ n,ai A.aP (xN A n) s o=some r:=by
 cases o with
 | call fn args =>
  simp only[ai] at he ⊢
  split at he
  ·rename_i n fs cs hf
   cases hb:((args.map fun a=>a.addr A.aP s.T).all aq) with
   | false=>rw[hb] at he;cases he
   | true =>
    rw[hb] at he
    simp only[cond_true,ahK] at he
    obtain⟨r0,h0,rfl⟩:=he
    obtain⟨k,hk⟩:=mO.1 h0
    exact⟨k,by simp only[hk,cond_true,ah0]⟩
  ·cases he
 | xF fn pre x post =>
  simp only[ai] at he ⊢
  cases hb:((pre.map fun a=>a.addr A.aP s.T).all aq&&(post.map fun a=>a.addr A.aP s.T).all aq) with
  | false=>rw[hb] at he;cases he
  | true =>
   rw[hb] at he
   simp only[cond_true,ahL,ahK] at he
   obtain⟨p,hp,r0,h0,he⟩:=he
   obtain⟨k,hk⟩:=mO.1 h0
   exact⟨k,by simp only[hp,hk,cond_true,ahV,ah0,he]⟩
 | iL fn args =>
  simp only[ai] at he ⊢
  split at he
  ·rename_i n fs cs hf
   cases hb:((args.map fun a=>a.addr A.aP s.T).all aq) with
   | false=>rw[hb] at he;cases he
   | true =>
    rw[hb] at he
    simp only[cond_true,ahL] at he
    obtain⟨r0,h0,he⟩:=he
    obtain⟨k,hk⟩:=mO.1 h0
    exact⟨k,by simp only[hk,cond_true,ahV];exact he⟩
  ·cases he
 | _=>exact⟨0,he⟩
theorem Fh{d:Bool}{s:AS}{o:az}{r:AS}(he:bO A.aP (aB A) d s o=some r):∃ n,bO A.aP (xN A n) d s o=some r:=by
 have key:∀ r,((ai A.aP (aB A) s o.op).bind fun r=>match r.2 with
   | none=>cond (d&&(aQ r.1).isSome) none (some (s.b9 o.dst r.1))
   | some s'=>cond d none (some (s'.b9 o.dst r.1)))=some r->∃ n,((ai A.aP (xN A n) s o.op).bind fun r=>match r.2 with
   | none=>cond (d&&(aQ r.1).isSome) none (some (s.b9 o.dst r.1))
   | some s'=>cond d none (some (s'.b9 o.dst r.1)))=some r:=by
  intro r hr
  simp only[ahL] at hr ⊢
  obtain⟨x,h1,h2⟩:=hr
  obtain⟨n,hn⟩:=KR h1
  exact⟨n,x,hn,h2⟩
 unfold bO at he ⊢
 simp only at he ⊢
 split at he
 ·exact key _ he
 ·split at he
  ·rename_i b hb
   cases VK:(b==_) with
   | true=>rw[VK] at he;exact key _ he
   | false=>rw[VK] at he;exact⟨0,he⟩
  ·exact⟨0,he⟩
  ·cases he
theorem xQ{d:Bool} : ∀ {os:List az} {s r:AS},dU A.aP (aB A) d os s=some r->∃ n,dU A.aP (xN A n) d os s=some r
 | [],_,_,he=>⟨0,he⟩
 | o :: os,s,r,he=>by
  simp only[dU,ahL] at he ⊢
  obtain⟨x,h1,h2⟩:=he
  obtain⟨n,hn⟩:=Fh h1
  obtain⟨m,hm⟩:=xQ h2
  exact⟨max n m,x,tn (ko (ajI n m)) hn,qb (ko (ajj n m)) hm⟩
theorem Ch{F:AS->Option (bw × AS)}{F' : Nat->AS->Option (bw × AS)}(hm:∀ n m s r,n<=m->F' n s=some r->F' m s=some r)(h:∀ s r,F s=some r->∃ n,F' n s=some r) :
  ∀ {n:Nat} {s:AS} {r:bw × AS},iter F n s=some r->∃ m,iter (F' m) n s=some r
 | 0,_,_,he=>by cases he
 | n+1,s,r,he=>by
  simp only[iter,ahL] at he ⊢
  obtain⟨x,h1,h2⟩:=he
  obtain⟨m1,Ql⟩:=h _ _ h1
  split at h2
  ·obtain⟨m2,YZ⟩:=Ch hm h h2
   refine⟨max m1 m2,x,hm _ _ _ _ (ajI _ _) Ql,?_⟩
   rename_i hx
   simp only[hx]
   exact mU (fun s r=>hm _ _ _ _ (ajj _ _)) (ahQ _) YZ
  ·rename_i hx
   refine⟨m1,x,Ql,?_⟩
   split
   ·rename_i mG;exact absurd mG hx
   ·exact h2
theorem nz{n:Nat} : ∀ {c:a7} {s:AS} {r:bw × AS},gH A.aP (aB A) n c s=some r->∃ m,gH A.aP (xN A m) n c s=some r
 | .skip,_,_,he=>⟨0,he⟩
 | .exit _,_,_,he=>⟨0,he⟩
 | .ret,_,_,he=>⟨0,he⟩
 | .wU _ _ _,_,_,he=>by simp[gH] at he
 | .region d os,s,r,he=>by
  simp only[gH,ahK] at he ⊢
  obtain⟨x,h1,h2⟩:=he
  obtain⟨m,hm⟩:=xQ h1
  exact⟨m,x,hm,h2⟩
 | .seq a b,s,r,he=>by
  simp only[gH,ahL] at he ⊢
  obtain⟨x,h1,h2⟩:=he
  obtain⟨m1,Ql⟩:=nz h1
  split at h2
  ·rename_i hx
   obtain⟨m2,YZ⟩:=nz h2
   refine⟨max m1 m2,x,ia (ko (ajI _ _)) (ahQ _) Ql,?_⟩
   simp only[hx]
   exact ia (ko (ajj _ _)) (ahQ _) YZ
  ·rename_i hx
   refine⟨m1,x,Ql,?_⟩
   split
   ·rename_i mG;exact absurd mG hx
   ·exact h2
 | .cond c a b,s,r,he=>by
  simp only[gH] at he ⊢
  split at he
  ·rename_i t ht
   cases t
   ·exact nz (c:=b) he
   ·exact nz (c:=a) he
  ·cases he
 | .block id a,s,r,he=>by
  simp only[gH,ahK] at he ⊢
  obtain⟨x,h1,h2⟩:=he
  obtain⟨m,hm⟩:=nz h1
  exact⟨m,x,hm,h2⟩
 | .loop a,s,r,he=>by
  simp only[gH] at he ⊢
  exact Ch (F':=fun m=>gH A.aP (xN A m) n a) (fun n' m s r hn h=>ia (ko hn) (ahQ _) h) (fun s r h=>nz h) he
theorem OJ{n:Nat}{fn:au}{args:List AV}{H:ag}{r:AV × Option fD}(he:sS A.aP (aB A) n fn args H=some r):∃ m,sS A.aP (xN A m) n fn args H=some r:=by
 unfold sS at he ⊢
 cases hb:Nat.beq args.length fn.np with
 | false=>rw[hb] at he;cases he
 | true =>
  rw[hb] at he
  simp only[cond_true,ahL] at he ⊢
  obtain⟨x,h1,h2⟩:=he
  obtain⟨m,hm⟩:=nz h1
  exact⟨m,x,hm,h2⟩
theorem sj{f:FuncId}{fn:au}(ho:A.ov f=none)(hf:A.fns f=some fn){n:Nat}{args:List AV}{H:ag}{r:AV × Option fD}(h:sS A.aP (aB A) n fn args H=some r):aB A f args H=some r:=by
 obtain⟨m,hm⟩:=OJ h
 refine mO.2 ⟨max m n+1,?_⟩
 simp only[xN,ho,hf]
 exact yE (ko (ajI _ _)) (ajj _ _) hm
theorem uK{f:FuncId}{g:List AV->ag->Option (AV × Option fD)}(ho:A.ov f=some g){args:List AV}{H:ag}{r:AV × Option fD}(h:g args H=some r)(hn:args.all rG=true:=by rfl):aB A f args H=some r :=
 mO.2 ⟨1,by simp only[xN,ho,hn,cond_true];exact h⟩
end
end
section
def a7.sub:List Bool->a7->a7
 | [],c=>c
 | false :: p,.seq a _=>a.sub p
 | true :: p,.seq _ b=>b.sub p
 | false :: p,.cond _ a _=>a.sub p
 | true :: p,.cond _ _ b=>b.sub p
 | _ :: p,.block _ a=>a.sub p
 | _ :: p,.loop a=>a.sub p
 | _,c=>c
def W(A:AP)(c:a7)(s:AS)(Q:bw->AS->Prop):Prop:=∃ n e s',gH A.aP (aB A) n c s=some (e,s')/\Q e s'
def WO(A:AP)(d:Bool)(os:List az)(s:AS)(Q:AS->Prop):Prop:=∃ s',dU A.aP (aB A) d os s=some s'/\Q s'
def bj{α:Type}(x:Option α)(K:α->Prop):Prop:=∃ s,x=some s/\K s
def xI(v:AV)(p q:AS->Prop)(s:AS):Prop:=∃ b,v=.bool b/\(b=true->p s)/\(b=false->q s)
def andThen(P:AS->Prop)(Q:bw->AS->Prop):bw->AS->Prop
 | .normal,s=>P s
 | e,s=>Q e s
def leave(id:Nat)(Q:bw->AS->Prop):bw->AS->Prop
 | .exit i,s=>Q (cond (Nat.beq i id) .normal (.exit i)) s
 | e,s=>Q e s
section
variable {A:AP}
theorem av{α:Type}{s:α}{K:α->Prop} : bj (some s) K=K s:=by
 refine propext ⟨?_,fun h=>⟨s,rfl,h⟩⟩
 rintro ⟨s',h,hk⟩
 injection h with h
 rw[h];exact hk
theorem D5{p q:AS->Prop}{s:AS} : xI (.bool true) p q s=p s:=by
 refine propext ⟨?_,fun h=>⟨true,rfl,fun _=>h,fun hb=>Bool.noConfusion hb⟩⟩
 rintro ⟨b,h,h1,h2⟩
 injection h with h
 exact h1 h.symm
theorem Bg{p q:AS->Prop}{s:AS} : xI (.bool false) p q s=q s:=by
 refine propext ⟨?_,fun hq=>⟨false,rfl,(fun hb=>Bool.noConfusion hb),fun _=>hq⟩⟩
 rintro ⟨b,h,h1,h2⟩
 injection h with h
 exact h2 h.symm
theorem kn{b:Bool}{p q:AS->Prop}{s:AS}(h1:b=true->p s)(h2:b=false->q s):xI (.bool b) p q s:=⟨b,rfl,h1,h2⟩
theorem iH{P:Prop}{_:Decidable P}{p q:AS->Prop}{s:AS}(h1:P->p s)(h2:¬ P->q s):xI (.bool (decide P)) p q s :=
 ⟨_,rfl,fun h=>h1 (of_decide_eq_true h),fun h=>h2 (of_decide_eq_false h)⟩
theorem up{n m:Nat}(h:n<=m){c:a7}{s:AS}{r:bw × AS}(he:gH A.aP (aB A) n c s=some r):gH A.aP (aB A) m c s=some r:=ia (fun _ _ _ _ h=>h) h he
theorem UU{s:AS}{Q:bw->AS->Prop} : W A .skip s Q=Q .normal s:=by
 refine propext ⟨?_,fun h=>⟨0,_,_,rfl,h⟩⟩
 rintro ⟨n,e,s',h,hq⟩
 simp only[gH,ahM,ahN] at h
 rw[h.1,h.2];exact hq
theorem Za{s:AS}{Q:bw->AS->Prop} : W A .ret s Q=Q .ret s:=by
 refine propext ⟨?_,fun h=>⟨0,_,_,rfl,h⟩⟩
 rintro ⟨n,e,s',h,hq⟩
 simp only[gH,ahM,ahN] at h
 rw[h.1,h.2];exact hq
theorem UT{i:Nat}{s:AS}{Q:bw->AS->Prop} : W A (.exit i) s Q=Q (.exit i) s:=by
 refine propext ⟨?_,fun h=>⟨0,_,_,rfl,h⟩⟩
 rintro ⟨n,e,s',h,hq⟩
 simp only[gH,ahM,ahN] at h
 rw[h.1,h.2];exact hq
theorem Kd{a b:a7}{s:AS}{Q:bw->AS->Prop} : W A (.seq a b) s Q=W A a s (andThen (fun s'=>W A b s' Q) Q):=by
 refine propext ⟨?_,?_⟩
 ·rintro ⟨n,e,s',h,hq⟩
  simp only[gH,ahL] at h
  obtain⟨⟨e1,s1⟩,h1,h2⟩:=h
  refine⟨n,e1,s1,h1,?_⟩
  cases e1 with
  | normal=>exact⟨n,e,s',h2,hq⟩
  | _ =>
   simp only[ahM,ahN] at h2
   obtain⟨rfl,rfl⟩:=h2
   exact hq
 ·rintro ⟨n,e,s',h,hq⟩
  cases e with
  | normal =>
   obtain⟨m,e2,s2,h2,hq⟩:=hq
   refine⟨max n m,e2,s2,?_,hq⟩
   simp only[gH,up (ajI n m) h,ahV,up (ajj n m) h2]
  | exit i =>
   refine⟨n,_,s',?_,hq⟩
   simp only[gH,h,ahV]
  | ret =>
   refine⟨n,_,s',?_,hq⟩
   simp only[gH,h,ahV]
theorem G1{i:Nat}{a:a7}{s:AS}{Q:bw->AS->Prop} : W A (.block i a) s Q=W A a s (leave i Q):=by
 refine propext ⟨?_,?_⟩
 ·rintro ⟨n,e,s',h,hq⟩
  simp only[gH,ahK] at h
  obtain⟨⟨e1,s1⟩,h1,h2⟩:=h
  refine⟨n,e1,s1,h1,?_⟩
  cases e1<;>simp only[ahN] at h2<;>obtain⟨rfl,rfl⟩:=h2<;>exact hq
 ·rintro ⟨n,e,s',h,hq⟩
  cases e<;>exact⟨n,_,s',by simp only[gH,h,ah0],hq⟩
theorem US{c:ak}{a b:a7}{s:AS}{Q:bw->AS->Prop} : W A (.cond c a b) s Q=xI (c.eval A.aP s.T) (fun s=>W A a s Q) (fun s=>W A b s Q) s:=by
 refine propext ⟨?_,?_⟩
 ·rintro ⟨n,e,s',h,hq⟩
  simp only[gH] at h
  split at h
  ·rename_i t ht
   refine⟨t,ht,fun hb=>?_,fun hb=>?_⟩
   ·subst hb;exact⟨n,e,s',h,hq⟩
   ·subst hb;exact⟨n,e,s',h,hq⟩
  ·cases h
 ·rintro ⟨t,ht,h1,h2⟩
  cases t with
  | true =>
   obtain⟨n,e,s',h,hq⟩:=h1 rfl
   exact⟨n,e,s',by simp only[gH,ht];exact h,hq⟩
  | false =>
   obtain⟨n,e,s',h,hq⟩:=h2 rfl
   exact⟨n,e,s',by simp only[gH,ht];exact h,hq⟩
theorem Kc{d:Bool}{os:List az}{s:AS}{Q:bw->AS->Prop} : W A (.region d os) s Q=WO A d os s (Q .normal):=by
 refine propext ⟨?_,?_⟩
 ·rintro ⟨n,e,s',h,hq⟩
  simp only[gH,ahK,ahN] at h
  obtain⟨s1,h1,rfl,rfl⟩:=h
  exact⟨s1,h1,hq⟩
 ·rintro ⟨s1,h1,hq⟩
  exact⟨0,.normal,s1,by simp only[gH,h1,ah0],hq⟩
theorem UR{d:Bool}{s:AS}{Q:AS->Prop} : WO A d [] s Q=Q s:=by
 refine propext ⟨?_,fun h=>⟨s,rfl,h⟩⟩
 rintro ⟨s',h,hq⟩
 simp only[dU,ahM] at h
 rw[h];exact hq
theorem fc{d:Bool}{o:az}{os:List az}{s:AS}{Q:AS->Prop} : WO A d (o :: os) s Q=bj (bO A.aP (aB A) d s o) fun s'=>WO A d os s' Q:=by
 refine propext ⟨?_,?_⟩
 ·rintro ⟨s',h,hq⟩
  simp only[dU,ahL] at h
  obtain⟨s1,h1,h2⟩:=h
  exact⟨s1,h1,s',h2,hq⟩
 ·rintro ⟨s1,h1,s',h2,hq⟩
  exact⟨s',by simp only[dU,h1,ahV,h2],hq⟩
theorem Ka{a b:a7}{s:AS}{Q:bw->AS->Prop}(R:AS->Prop)(h1:W A a s (andThen R Q))(h2:∀ s',R s'->W A b s' Q):W A (.seq a b) s Q:=by
 rw[Kd]
 obtain⟨n,e,s',h,hq⟩:=h1
 exact⟨n,e,s',h,by cases e with|normal=>exact h2 s' hq|_=>exact hq⟩
theorem r6{c:a7}{s:AS}{Q Q' : bw->AS->Prop}(h:W A c s Q)(hq:∀ e s',Q e s'->Q' e s'):W A c s Q':=by
 obtain⟨n,e,s',h1,h2⟩:=h
 exact⟨n,e,s',h1,hq e s' h2⟩
theorem Kb{a:a7}{Q:bw->AS->Prop}(I:Nat->AS->Prop)(hI:∀ k s,I k s->W A a s (andThen (fun s'=>∃ k',k' < k/\I k' s') Q)):∀ k s,I k s->W A (.loop a) s Q:=by
 intro k
 induction k using Nat.strongRecOn with
 | _ k ih =>
  intro s hs
  obtain⟨n,e,s1,h1,hq⟩:=hI k s hs
  cases e with
  | normal =>
   obtain⟨k',hk,zO⟩:=hq
   obtain⟨m,e2,s2,h2,hq⟩:=ih k' hk s1 zO
   refine⟨max n m+1,e2,s2,?_,hq⟩
   simp only[gH,iter] at h2 ⊢
   have Qd:=up (A:=A) (show n<=max n m+1 by omega) h1
   rw[Qd,ahV]
   have Ub:iter (gH A.aP (aB A) (max n m+1) a) (max n m) s1=some (e2,s2) :=
    mU (fun s r h=>up (show m<=max n m+1 by omega) h) (ajj n m) h2
   exact Ub
  | exit i =>
   refine⟨n+1,_,s1,?_,hq⟩
   simp only[gH,iter]
   rw[up (A:=A) (show n<=n+1 by omega) h1,ahV]
  | ret =>
   refine⟨n+1,_,s1,?_,hq⟩
   simp only[gH,iter]
   rw[up (A:=A) (show n<=n+1 by omega) h1,ahV]
theorem qF{a:a7}{s:AS}{Q:bw->AS->Prop}(h:W A a s (andThen (fun s'=>W A (.loop a) s' Q) Q)):W A (.loop a) s Q:=by
 obtain⟨n,e,s1,h1,hq⟩:=h
 cases e with
 | normal =>
  obtain⟨m,e2,s2,h2,hq⟩:=hq
  refine⟨max n m+1,e2,s2,?_,hq⟩
  simp only[gH,iter] at h2 ⊢
  rw[up (A:=A) (show n<=max n m+1 by omega) h1,ahV]
  exact mU (fun s r h=>up (show m<=max n m+1 by omega) h) (ajj n m) h2
 | exit i =>
  refine⟨n+1,_,s1,?_,hq⟩
  simp only[gH,iter]
  rw[up (A:=A) (show n<=n+1 by omega) h1,ahV]
 | ret =>
  refine⟨n+1,_,s1,?_,hq⟩
  simp only[gH,iter]
  rw[up (A:=A) (show n<=n+1 by omega) h1,ahV]
theorem yV{a:a7}{Q:bw->AS->Prop}(n:Nat)(I:Nat->AS->Prop)(hI:∀ k s,k<=n->I k s->W A a s (andThen (fun s'=>k<n/\I (k+1) s') Q))(k:Nat)(s:AS)(hk:k<=n)(hs:I k s):W A (.loop a) s Q:=by
 refine Kb (fun j s=>∃ k,k<=n/\j=n-k/\I k s) (fun j s h=>?_) (n-k) s ⟨k,hk,rfl,hs⟩
 obtain⟨k,hk,rfl,hs⟩:=h
 refine r6 (hI k s hk hs) fun e s' hq=>?_
 cases e with
 | normal =>
  obtain⟨h1,h2⟩:=hq
  exact⟨n-(k+1),by omega,k+1,by omega,rfl,h2⟩
 | _=>exact hq
def Ex(i:Nat)(P V:AS->Prop):bw->AS->Prop
 | .exit j,s=>j=i/\P s
 | .ret,s=>V s
 | .normal,_=>False
theorem G2{a:a7}{s:AS}{Q:bw->AS->Prop}(id:Nat)(P V:AS->Prop)(h:W A (.loop a) s (Ex id P V))(hp:∀ s',P s'->Q (.exit id) s')(hv:∀ s',V s'->Q .ret s'):W A (.loop a) s Q:=by
 refine r6 h fun e s' hq=>?_
 cases e with
 | normal=>exact hq.elim
 | exit j=>obtain⟨rfl,hq⟩:=hq;exact hp s' hq
 | ret=>exact hv s' hq
theorem bP{a:a7}{Q:bw->AS->Prop}(n id:Nat)(I:Nat->AS->Prop)(P V:AS->Prop)(hI:∀ k s,k<=n->I k s->W A a s (andThen (fun s'=>k<n/\I (k+1) s') (Ex id P V)))
  (hp:∀ s',P s'->Q (.exit id) s') (hv:∀ s',V s'->Q .ret s') (k:Nat) (s:AS) (hk:k<=n) (hs:I k s):W A (.loop a) s Q :=
 G2 id P V (yV n I hI k s hk hs) hp hv
theorem yW{a:a7}{Q:bw->AS->Prop}(id:Nat)(I:Nat->AS->Prop)(P V:AS->Prop)(hI:∀ k s,I k s->W A a s (andThen (fun s'=>∃ k',k' < k/\I k' s') (Ex id P V)))
  (hp:∀ s',P s'->Q (.exit id) s') (hv:∀ s',V s'->Q .ret s') (k:Nat) (s:AS) (hs:I k s):W A (.loop a) s Q :=
 G2 id P V (Kb I hI k s hs) hp hv
def Hd(P:aA->Prop)(H:ag)(lo gen:Nat)(s:AS):Prop:=P s.T/\s.H=H/\s.lo=lo/\s.gen=gen
theorem Hd.out{P:aA->Prop}{H:ag}{lo gen:Nat}{s:AS}(h:Hd P H lo gen s):∃ T,s=⟨T,H,lo,gen⟩/\P T:=by
 obtain⟨T,H',l',g'⟩:=s
 obtain⟨h1,h2,h3,h4⟩:=h
 simp only at h1 h2 h3 h4
 subst h2 h3 h4
 exact⟨T,rfl,h1⟩
def HR(P:aA->Prop)(H:ag)(lo:Nat)(s:AS):Prop:=P s.T/\s.H=H/\s.lo=lo
theorem HR.out{P:aA->Prop}{H:ag}{lo:Nat}{s:AS}(h:HR P H lo s):∃ T g,s=⟨T,H,lo,g⟩/\P T:=by
 obtain⟨T,H',l',g'⟩:=s
 obtain⟨h1,h2,h3⟩:=h
 simp only at h1 h2 h3
 subst h2 h3
 exact⟨T,g',rfl,h1⟩
def fin(base:Nat)(rs:List fI)(s:AS):Option (AV × Option fD) :=
 cond (mA base s) ((lV s rs).bind fun r=>cond (r.leaves base) (some (r,cond (Nat.beq s.lo base) none (some ⟨s.H.take base,s.lo⟩))) none) none
def done(base:Nat)(rs:List fI)(r:AV × Option fD):bw->AS->Prop
 | .exit _,_=>False
 | _,s=>fin base rs s=some r
def uV(base:Nat)(rs:List fI)(P:AV × Option fD->Prop):bw->AS->Prop
 | .exit _,_=>False
 | _,s=>bj (fin base rs s) P
theorem JE{s:AS}{r:fI}{b:Nat}(h:nJ s r=some b):iz s r=none:=by
 cases r with
 | tmp t =>
  simp only[nJ] at h
  simp only[iz]
  split at h
  ·rename_i hT;rw[hT];rfl
  ·rename_i hT;rw[hT];rfl
  ·cases h
 | cell=>cases h
theorem BK{s:AS}{m:Nat}{rs:List fI}{q:AV × Option fD}(he:oC m rs s=some q):∃ i l off n z,rs=[i]/\iz s i=some (.sref l off n z)/\m<=l:=by
 unfold oC at he
 split at he
 ·rename_i i
  simp only[ahL] at he
  obtain⟨v,hv,he⟩:=he
  split at he
  ·rename_i l off n z
   split at he
   ·rename_i ty cs hH
    cases hb:(Nat.ble m l&&cs.all AV.plain) with
    | false=>rw[hb] at he;cases he
    | true =>
     simp only[ahR,aiq] at hb
     exact⟨i,l,off,n,z,rfl,hv,hb.1⟩
   ·cases he
  ·cases he
 ·cases he
theorem Kp{base:Nat}{fn:au}{s:AS}{r:AV × Option fD}(h:jF base fn.results s=some r):nA base fn s=none:=by
 cases hf:nA base fn s with
 | none=>rfl
 | some q =>
  exfalso
  unfold nA at hf
  cases hb:fn.muts.elem 888888 with
  | false=>rw[hb] at hf;cases hf
  | true =>
   rw[hb,cond_true] at hf
   obtain⟨i,l,off,n,z,B8,qk,Y0⟩:=BK hf
   unfold jF lV at h
   rw[B8] at h
   simp only at h
   cases hr:nJ s i with
   | some b=>rw[JE hr] at qk;cases qk
   | none =>
    rw[hr] at h
    simp only[qk,ahV] at h
    have:(AV.sref l off n z).leaves base=false:=by
     simp only[AV.leaves,AV.bf,AV.aN]
     cases hb:Nat.blt l base with
     | false=>rfl
     | true=>rw[aih] at hb;omega
    rw[this] at h
    cases h
theorem vi{base:Nat}{fn:au}{s:AS}{r:AV × Option fD}(h:fin base fn.results s=some r):finish base fn s=some (pL fn r):=by
 unfold fin at h
 cases ho:mA base s with
 | false=>rw[ho] at h;cases h
 | true =>
  rw[ho,cond_true] at h
  have h:jF base fn.results s=some r:=h
  unfold finish kT qW
  rw[ho,cond_true,Kp h,h];rfl
def PL(base:Nat)(fn:au)(P:AV × Option fD->Prop):bw->AS->Prop
 | .exit _,_=>False
 | _,s=>∃ r,finish base fn s=some r/\P r
theorem o4{f:FuncId}{fn:au}(ho:A.ov f=none)(hf:A.fns f=some fn){args:List AV}{H:ag}{P:AV × Option fD->Prop}(hn:Nat.beq args.length fn.np=true)
  (h:W A fn.body { T:=gl args,H,lo:=H.length,gen:=0 } (PL H.length fn P)):∃ r,aB A f args H=some r/\P r:=by
 obtain⟨n,e,s',h1,h2⟩:=h
 have key:∀ r,finish H.length fn s'=some r->aB A f args H=some r:=by
  intro r hr
  refine sj ho hf (n:=n) ?_
  unfold sS
  rw[hn,cond_true,h1,ahV]
  cases e with
  | exit i=>exact h2.elim
  | _=>exact hr
 cases e with
 | exit i=>exact h2.elim
 | _=>obtain⟨r,hr,hP⟩:=h2;exact⟨r,key r hr,hP⟩
theorem rH{fn:au}(hm:fn.muts.elem 777777=false)(r:AV × Option fD):pL fn r=r:=by unfold pL;rw[hm];rfl
theorem Of{fn:au}(hm:fn.muts.elem 777777=true)(r:AV × Option fD):pL fn r=(lR r.1,r.2):=by unfold pL;rw[hm];rfl
theorem xD{f:FuncId}{fn:au}(ho:A.ov f=none)(hf:A.fns f=some fn){args:List AV}{H:ag}{P:AV × Option fD->Prop}(hn:Nat.beq args.length fn.np=true)
  (h:W A fn.body { T:=gl args,H,lo:=H.length,gen:=0 } (uV H.length fn.results P)):∃ r,aB A f args H=some (pL fn r)/\P r:=by
 obtain⟨n,e,s',h1,h2⟩:=h
 have key:∀ r,fin H.length fn.results s'=some r->aB A f args H=some (pL fn r):=by
  intro r hr
  refine sj ho hf (n:=n) ?_
  unfold sS
  rw[hn,cond_true,h1,ahV]
  cases e with
  | exit i=>exact h2.elim
  | _=>exact vi hr
 cases e with
 | exit i=>exact h2.elim
 | _=>obtain⟨r,hr,hP⟩:=h2;exact⟨r,key r hr,hP⟩
theorem Kz{f:FuncId}{fn:au}(ho:A.ov f=none)(hf:A.fns f=some fn){args:List AV}{H:ag}{P:AV × Option fD->Prop}(hn:Nat.beq args.length fn.np=true)
  (h:W A fn.body { T:=gl args,H,lo:=H.length,gen:=0 } (uV H.length fn.results P)) (hm:fn.muts.elem 777777=false:=by rfl):∃ r,aB A f args H=some r/\P r:=by
 obtain⟨r,h1,h2⟩:=xD ho hf hn h
 rw[rH hm] at h1
 exact⟨r,h1,h2⟩
theorem la{f:FuncId}{fn:au}(ho:A.ov f=none)(hf:A.fns f=some fn){args:List AV}{H:ag}{P:AV × Option fD->Prop}(hn:Nat.beq args.length fn.np=true)
  (hm:fn.muts.elem 777777=true) (h:W A fn.body { T:=gl args,H,lo:=H.length,gen:=0 } (uV H.length fn.results fun r=>P (lR r.1,r.2))):∃ r,aB A f args H=some r/\P r:=by
 obtain⟨r,h1,h2⟩:=xD ho hf hn h
 rw[Of hm] at h1
 exact⟨_,h1,h2⟩
theorem Ky{f:FuncId}{fn:au}(ho:A.ov f=none)(hf:A.fns f=some fn){args:List AV}{H:ag}{r:AV × Option fD}(hn:Nat.beq args.length fn.np=true)
  (h:W A fn.body { T:=gl args,H,lo:=H.length,gen:=0 } (done H.length fn.results r)):aB A f args H=some (pL fn r):=by
 obtain⟨n,e,s',h1,h2⟩:=h
 refine sj ho hf (n:=n) ?_
 unfold sS
 rw[hn,cond_true,h1,ahV]
 cases e with
 | exit i=>exact h2.elim
 | _=>exact vi h2
theorem ba{f:FuncId}{fn:au}(ho:A.ov f=none)(hf:A.fns f=some fn){args:List AV}{H:ag}{r:AV × Option fD}(hn:Nat.beq args.length fn.np=true)
  (h:W A fn.body { T:=gl args,H,lo:=H.length,gen:=0 } (done H.length fn.results r)) (hm:fn.muts.elem 777777=false:=by rfl):aB A f args H=some r:=by
 have:=Ky ho hf hn h
 rwa [rH hm] at this
end
section
variable {A:AP}{T:aA}{H:ag}{lo gen:Nat}{Q:bw->AS->Prop}{K:AS->Prop}{d:Bool}
theorem UP{a b:a7} : W A (.seq a b) ⟨T,H,lo,gen⟩ Q=W A a ⟨T,H,lo,gen⟩ (andThen (fun s'=>W A b s' Q) Q):=Kd
theorem TQ{i:Nat}{a:a7} : W A (.block i a) ⟨T,H,lo,gen⟩ Q=W A a ⟨T,H,lo,gen⟩ (leave i Q):=G1
theorem YF{c:ak}{a b:a7} : W A (.cond c a b) ⟨T,H,lo,gen⟩ Q=xI (c.eval A.aP T) (fun s=>W A a s Q) (fun s=>W A b s Q) ⟨T,H,lo,gen⟩:=US
theorem Dm{os:List az} : W A (.region d os) ⟨T,H,lo,gen⟩ Q=WO A d os ⟨T,H,lo,gen⟩ (Q .normal):=Kc
theorem YL:W A .skip ⟨T,H,lo,gen⟩ Q=Q .normal ⟨T,H,lo,gen⟩:=UU
theorem abU:W A .ret ⟨T,H,lo,gen⟩ Q=Q .ret ⟨T,H,lo,gen⟩:=Za
theorem YH{i:Nat} : W A (.exit i) ⟨T,H,lo,gen⟩ Q=Q (.exit i) ⟨T,H,lo,gen⟩:=UT
theorem UO:WO A d [] ⟨T,H,lo,gen⟩ K=K ⟨T,H,lo,gen⟩:=UR
theorem YK{t:Nat}{v:AV} : AS.br ⟨T,H,lo,gen⟩ t v=⟨T.put t v,H,lo,gen⟩:=rfl
theorem abS{h:ag}{l:Nat} : AS.fa ⟨T,H,lo,gen⟩ ⟨h,l⟩=⟨T,h,cond (Nat.blt l lo) l lo,gen⟩:=rfl
theorem Dl{P:AS->Prop} : andThen P Q .normal ⟨T,H,lo,gen⟩=P ⟨T,H,lo,gen⟩:=rfl
theorem YE{P:AS->Prop} : andThen P Q .ret ⟨T,H,lo,gen⟩=Q .ret ⟨T,H,lo,gen⟩:=rfl
theorem TP{P:AS->Prop}{i:Nat} : andThen P Q (.exit i) ⟨T,H,lo,gen⟩=Q (.exit i) ⟨T,H,lo,gen⟩:=rfl
theorem YI{P:aA->Prop}{H' : ag}{lo' : Nat} : HR P H' lo' ⟨T,H,lo,gen⟩=(P T/\H=H'/\lo=lo'):=rfl
theorem Pj{i:Nat}{P V:AS->Prop} : Ex i P V (.exit i) ⟨T,H,lo,gen⟩=P ⟨T,H,lo,gen⟩:=propext ⟨fun h=>h.2,fun h=>⟨rfl,h⟩⟩
theorem TS{i:Nat}{P V:AS->Prop} : Ex i P V .ret ⟨T,H,lo,gen⟩=V ⟨T,H,lo,gen⟩:=rfl
theorem abT{P:aA->Prop}{H' : ag}{lo' gen' : Nat} : Hd P H' lo' gen' ⟨T,H,lo,gen⟩=(P T/\H=H'/\lo=lo'/\gen=gen'):=rfl
theorem YG{base:Nat}{rs:List fI}{r:AV × Option fD} : done base rs r .ret ⟨T,H,lo,gen⟩=(fin base rs ⟨T,H,lo,gen⟩=some r):=rfl
theorem JP{base:Nat}{rs:List fI}{r:AV × Option fD} : done base rs r .normal ⟨T,H,lo,gen⟩=(fin base rs ⟨T,H,lo,gen⟩=some r):=rfl
theorem TR{base:Nat}{rs:List fI}{P:AV × Option fD->Prop} : uV base rs P .ret ⟨T,H,lo,gen⟩=bj (fin base rs ⟨T,H,lo,gen⟩) P:=rfl
theorem GV{base:Nat}{rs:List fI}{P:AV × Option fD->Prop} : uV base rs P .normal ⟨T,H,lo,gen⟩=bj (fin base rs ⟨T,H,lo,gen⟩) P:=rfl
theorem JQ{i:Nat} : leave i Q .normal ⟨T,H,lo,gen⟩=Q .normal ⟨T,H,lo,gen⟩:=rfl
theorem YJ{i:Nat} : leave i Q .ret ⟨T,H,lo,gen⟩=Q .ret ⟨T,H,lo,gen⟩:=rfl
theorem TT{i:Nat} : leave i Q (.exit i) ⟨T,H,lo,gen⟩=Q .normal ⟨T,H,lo,gen⟩:=by simp[leave]
theorem Pk{i j:Nat} : leave i Q (.exit j) ⟨T,H,lo,gen⟩=if j=i then Q .normal ⟨T,H,lo,gen⟩ else Q (.exit j) ⟨T,H,lo,gen⟩:=by
 by_cases cS:j=i
 ·subst cS;rw[if_pos rfl];exact TT
 rw[if_neg cS]
 have hb:Nat.beq j i=false:=by
  cases hb:Nat.beq j i with
  | false=>rfl
  | true=>exact absurd (aiK hb) cS
 simp[leave,hb]
end
theorem Kt{n:Nat} : Nat.beq n n=true:=aj6 n
theorem put_eq{T:aA}{d:Nat}{v:AV} : (T.put d v) d=v:=by simp[aA.put]
theorem XD{T:aA}{d i:Nat}{v:AV}(h:(i==d)=false):(T.put d v) i=T i:=by
 have cS:i≠d:=by simpa using h
 have hb:Nat.beq i d=false:=by
  cases hb:Nat.beq i d with
  | false=>rfl
  | true=>exact absurd (aiK hb) cS
 simp only[aA.put,hb];rfl
theorem Sx{T:aA}{d i:Nat}{v:AV} : (T.put d v) i=if i=d then v else T i:=by
 by_cases h:i=d
 ·rw[if_pos h,h,put_eq]
 ·rw[if_neg h,XD (by simpa using h)]
theorem FY{a:AV}{l:List AV} : gl (a :: l) 0=a:=rfl
theorem FX{a:AV}{l:List AV}{n:Nat} : gl (a :: l) (n+1)=gl l n:=by simp[gl]
end
section
def mz(o:az):Option Nat :=
 match o.op,o.guard with
 | .next (.tmp t),none=>some t
 | _,_=>none
section
variable (G:Nat->List AV)(cf:cz)
def pS:List az->AS->(AS->Prop)->Prop
 | [],s,Q=>Q s
 | o :: r,s,Q=>match mz o with
  | some t=>∃ g kz ka va cur todo,s.T t=.iter g kz ka va cur todo/\(todo=[]->pS r (s.b9 o.dst (.tuple [.bool false])) Q) /\
    ∀ q rest,todo.Perm (q :: rest)->pS r ((s.br t (.iter g kz ka va q rest)).b9 o.dst (.tuple [.bool true,p8 ka (q.take kz),p8 va (q.drop kz)])) Q
  | none=>∃ s',bO G cf false s o=some s'/\pS r s' Q
inductive BT where
 | leaf (v:AV)
 | node (l r:BT)
def BT.of(f:aA):Nat->Nat->BT
 | 0,o=>.leaf (f o)
 | k+1,o=>.node (BT.of f k o) (BT.of f k (o+2 ^ k))
def BT.get:BT->Nat->Nat->AV
 | .leaf v,_,_=>v
 | .node _ _,0,_=>.undef
 | .node l r,k+1,i=>cond (Nat.blt i (2 ^ k)) (BT.get l k i) (BT.get r k (i-2 ^ k))
def Bi(nt:Nat):Nat:=Nat.log2 nt+1
def De(nt:Nat)(t:BT):aA:=fun i=>cond (Nat.blt i nt) (BT.get t (Bi nt) i) .undef
def uL(nt:Nat)(s:AS):AS:={ s with T:=De nt (BT.of s.T (Bi nt) 0) }
def qw(pre:List (List Nat))(L:Array Bool):List Nat:=(List.range pre.length).filter fun i=>!L.getD i true&&(pre.getD i []).all fun j=>L.getD j false
def Px(nt:Nat)(ops:List az)(pre:List (List Nat)):Nat->Array Bool->AS->(AS->Prop)->Prop
 | 0,L,s,Q=>qw pre L=[]/\Q s
 | n+1,L,s,Q=>(qw pre L=[]->Q s)/\∀ i∈qw pre L,∃ o s',ops[i]?=some o/\bO G cf false s o=some s'/\Px nt ops pre n (L.setIfInBounds i true) (uL nt s') Q
def Hu(F:AS->(bw->AS->Prop)->Prop):Nat->AS->(bw->AS->Prop)->Prop
 | 0,_,_=>False
 | n+1,s,Q=>F s (andThen (fun s'=>Hu F n s' Q) Q)
def WN:a7->AS->(bw->AS->Prop)->Prop
 | .skip,s,Q=>Q .normal s
 | .region false ops,s,Q=>pS G cf ops s (Q .normal)
 | .region true ops,s,Q=>∃ s',dU G cf true ops s=some s'/\Q .normal s'
 | .seq a b,s,Q=>WN a s (andThen (fun s'=>WN b s' Q) Q)
 | .cond c a b,s,Q=>∃ t,c.eval G s.T=.bool t/\(t=true->WN a s Q)/\(t=false->WN b s Q)
 | .block id a,s,Q=>WN a s (leave id Q)
 | .loop a,s,Q=>∃ n,Hu (WN a) n s Q
 | .exit id,s,Q=>Q (.exit id) s
 | .ret,s,Q=>Q .ret s
 | .wU nt ops pre,s,Q=>Px G cf nt ops pre ops.length (Array.replicate ops.length false) (uL nt s) (Q .normal)
end
section
variable {P:Program}{G:Nat->List AV}{base nt:Nat}{gh:Gh}{w w' : World}{a:Act}{s:AS}{H:ag}{L:List Nat}
theorem Gl{o:az}{t:Nat}(h:mz o=some t):o.op=.next (.tmp t)/\o.guard=none:=by
 unfold mz at h
 split at h
 ·rename_i h1 h2
  injection h with h
  subst h
  exact⟨h1,h2⟩
 ·cases h
def NN(x:Option dR):Prop:=∀ it,x≠some (.next it)
theorem NN.none:NN none:=fun _ h=>by cases h
theorem NN.bind{α:Type}{x:Option α}{f:α->Option dR}(h:∀ a,NN (f a)):NN (x.bind f):=by
 cases x with
 | none=>exact NN.none
 | some a=>exact h a
theorem NN.map{α:Type}{x:Option α}{f:α->dR}(h:∀ a,NN (some (f a))):NN (x.map f):=by
 cases x with
 | none=>exact NN.none
 | some a=>exact h a
theorem NN.cond{b:Bool}{x y:Option dR}(h1:NN x)(h2:NN y):NN (bif b then x else y):=by cases b<;>assumption
theorem NN.T2{b:Bool}{x y:dR}(h1:NN (some x))(h2:NN (some y)):NN (some (bif b then x else y)):=by cases b<;>assumption
theorem NN.mS{bR:List Nat}{d:Option Nat}{g:ak}{ys:List ak} : NN (some (qO bR d g ys)):=by
 rw[qP];exact fun _ h=>by cases h
theorem w4{bR locals muts:List Nat}{d:Option Nat}{c:Call} : NN (qN P bR locals muts nt d c):=by
 unfold qN
 repeat' first
  | exact NN.mS
  | exact NN.none
  | exact fun _ h=>by cases h
  | refine NN.bind fun _=>?_
  | refine NN.map fun _=>?_
  | refine NN.cond ?_ ?_
  | refine NN.T2 ?_ ?_
  | split
theorem Bf{bR locals muts:List Nat}{d:Option Nat}{o:Op}{x:ak}(h:cn P bR locals muts nt d o=some (.next x)):∃ y,o=.next y false/\ah nt y=some x:=by
 have key:(∀ y b,o≠.next y b)->NN (cn P bR locals muts nt d o):=by
  intro hn
  cases o
  case makeMap t r =>
   cases r with
   | none=>simp only[cn];exact NN.map fun _ _ h=>by cases h
   | some r=>simp only[cn];exact NN.none
  all_goals simp only[cn]
  all_goals first
   | exact absurd rfl (hn _ _)
   | exact w4
   | (repeat' first
     | exact NN.none
     | exact fun _ h=>by cases h
     | refine NN.bind fun _=>?_
     | refine NN.map fun _=>?_
     | refine NN.cond ?_ ?_
     | refine NN.T2 ?_ ?_
     | split)
 by_cases hn:∀ y b,o≠.next y b
 ·exact absurd h (key hn x)
 ·have:∃ y b,o=.next y b:=by
   refine Classical.byContradiction fun hc=>hn fun y b e=>hc ⟨y,b,e⟩
  obtain⟨y,b,rfl⟩:=this
  cases b with
  | true=>simp[cn] at h
  | false =>
   simp only[cn,ahK,dR.next.injEq] at h
   obtain⟨z,hz,rfl⟩:=h
   exact⟨y,rfl,hz⟩
theorem k7{cf:cz}(ij:dn P G cf){H0:ag}{gr:Gh}{w0:World}{bR locals muts:List Nat}{ops:Array Oper}(vp:∀ x,x∈locals->x∈L)(uu:∀ x,x∈muts->x∈L)(Q:Exit->Act->World->Prop)(R:AS->Prop)
  (hR:∀ s' a' aD w',R s'->Inv G base nt L H0 gr w0 s' aD w' a'->Q .normal a' w') :
  ∀ (l:List Oper) (is:List az) (s:AS) (gh:Gh) (w:World) (a:Act),Inv G base nt L H0 gr w0 s gh w a->fe P bR locals muts nt ops l=some is->pS G cf is s R->wpList P ops Q l a w
 | [],is,s,gh,w,a,hI,hc,he=>by
  simp only[fe,ahM] at hc
  subst hc
  exact hR s a gh w he hI
 | o :: l,is,s,gh,w,a,hI,hc,he=>by
  simp only[fe,ahL,ahK] at hc
  obtain⟨io,ri,Y8,Dv,rfl⟩:=hc
  unfold pS at he
  unfold wpList
  have hinv:=iG ri
  cases hn:mz io with
  | none =>
   rw[hn] at he
   obtain⟨s1,h1,h2⟩:=he
   rw[lC,ahK] at h1
   obtain⟨⟨z,s2⟩,hz,rfl⟩:=h1
   refine mX ij hI ri vp uu hz _ Q (fun a' aD w' jM=>?_)
   rw[hinv.2.2.1] at h2
   exact k7 ij vp uu Q R hR l Y8 _ aD w' a' jM Dv h2
  | some t =>
   rw[hn] at he
   obtain⟨g,kz,ka,va,cur,todo,hT,h0,h1⟩:=he
   obtain⟨cE,AK⟩:=Gl hn
   rw[cE] at hinv
   obtain⟨y,hoy,vt⟩:=Bf hinv.1
   have V8:o.guard=none:=by
    have hg:=hinv.2.1
    rw[AK] at hg
    cases Uj:o.guard with
    | none=>rfl
    | some jw =>
     obtain⟨j,want⟩:=jw
     rw[Uj] at hg
     simp only[mQ,ahL] at hg
     obtain⟨_,_,hg⟩:=hg
     obtain⟨_,hg⟩:=ab hg
     cases hg
   have hw:Region.wanted o (yielded ops a.tmps)=true:=by simp[Region.wanted,V8]
   rw[if_pos hw]
   have htL:t∈L:=hI.F.obj t (by rw[hT];rfl)
   refine .inl (PY hI.W hI.F hoy vt hT htL hinv.2.2.2 _ Q (fun I2 v' aD w' hO=>?_) (fun q rest hp v' aD w' hO=>?_))
   ·have:=h0 I2
    rw[hinv.2.2.1] at this
    exact k7 ij vp uu Q R hR l Y8 _ aD w' _ (hI.out hO hI.lo) Dv this
   ·have:=h1 q rest hp
    rw[hinv.2.2.1] at this
    exact k7 ij vp uu Q R hR l Y8 _ aD w' _ (hI.out hO (hI.lo.dK rfl rfl)) Dv this
theorem tQ{cf:cz} : ∀ (l:List az) (s:AS) (Q:AS->Prop),(∀ o,o∈l->mz o=none)->pS G cf l s Q->∃ s',dU G cf false l s=some s'/\Q s'
 | [],s,Q,_,h=>⟨s,rfl,h⟩
 | o :: l,s,Q,hn,h=>by
  have ho:=hn o aid
  unfold pS at h
  rw[ho] at h
  obtain⟨s1,h1,h⟩:=h
  obtain⟨s2,h2,h3⟩:=tQ l s1 Q (fun o ho=>hn o (ai4 _ ho)) h
  exact⟨s2,by simp only[dU,h1,ahV,h2],h3⟩
theorem oG{mode pc:Bool}{is:List az}{L:List Nat} : ∀ {l:List az} {es:List xx},mr mode pc is L l=some es->∀ o,o∈inter mode pc is L l->mz o=none
 | [],_,_,o,ho=>by cases ho
 | p :: l,es,h,o,ho=>by
  simp only[mr,ahL,ahK] at h
  obtain⟨e,he,rS,h',rfl⟩:=h
  have hp:mz (iw pc p)=none:=by
   obtain⟨d,g,op⟩:=p
   cases op<;>try rfl
   ·simp only[iw];cases pc<;>rfl
   ·simp[Bt,xM] at he
  simp only[inter] at ho
  split at ho
  ·rcases aii.1 ho with rfl|ho
   ·rfl
   ·rcases aii.1 ho with rfl|ho
    ·exact hp
    ·exact oG h' o ho
  ·rcases aii.1 ho with rfl|ho
   ·exact hp
   ·exact oG h' o ho
theorem BT.FF(f:aA):∀ (k o i:Nat),i<2 ^ k->BT.get (BT.of f k o) k i=f (o+i)
 | 0,o,i,h=>by
  have:i=0:=by simp at h;exact h
  subst this;rfl
 | k+1,o,i,h=>by
  have h2:2 ^ (k+1)=2 ^ k+2 ^ k:=by rw[Nat.pow_succ];omega
  simp only[BT.of,BT.get]
  cases hb:Nat.blt i (2 ^ k) with
  | true =>
   rw[aih] at hb
   rw[cond_true];exact BT.FF f k o i hb
  | false =>
   have hn:¬ i<2 ^ k:=fun h=>by rw[<- aih] at h;rw[h] at hb;cases hb
   rw[ahW,BT.FF f k (o+2 ^ k) (i-2 ^ k) (by omega)]
   congr 1;omega
theorem Az{nt:Nat}{T:aA}{i:Nat}(h:i<nt):De nt (BT.of T (Bi nt) 0) i=T i:=by
 have h1:Nat.blt i nt=true:=by rw[aih];exact h
 unfold De
 rw[h1,cond_true,BT.FF _ _ _ _ (Nat.lt_trans h (by unfold Bi;exact Nat.lt_log2_self)),Nat.zero_add]
theorem TF{nt:Nat}{T:aA}{i:Nat}(h:nt<=i):De nt (BT.of T (Bi nt) 0) i=.undef:=by
 have h1:Nat.blt i nt=false:=by
  cases hb:Nat.blt i nt with
  | false=>rfl
  | true=>rw[aih] at hb;omega
 unfold De
 rw[h1];rfl
theorem SR.U9{n:Nat}{T T' : aA}{gen:Nat}{tm:Nat->Value}{i:Nat}{v:Value}{x:AV}(hT:∀ j,j<nt->T' j=T j)(h:SR gh n nt w T gen tm i v x):SR gh n nt w T' gen tm i v x:=by
 cases x
 case lref b g off=>obtain⟨h1,h2,h3⟩:=h;exact⟨h1,h2,fun e=>h3 (by rw[<- hT b h1];exact e)⟩
 case lsr b g=>obtain⟨h1,h2,h3⟩:=h;exact⟨h1,h2,fun e=>h3 (by rw[<- hT b h1];exact e)⟩
 case eref b g r z off=>obtain⟨h1,h2,h3⟩:=h;exact⟨h1,h2,fun e=>h3 (by rw[<- hT b h1];exact e)⟩
 all_goals exact h
theorem Inv.canon{H0:ag}{gr:Gh}{w0:World}(h:Inv G base nt L H0 gr w0 s gh w a):Inv G base nt L H0 gr w0 (uL nt s) gh w a:=by
 refine⟨h.W,⟨⟨h.F.defers,h.F.size,fun i hi=>?_⟩,fun i hi=>?_⟩,h.E,h.lo.dK rfl rfl⟩
 ·have h1:=h.F.slot i hi
  show SR gh s.H.length nt w (De nt (BT.of s.T (Bi nt) 0)) s.gen _ i _ (De nt (BT.of s.T (Bi nt) 0) i)
  rw[Az hi]
  exact h1.U9 fun j hj=>Az hj
 ·by_cases aZ:i<nt
  ·have:(uL nt s).T i=s.T i:=Az aZ
   rw[this] at hi
   exact h.F.obj i hi
  ·have:(uL nt s).T i=.undef:=TF (by omega)
   rw[this] at hi
   cases hi
theorem vW{ops:Array Oper}{L:Array Bool} : qw (ops.toList.map lr) L=Region.ready .any ops L:=by
 unfold qw Region.ready
 rw[show (ops.toList.map lr).length=ops.size by simp]
 refine List.filter_congr fun i hi=>?_
 have aZ:i<ops.size:=by simpa using hi
 have e1:(ops.toList.map lr).getD i []=lr ops[i]:=by simp[aim,aZ]
 rw[e1,ahY aZ]
 simp only[ah0,aiC,lr]
 congr 1
 rw[<- Array.all_toList,List.all_map,List.all_filter]
 rfl
theorem uH{cf:cz}(ij:dn P G cf){H0:ag}{gr:Gh}{w0:World}{bR locals muts:List Nat}{ops:Array Oper}(vp:∀ x,x∈locals->x∈L)(uu:∀ x,x∈muts->x∈L)(Q:Exit->Act->World->Prop)(R:AS->Prop)
  (hR:∀ s' a' aD w',R s'->Inv G base nt L H0 gr w0 s' aD w' a'->Q .normal a' w') {is:List az} (hc:fe P bR locals muts nt ops ops.toList=some is) :
  ∀ (n:Nat) (B:Array Bool) (s:AS) (gh:Gh) (w:World) (a:Act),Inv G base nt L H0 gr w0 s gh w a->Px G cf nt is (ops.toList.map lr) n B s R->wpAny P .any ops Q n B a w
 | 0,B,s,gh,w,a,hI,h=>⟨by rw[<- vW];exact h.1,hR s a gh w h.2 hI⟩
 | n+1,B,s,gh,w,a,hI,h=>by
  refine⟨fun e=>hR s a gh w (h.1 (by rw[vW];exact e)) hI,fun i hi=>?_⟩
  obtain⟨io,s1,ri,h1,h2⟩:=h.2 i (by rw[vW];exact hi)
  obtain⟨hlen,B4⟩:=gG hc
  unfold wpOp
  split
  ·rename_i hn
   exfalso
   have h3:=(ahO.1 ri).1
   have h4:ops.toList[i]?=none:=by simpa using hn
   have h5:=List.getElem?_eq_none_iff.1 h4
   omega
  ·rename_i o ho
   obtain⟨io',ac1,bn⟩:=B4 i o (by simpa using ho)
   obtain rfl:io'=io:=aiM (ac1.symm.trans ri)
   have hinv:=iG bn
   rw[lC,ahK] at h1
   obtain⟨⟨z,s2⟩,hz,rfl⟩:=h1
   refine mX ij hI bn vp uu hz _ Q (fun a' aD w' jM=>?_)
   rw[hinv.2.2.1] at h2
   exact uH ij vp uu Q R hR hc n _ _ aD w' a' jM.canon h2
theorem kD{cf:cz}(ij:dn P G cf)(hm:P.follows .mixedOrders=true){H0:ag}{gr:Gh}{w0:World}{bR locals muts:List Nat} :
  ∀ (c:Code) (ic:a7),dT P bR locals muts nt c=some ic->∀ (s:AS) (gh:Gh) (w:World) (a:Act) (Q:Exit->Act->World->Prop) (R:bw->AS->Prop),Inv G base nt (locals++muts) H0 gr w0 s gh w a->WN G cf ic s R ->
   (∀ e s' a' aD w',R e s'->Inv G base nt (locals++muts) H0 gr w0 s' aD w' a'->Q e.G9 a' w')->c.wp P Q a w
 | .skip,ic,hc,s,gh,w,a,Q,R,hI,he,hQ=>by
  simp only[dT,ahM] at hc
  subst hc
  exact wp_skip (hQ .normal s a gh w he hI)
 | .region id ops draw,ic,hc,s,gh,w,a,Q,R,hI,he,hQ=>by
  have Ud:=hc
  simp only[dT,ahL] at hc
  obtain⟨is,Dv,hc⟩:=hc
  cases VQ:cond draw (uW locals ops.toList is) none with
  | some c3 =>
   rw[VQ] at hc
   injection hc with hc
   subst hc
   obtain⟨rfl,mode,pc,es,h1,h2,rfl⟩:=uX VQ
   obtain⟨s2,h3,h4⟩:=tQ _ _ _ (oG h1) he
   exact fR ij hm 0 (.region id ops true) _ Ud s s2 .normal gh w a Q hI (by simp only[gH,h3,ah0]) (fun a' aD w' jM=>hQ .normal s2 a' aD w' h4 jM)
  | none =>
  rw[VQ] at hc
  simp only at hc
  cases hb:(!draw || (!(locals.elem 999998)&&rI (locals++muts) (ops.toList.zip is))) with
  | false =>
   rw[hb,ahW] at hc
   obtain⟨hdr,hc⟩:=ab hc
   injection hc with hc
   subst hc
   subst hdr
   have hl:ops.size=is.length:=by simpa using (gG Dv).1
   simp only[WN,<- hl] at he
   exact wp_region_any hm (uH ij (fun x hx=>ahS.2 (.inl hx)) (fun x hx=>ahS.2 (.inr hx)) Q (R .normal) (fun s' a' aD w' hr jM=>hQ .normal s' a' aD w' hr jM) Dv _ _ _ gh _ a hI.drew.canon he)
  | true =>
  have h0:=hb
  rw[hb,cond_true] at hc
  injection hc with hc
  subst hc
  cases draw with
  | false=>exact wp_region_list (k7 ij (fun x hx=>ahS.2 (.inl hx)) (fun x hx=>ahS.2 (.inr hx)) Q (R .normal) (fun s' a' aD w' hr jM=>hQ .normal s' a' aD w' hr jM) ops.toList is s gh w a hI Dv he)
  | true =>
   obtain⟨s',h1,h2⟩:=he
   exact fR ij hm 0 (.region id ops true) _ Ud s s' .normal gh w a Q hI (by simp only[gH,h1,ah0]) (fun a' aD w' jM=>hQ .normal s' a' aD w' h2 jM)
 | .seq x y,ic,hc,s,gh,w,a,Q,R,hI,he,hQ=>by
  simp only[dT,ahL,ahK] at hc
  obtain⟨ix,hx,iy,hy,rfl⟩:=hc
  refine wp_seq (kD ij hm x ix hx s gh w a _ _ hI he (fun e s' a' aD w' hr jM=>?_))
  cases e with
  | normal=>exact kD ij hm y iy hy s' aD w' a' Q R jM hr hQ
  | exit id=>exact hQ (.exit id) s' a' aD w' hr jM
  | ret=>exact hQ .ret s' a' aD w' hr jM
 | .cond c x y,ic,hc,s,gh,w,a,Q,R,hI,he,hQ=>by
  simp only[dT,ahL,ahK] at hc
  obtain⟨iq,hq,ix,hx,iy,hy,rfl⟩:=hc
  obtain⟨t,ht,h1,h2⟩:=he
  have hv:=(bS hI.W hI.F hq ht rfl).ik
  cases t with
  | true=>exact wp_cond_true hv (kD ij hm x ix hx s gh w a Q R hI (h1 rfl) hQ)
  | false=>exact wp_cond_false hv (kD ij hm y iy hy s gh w a Q R hI (h2 rfl) hQ)
 | .block id c,ic,hc,s,gh,w,a,Q,R,hI,he,hQ=>by
  simp only[dT,ahK] at hc
  obtain⟨ix,hx,rfl⟩:=hc
  refine wp_block (kD ij hm c ix hx s gh w a _ _ hI he (fun e s' a' aD w' hr jM=>?_))
  cases e with
  | normal=>exact hQ .normal s' a' aD w' hr jM
  | exit i =>
   show if i=id then Q .normal a' w' else Q (.exit i) a' w'
   simp only[leave,dV] at hr
   by_cases hi:i=id
   ·rw[if_pos hi];exact hQ .normal s' a' aD w' (by simpa [hi] using hr) jM
   ·rw[if_neg hi];exact hQ (.exit i) s' a' aD w' (by simpa [hi] using hr) jM
  | ret=>exact hQ .ret s' a' aD w' hr jM
 | .loop c,ic,hc,s,gh,w,a,Q,R,hI,he,hQ=>by
  simp only[dT,ahK] at hc
  obtain⟨ix,hx,rfl⟩:=hc
  obtain⟨n,he⟩:=he
  have rounds:∀ (m:Nat) (s:AS) (gh:Gh) (w:World) (a:Act),Inv G base nt (locals++muts) H0 gr w0 s gh w a->Hu (WN G cf ix) m s R->Code.rounds P c Q m a w:=by
   intro m
   induction m with
   | zero=>intro s gh w a _ h;exact h.elim
   | succ m ih =>
    intro s gh w a hI h
    rw[rounds_succ]
    refine kD ij hm c ix hx s gh w a _ _ hI h (fun e s' a' aD w' hr jM=>?_)
    cases e with
    | normal=>exact ih s' aD w' a' jM hr
    | exit id=>exact hQ (.exit id) s' a' aD w' hr jM
    | ret=>exact hQ .ret s' a' aD w' hr jM
  exact wp_loop_rounds n (rounds n s gh w a hI he)
 | .exit id,ic,hc,s,gh,w,a,Q,R,hI,he,hQ=>by
  simp only[dT,ahM] at hc
  subst hc
  exact wp_exit (hQ (.exit id) s a gh w he hI)
 | .ret,ic,hc,s,gh,w,a,Q,R,hI,he,hQ=>by
  simp only[dT,ahM] at hc
  subst hc
  exact wp_ret (hQ .ret s a gh w he hI)
 | .label l,ic,hc,s,gh,w,a,Q,R,hI,he,hQ=>by
  simp only[dT,ahM] at hc
  subst hc
  exact wp_label (hQ .normal s a gh w he hI)
 | .scope c,ic,hc,s,gh,w,a,Q,R,hI,he,hQ=>by
  simp only[dT] at hc
  refine wp_scope_straight (kD ij hm c ic hc s gh w a _ R hI he (fun e s' a' aD w' hr jM=>?_))
  have:=hQ e s' a' aD w' hr jM
  cases e<;>exact this
 | .rangeFunc _ _ _ _,_,hc,_,_,_,_,_,_,_,_,_=>by simp[dT] at hc
 | .goto _,_,hc,_,_,_,_,_,_,_,_,_=>by simp[dT] at hc
 | .refuse _,_,hc,_,_,_,_,_,_,_,_,_=>by simp[dT] at hc
end
end
section
def vB{α:Type}(x:α):List α->List (List α)
 | []=>[[x]]
 | y :: l=>(x :: y :: l) :: (vB x l).map (y :: ·)
def perms{α:Type} : List α->List (List α)
 | []=>[[]]
 | x :: l=>(perms l).flatMap (vB x)
theorem vR{α:Type}(x:α):∀ (a b:List α),a++x :: b∈vB x (a++b)
 | [],b=>by cases b<;>simp[vB]
 | y :: a,b=>by
  simp only[ai',vB,aii,aia]
  exact .inr ⟨_,vR x a b,rfl⟩
theorem yn{α:Type} : ∀ {l m:List α},l.Perm m->m∈perms l
 | [],m,h=>by
  have:m=[]:=List.Perm.eq_nil h.symm
  rw[this];simp[perms]
 | x :: l,m,h=>by
  have hx:x∈m:=h.mem_iff.1 aid
  obtain⟨a,b,rfl⟩:=List.append_of_mem hx
  have h2:l.Perm (a++b):=(h.trans List.perm_middle).cons_inv
  simp only[perms,aiR]
  exact⟨_,yn h2,vR x a b⟩
def collect{α β:Type}(f:α->Option (List β)):List α->Option (List β)
 | []=>some []
 | x :: l=>(f x).bind fun a=>(collect f l).map (a++·)
theorem ji{α β:Type}{f:α->Option (List β)} : ∀ {xs:List α} {l:List β},collect f xs=some l->∀ x∈xs,∃ a,f x=some a/\∀ y∈a,y∈l
 | [],_,_,x,hx=>by cases hx
 | z :: xs,l,h,x,hx=>by
  simp only[collect,ahL,ahK] at h
  obtain⟨a,ha,b,hb,rfl⟩:=h
  rcases aii.1 hx with rfl|hx
  ·exact⟨a,ha,fun y hy=>ajd _ hy⟩
  ·obtain⟨c,hc,hm⟩:=ji hb x hx
   exact⟨c,hc,fun y hy=>ajM _ (hm y hy)⟩
theorem iE{α β:Type}{f:α->Option (List β)} : ∀ {xs:List α} {l:List β},collect f xs=some l->∀ y∈l,∃ x∈xs,∃ a,f x=some a/\y∈a
 | [],_,h,y,hy=>by simp only[collect,ahM] at h;rw[<- h] at hy;cases hy
 | z :: xs,l,h,y,hy=>by
  simp only[collect,ahL,ahK] at h
  obtain⟨a,ha,b,hb,rfl⟩:=h
  rcases ahS.1 hy with hy|hy
  ·exact⟨z,aid,a,ha,hy⟩
  ·obtain⟨x,hx,c,hc,hm⟩:=iE hb y hy
   exact⟨x,ai4 _ hx,c,hc,hm⟩
mutual
def p9:AV->AV->Bool
 | .bool a,y=>match y with|.bool b=>a==b|_=>false
 | .int k a,y=>match y with|.int k' b=>k==k'&&a==b|_=>false
 | .str a,y=>match y with|.str b=>a==b|_=>false
 | .any,y=>match y with|.any=>true|_=>false
 | .cJ,y=>match y with|.cJ=>true|_=>false
 | .cr,y=>match y with|.cr=>true|_=>false
 | .bU,y=>match y with|.bU=>true|_=>false
 | .bt,y=>match y with|.bt=>true|_=>false
 | .ay,y=>match y with|.ay=>true|_=>false
 | .slice e o,y=>match y with|.slice f q=>tV e f&&o==q|_=>false
 | .ref l o,y=>match y with|.ref l' o'=>l==l'&&o==o'|_=>false
 | .sref l o n z,y=>match y with|.sref l' o' n' z'=>l==l'&&o==o'&&n==n'&&z==z'|_=>false
 | .mref l,y=>match y with|.mref l'=>l==l'|_=>false
 | .agg a,y=>match y with|.agg b=>AH a b|_=>false
 | .tuple a,y=>match y with|.tuple b=>AH a b|_=>false
 | .iface t a,y=>match y with|.iface t' b=>t==t'&&p9 a b|_=>false
 | .eptr a,y=>match y with|.eptr b=>AH a b|_=>false
 | .lbox g a,y=>match y with|.lbox g' b=>g==g'&&AH a b|_=>false
 | .lref s g o,y=>match y with|.lref s' g' o'=>s==s'&&g==g'&&o==o'|_=>false
 | .lsl g e,y=>match y with|.lsl g' f=>g==g'&&tV e f|_=>false
 | .lsr s g,y=>match y with|.lsr s' g'=>s==s'&&g==g'|_=>false
 | .eref s g i z o,y=>match y with|.eref s' g' i' z' o'=>s==s'&&g==g'&&i==i'&&z==z'&&o==o'|_=>false
 | .di kz ka va e,y=>match y with|.di kG kF kQ f=>kz==kG&&ka==kF&&va==kQ&&tV e f|_=>false
 | .l9 kz ka va e,y=>match y with|.l9 kG kF kQ f=>kz==kG&&ka==kF&&va==kQ&&tV e f|_=>false
 | .iter g kz ka va c e,y=>match y with|.iter g' kG kF kQ c' f=>g==g'&&kz==kG&&ka==kF&&va==kQ&&AH c c'&&tV e f|_=>false
 | .func f a c,y=>match f,y with|.func n,.func (.func m) b d=>n==m&&AH a b&&AH c d|_,_=>false
def AH:List AV->List AV->Bool
 | [],y=>match y with|[]=>true|_=>false
 | a :: l,y=>match y with|b :: m=>p9 a b&&AH l m|_=>false
def tV:List (List AV)->List (List AV)->Bool
 | [],y=>match y with|[]=>true|_=>false
 | a :: l,y=>match y with|b :: m=>AH a b&&tV l m|_=>false
end
mutual
theorem zw:∀ (a b:AV),p9 a b=true->a=b
 | .bool a,b,h=>by cases b<;>simp_all [p9]
 | .int k a,b,h=>by cases b<;>simp_all [p9]
 | .str a,b,h=>by cases b<;>simp_all [p9]
 | .any,b,h=>by cases b<;>simp_all [p9]
 | .cJ,b,h=>by cases b<;>simp_all [p9]
 | .cr,b,h=>by cases b<;>simp_all [p9]
 | .bU,b,h=>by cases b<;>simp_all [p9]
 | .bt,b,h=>by cases b<;>simp_all [p9]
 | .ay,b,h=>by cases b<;>simp_all [p9]
 | .slice e o,b,h=>by
  cases b<;>simp[p9] at h
  rename_i f q
  rw[mg e f h.1,h.2]
 | .ref l o,b,h=>by cases b<;>simp_all [p9]
 | .sref l o n z,b,h=>by cases b<;>simp_all [p9]
 | .mref l,b,h=>by cases b<;>simp_all [p9]
 | .agg a,b,h=>by
  cases b<;>simp[p9] at h
  rename_i f
  rw[jS a f h]
 | .tuple a,b,h=>by
  cases b<;>simp[p9] at h
  rename_i f
  rw[jS a f h]
 | .iface t a,b,h=>by
  cases b<;>simp[p9] at h
  rename_i t' f
  rw[zw a f h.2,h.1]
 | .eptr a,b,h=>by
  cases b<;>simp[p9] at h
  rename_i f
  rw[jS a f h]
 | .lbox g a,b,h=>by
  cases b<;>simp[p9] at h
  rename_i g' f
  rw[h.1,jS a f h.2]
 | .lref s g o,b,h=>by cases b<;>simp_all [p9]
 | .lsl g e,b,h=>by
  cases b<;>simp[p9] at h
  rename_i g' f
  rw[h.1,mg e f h.2]
 | .lsr s g,b,h=>by cases b<;>simp_all [p9]
 | .eref s g i z o,b,h=>by cases b<;>simp_all [p9]
 | .di kz ka va e,b,h=>by
  cases b<;>simp[p9] at h
  rename_i kG kF kQ f
  rw[h.1.1.1,h.1.1.2,h.1.2,mg e f h.2]
 | .l9 kz ka va e,b,h=>by
  cases b<;>simp[p9] at h
  rename_i kG kF kQ f
  rw[h.1.1.1,h.1.1.2,h.1.2,mg e f h.2]
 | .iter g kz ka va c e,b,h=>by
  cases b<;>simp[p9] at h
  rename_i g' kG kF kQ c' f
  rw[h.1.1.1.1.1,h.1.1.1.1.2,h.1.1.1.2,h.1.1.2,jS c c' h.1.2,mg e f h.2]
 | .func f a c,b,h=>by
  cases f<;>cases b<;>simp[p9] at h
  rename_i n f' b d
  cases f'<;>simp at h
  rename_i m
  rw[h.1.1,jS a b h.1.2,jS c d h.2]
theorem jS:∀ (a b:List AV),AH a b=true->a=b
 | [],b,h=>by cases b<;>simp_all [AH]
 | x :: l,b,h=>by
  cases b with
  | nil=>simp[AH] at h
  | cons y m =>
   simp[AH] at h
   rw[zw x y h.1,jS l m h.2]
theorem mg:∀ (a b:List (List AV)),tV a b=true->a=b
 | [],b,h=>by cases b<;>simp_all [tV]
 | x :: l,b,h=>by
  cases b with
  | nil=>simp[tV] at h
  | cons y m =>
   simp[tV] at h
   rw[jS x y h.1,mg l m h.2]
end
def eqO:dm->dm->Bool
 | .box t a,.box t' b=>t==t'&&AH a b
 | .map kz ka va e,.map kG kF kQ f=>kz==kG&&ka==kF&&va==kQ&&tV e f
 | .di kz ka va e,.di kG kF kQ f=>kz==kG&&ka==kF&&va==kQ&&tV e f
 | .Fq a,.Fq b=>AH a b
 | .dM a,.dM b=>AH a b
 | .dead,.dead=>true
 | _,_=>false
def PO:ag->ag->Bool
 | [],[]=>true
 | a :: l,b :: m=>eqO a b&&PO l m
 | _,_=>false
def eqR(a b:AV × Option fD):Bool :=
 p9 a.1 b.1&&match a.2,b.2 with
  | none,none=>true
  | some c,some d=>PO c.heap d.heap&&c.lo==d.lo
  | _,_=>false
theorem Vl{a b:dm}(h:eqO a b=true):a=b:=by
 cases a<;>cases b<;>simp[eqO] at h
 ·rw[h.1,jS _ _ h.2]
 ·rw[h.1.1.1,h.1.1.2,h.1.2,mg _ _ h.2]
 ·rw[h.1.1.1,h.1.1.2,h.1.2,mg _ _ h.2]
 ·rw[jS _ _ h]
 ·rw[jS _ _ h]
 ·rfl
theorem zu:∀ {a b:ag},PO a b=true->a=b
 | [],[],_=>rfl
 | [],_ :: _,h=>by simp[PO] at h
 | _ :: _,[],h=>by simp[PO] at h
 | x :: l,y :: m,h=>by
  simp only[PO,ahR] at h
  rw[Vl h.1,zu h.2]
theorem Vn{a b:AV × Option fD}(h:eqR a b=true):a=b:=by
 obtain⟨v,c⟩:=a
 obtain⟨w,d⟩:=b
 simp only[eqR,ahR] at h
 obtain⟨h1,h2⟩:=h
 rw[zw v w h1]
 cases c<;>cases d<;>simp at h2
 ·rfl
 ·rename_i c d
  obtain⟨c1,c2⟩:=c
  obtain⟨d1,d2⟩:=d
  simp only at h2
  rw[zu h2.1,h2.2]
structure CS where
 nt:Nat
 pD:BT
 H:ag
 lo:Nat
 gen:Nat
def CS.Dh(c:CS):AS:=⟨De c.nt c.pD,c.H,c.lo,c.gen⟩
def CS.aaS(nt:Nat)(s:AS):CS:=⟨nt,BT.of s.T (Bi nt) 0,s.H,s.lo,s.gen⟩
def Vj:BT->BT->Bool
 | .leaf v,y=>match y with|.leaf u=>p9 v u|_=>false
 | .node l r,y=>match y with|.node l' r'=>Vj l l'&&Vj r r'|_=>false
theorem Ff:∀ {a b:BT},Vj a b=true->a=b
 | .leaf v,.leaf u,h=>by rw[zw v u h]
 | .leaf _,.node _ _,h=>by simp[Vj] at h
 | .node _ _,.leaf _,h=>by simp[Vj] at h
 | .node l r,.node l' r',h=>by
  simp only[Vj,ahR] at h
  rw[Ff h.1,Ff h.2]
def eqC(c d:CS):Bool:=c.nt==d.nt&&c.lo==d.lo&&c.gen==d.gen&&Vj c.pD d.pD&&PO c.H d.H
theorem Vk{c d:CS}(h:eqC c d=true):c=d:=by
 obtain⟨n1,v1,h1,l1,g1⟩:=c
 obtain⟨n2,v2,h2,l2,g2⟩:=d
 simp only[eqC,ahR,aiF] at h
 obtain⟨⟨⟨⟨k0,k1⟩,k2⟩,k3⟩,k4⟩:=h
 rw[k0,k1,k2,Ff k3,zu k4]
def ZA(x y:Array Bool × CS):Bool:=x.1.toList==y.1.toList&&eqC x.2 y.2
theorem Vm{x y:Array Bool × CS}(h:ZA x y=true):x=y:=by
 obtain⟨L,c⟩:=x
 obtain⟨M,d⟩:=y
 simp only[ZA,ahR,aiF] at h
 rw[Array.toList_inj.1 h.1,Vk h.2]
def dedup:List (Array Bool × CS)->List (Array Bool × CS)
 | []=>[]
 | x :: l=>cond (l.any (ZA x)) (dedup l) (x :: dedup l)
theorem pj:∀ {l:List (Array Bool × CS)} {x:Array Bool × CS},x∈l->x∈dedup l
 | y :: l,x,h=>by
  simp only[dedup]
  cases hb:l.any (ZA y) with
  | true =>
   simp only[cond_true]
   rcases aii.1 h with rfl|h
   ·obtain⟨z,hz,he⟩:=List.any_eq_true.1 hb
    rw[Vm he];exact pj hz
   ·exact pj h
  | false =>
   simp only[ahW]
   rcases aii.1 h with rfl|h
   ·exact aid
   ·exact ai4 _ (pj h)
theorem sv:∀ {l:List (Array Bool × CS)} {x:Array Bool × CS},x∈dedup l->x∈l
 | y :: l,x,h=>by
  simp only[dedup] at h
  cases hb:l.any (ZA y) with
  | true=>rw[hb,cond_true] at h;exact ai4 _ (sv h)
  | false =>
   rw[hb,ahW] at h
   rcases aii.1 h with rfl|h
   ·exact aid
   ·exact ai4 _ (sv h)
section
variable (G:Nat->List AV)(cf:cz)(nt:Nat)(ops:List az)(pre:List (List Nat))
def Ax(x:Array Bool × CS):Option (List (Array Bool × CS)) :=
 match qw pre x.1 with
 | []=>none
 | i :: r=>collect (fun i=>(ops[i]?).bind fun o=>(bO G cf false x.2.Dh o).map fun s'=>[(x.1.setIfInBounds i true,CS.aaS nt s')]) (i :: r)
def oS:Nat->List (Array Bool × CS)->Option (List CS)
 | 0,lv=>cond (lv.all fun x=>(qw pre x.1).isEmpty) (some (lv.map (·.2))) none
 | n+1,lv=>(collect (Ax G cf nt ops pre) lv).bind fun l=>oS n (dedup l)
end
theorem CZ{G:Nat->List AV}{cf:cz}{nt:Nat}{ops:List az}{pre:List (List Nat)}{Q:AS->Prop} : ∀ (n:Nat) (lv:List (Array Bool × CS)) (res:List CS),oS G cf nt ops pre n lv=some res->(∀ c∈res,Q c.Dh) ->
  ∀ x∈lv,Px G cf nt ops pre n x.1 x.2.Dh Q
 | 0,lv,res,h,hQ,x,hx=>by
  simp only[oS] at h
  obtain⟨h0,h⟩:=ab h
  injection h with h
  subst h
  have:=ahU.1 h0 x hx
  exact⟨ajW.1 this,hQ _ (aia.2 ⟨x,hx,rfl⟩)⟩
 | n+1,lv,res,h,hQ,x,hx=>by
  simp only[oS,ahL] at h
  obtain⟨l,h1,h2⟩:=h
  obtain⟨a,ha,hm⟩:=ji h1 x hx
  unfold Ax at ha
  split at ha
  ·cases ha
  ·rename_i j r hr
   refine⟨(fun e=>by rw[hr] at e;cases e),fun i hi=>?_⟩
   rw[hr] at hi
   obtain⟨b,hb,hmb⟩:=ji ha i hi
   simp only[ahL,ahK] at hb
   obtain⟨o,ho,s',hs,rfl⟩:=hb
   refine⟨o,s',ho,hs,?_⟩
   exact CZ n _ res h2 hQ _ (pj (hm _ (hmb _ aid)))
section
variable (G:Nat->List AV)(cf:cz)
def O7(s:AS)(t:Nat)(d:Option Nat)(g kz:Nat)(ka va:Bool)(q:List AV)(rest:List (List AV)):AS :=
 (s.br t (.iter g kz ka va q rest)).b9 d (.tuple [.bool true,p8 ka (q.take kz),p8 va (q.drop kz)])
def mq:List az->AS->Option (List AS)
 | [],s=>some [s]
 | o :: r,s=>match mz o with
  | some t=>match s.T t with
   | .iter g kz ka va _ todo=>match todo with
    | []=>mq r (s.b9 o.dst (.tuple [.bool false]))
    | _ :: _=>collect (fun m=>match m with
     | q :: rest=>mq r (O7 s t o.dst g kz ka va q rest)
     | []=>some []) (perms todo)
   | _=>none
  | none=>(bO G cf false s o).bind (mq r)
def pg(F:AS->Option (List (bw × AS))):Nat->AS->Option (List (bw × AS))
 | 0,_=>none
 | n+1,s=>(F s).bind (collect fun x=>match x.1 with
  | .normal=>pg F n x.2
  | _=>some [x])
def jQ(n:Nat):a7->AS->Option (List (bw × AS))
 | .skip,s=>some [(.normal,s)]
 | .region false ops,s=>(mq G cf ops s).map fun l=>l.map fun s'=>(.normal,s')
 | .region true ops,s=>(dU G cf true ops s).map fun s'=>[(.normal,s')]
 | .seq a b,s=>(jQ n a s).bind (collect fun x=>match x.1 with
  | .normal=>jQ n b x.2
  | _=>some [x])
 | .cond c a b,s=>match c.eval G s.T with
  | .bool true=>jQ n a s
  | .bool false=>jQ n b s
  | _=>none
 | .block id a,s=>(jQ n a s).map fun l=>l.map fun x=>match x.1 with
  | .exit i=>(cond (Nat.beq i id) .normal (.exit i),x.2)
  | _=>x
 | .loop a,s=>pg (jQ n a) n s
 | .exit id,s=>some [(.exit id,s)]
 | .ret,s=>some [(.ret,s)]
 | .wU nt ops pre,s=>(oS G cf nt ops pre ops.length [(Array.replicate ops.length false,CS.aaS nt s)]).map fun l=>l.map fun c=>(.normal,c.Dh)
end
section
variable {G:Nat->List AV}{cf:cz}
theorem oZ:∀ (is:List az) (s:AS) (l:List AS) (Q:AS->Prop),mq G cf is s=some l->(∀ x∈l,Q x)->pS G cf is s Q
 | [],s,l,Q,h,hQ=>by
  simp only[mq,ahM] at h
  exact hQ s (by rw[<- h];exact aid)
 | o :: r,s,l,Q,h,hQ=>by
  unfold mq at h
  unfold pS
  cases hn:mz o with
  | none =>
   rw[hn] at h
   simp only[ahL] at h
   obtain⟨s',h1,h2⟩:=h
   exact⟨s',h1,oZ r s' l Q h2 hQ⟩
  | some t =>
   rw[hn] at h
   simp only at h ⊢
   split at h
   ·rename_i g kz ka va cur todo hT
    refine⟨g,kz,ka,va,cur,todo,hT,fun h0=>?_,fun q rest hp=>?_⟩
    ·subst h0
     exact oZ r _ l Q h hQ
    ·cases todo with
     | nil=>exact absurd (List.Perm.nil_eq hp) (by simp)
     | cons z zs =>
      simp only at h
      obtain⟨a,ha,hm⟩:=ji h _ (yn hp)
      exact oZ r _ a Q ha fun x hx=>hQ x (hm x hx)
   ·cases h
theorem vD{F:AS->Option (List (bw × AS))}{W:AS->(bw->AS->Prop)->Prop}(hF:∀ s l Q,F s=some l->(∀ x∈l,Q x.1 x.2)->W s Q) :
  ∀ (n:Nat) (s:AS) (l:List (bw × AS)) (Q:bw->AS->Prop),pg F n s=some l->(∀ x∈l,Q x.1 x.2)->Hu W n s Q
 | 0,_,_,_,h,_=>by cases h
 | n+1,s,l,Q,h,hQ=>by
  simp only[pg,ahL] at h
  obtain⟨l1,h1,h2⟩:=h
  refine hF s l1 _ h1 fun x hx=>?_
  obtain⟨a,ha,hm⟩:=ji h2 x hx
  obtain⟨e,s1⟩:=x
  cases e with
  | normal=>exact vD hF n s1 a Q ha fun y hy=>hQ y (hm y hy)
  | exit i=>injection ha with ha;subst ha;exact hQ _ (hm _ aid)
  | ret=>injection ha with ha;subst ha;exact hQ _ (hm _ aid)
theorem nu(n:Nat):∀ (c:a7) (s:AS) (l:List (bw × AS)) (R:bw->AS->Prop),jQ G cf n c s=some l->(∀ x∈l,R x.1 x.2)->WN G cf c s R
 | .skip,s,l,R,h,hR=>by
  simp only[jQ,ahM] at h
  exact hR (.normal,s) (by rw[<- h];exact aid)
 | .region false ops,s,l,R,h,hR=>by
  simp only[jQ,ahK] at h
  obtain⟨l1,h1,rfl⟩:=h
  exact oZ ops s l1 _ h1 fun x hx=>hR (.normal,x) (aia.2 ⟨x,hx,rfl⟩)
 | .region true ops,s,l,R,h,hR=>by
  simp only[jQ,ahK] at h
  obtain⟨s1,h1,rfl⟩:=h
  exact⟨s1,h1,hR (.normal,s1) aid⟩
 | .seq a b,s,l,R,h,hR=>by
  simp only[jQ,ahL] at h
  obtain⟨l1,h1,h2⟩:=h
  refine nu n a s l1 _ h1 fun x hx=>?_
  obtain⟨d,hd,hm⟩:=ji h2 x hx
  obtain⟨e,s1⟩:=x
  cases e with
  | normal=>exact nu n b s1 d R hd fun y hy=>hR y (hm y hy)
  | exit i=>injection hd with hd;subst hd;exact hR _ (hm _ aid)
  | ret=>injection hd with hd;subst hd;exact hR _ (hm _ aid)
 | .cond c a b,s,l,R,h,hR=>by
  simp only[jQ] at h
  split at h
  ·rename_i ht
   exact⟨true,ht,(fun _=>nu n a s l R h hR),(fun e=>by cases e)⟩
  ·rename_i ht
   exact⟨false,ht,(fun e=>by cases e),(fun _=>nu n b s l R h hR)⟩
  ·cases h
 | .block id a,s,l,R,h,hR=>by
  simp only[jQ,ahK] at h
  obtain⟨l1,h1,rfl⟩:=h
  refine nu n a s l1 _ h1 fun x hx=>?_
  have:=hR _ (aia.2 ⟨x,hx,rfl⟩)
  obtain⟨e,s1⟩:=x
  cases e<;>exact this
 | .loop a,s,l,R,h,hR=>⟨n,vD (fun s l Q h1 h2=>nu n a s l Q h1 h2) n s l R h hR⟩
 | .exit id,s,l,R,h,hR=>by
  simp only[jQ,ahM] at h
  exact hR (.exit id,s) (by rw[<- h];exact aid)
 | .ret,s,l,R,h,hR=>by
  simp only[jQ,ahM] at h
  exact hR (.ret,s) (by rw[<- h];exact aid)
 | .wU nt ops pre,s,l,R,h,hR=>by
  simp only[jQ,ahK] at h
  obtain⟨l1,h1,rfl⟩:=h
  exact CZ ops.length _ l1 h1 (fun c hc=>hR (.normal,c.Dh) (aia.2 ⟨c,hc,rfl⟩)) _ aid
end
section
variable {G:Nat->List AV}{cf:cz}{H:ag}(ij:∀ f args H r c,cf f args H=some (r,c)->j8 H c)
include ij
theorem oY:∀ (is:List az) (s:AS) (l:List AS),mq G cf is s=some l->dG H s->∀ x∈l,dG H x
 | [],s,l,h,hI,x,hx=>by
  simp only[mq,ahM] at h
  rw[<- h] at hx
  rw[ah4.1 hx];exact hI
 | o :: r,s,l,h,hI,x,hx=>by
  unfold mq at h
  cases hn:mz o with
  | none =>
   rw[hn] at h
   simp only[ahL] at h
   obtain⟨s',h1,h2⟩:=h
   have h3:dU G cf false [o] s=some s':=by simp only[dU,h1,ahV]
   exact oY r s' l h2 (oB ij [o] s s' h3 hI) x hx
  | some t =>
   rw[hn] at h
   simp only at h
   split at h
   ·rename_i g kz ka va cur todo hT
    cases todo with
    | nil=>exact oY r _ l h (hI.dK (gN _ _ _).1 (gN _ _ _).2.2) x hx
    | cons z zs =>
     simp only at h
     obtain⟨m,_,a,ha,Y5⟩:=iE h x hx
     cases m with
     | nil=>injection ha with ha;subst ha;cases Y5
     | cons q rest =>
      refine oY r _ a ha ?_ x Y5
      unfold O7
      exact (hI.dK (s':=s.br t (.iter g kz ka va q rest)) rfl rfl).dK (gN _ _ _).1 (gN _ _ _).2.2
   ·cases h
omit ij in
theorem vC{F:AS->Option (List (bw × AS))}(hF:∀ s l,F s=some l->dG H s->∀ x∈l,dG H x.2):∀ (n:Nat) (s:AS) (l:List (bw × AS)),pg F n s=some l->dG H s->∀ x∈l,dG H x.2
 | 0,_,_,h,_,_,_=>by cases h
 | n+1,s,l,h,hI,x,hx=>by
  simp only[pg,ahL] at h
  obtain⟨l1,h1,h2⟩:=h
  obtain⟨y,hy,a,ha,Y5⟩:=iE h2 x hx
  have Wp:=hF s l1 h1 hI y hy
  obtain⟨e,s1⟩:=y
  cases e with
  | normal=>exact vC hF n s1 a ha Wp x Y5
  | exit i=>injection ha with ha;subst ha;rw[ah4.1 Y5];exact Wp
  | ret=>injection ha with ha;subst ha;rw[ah4.1 Y5];exact Wp
theorem yD{nt:Nat}{ops:List az}{pre:List (List Nat)} : ∀ (n:Nat) (lv:List (Array Bool × CS)) (res:List CS),oS G cf nt ops pre n lv=some res->(∀ x∈lv,dG H x.2.Dh)->∀ c∈res,dG H c.Dh
 | 0,lv,res,h,hI,c,hc=>by
  simp only[oS] at h
  obtain⟨_,h⟩:=ab h
  injection h with h
  subst h
  obtain⟨x,hx,rfl⟩:=aia.1 hc
  exact hI x hx
 | n+1,lv,res,h,hI,c,hc=>by
  simp only[oS,ahL] at h
  obtain⟨l,h1,h2⟩:=h
  refine yD n _ res h2 (fun y hy=>?_) c hc
  obtain⟨x,hx,a,ha,hya⟩:=iE h1 y (sv hy)
  unfold Ax at ha
  split at ha
  ·cases ha
  ·obtain⟨i,_,b,hb,hyb⟩:=iE ha y hya
   simp only[ahL,ahK] at hb
   obtain⟨o,_,s',hs,rfl⟩:=hb
   rw[ah4.1 hyb]
   have h3:dU G cf false [o] x.2.Dh=some s':=by simp only[dU,hs,ahV]
   exact (oB ij [o] _ s' h3 (hI x hx)).dK rfl rfl
theorem nr(n:Nat):∀ (c:a7) (s:AS) (l:List (bw × AS)),jQ G cf n c s=some l->dG H s->∀ x∈l,dG H x.2
 | .skip,s,l,h,hI,x,hx=>by
  simp only[jQ,ahM] at h
  rw[<- h] at hx;rw[ah4.1 hx];exact hI
 | .region false ops,s,l,h,hI,x,hx=>by
  simp only[jQ,ahK] at h
  obtain⟨l1,h1,rfl⟩:=h
  obtain⟨y,hy,rfl⟩:=aia.1 hx
  exact oY ij ops s l1 h1 hI y hy
 | .region true ops,s,l,h,hI,x,hx=>by
  simp only[jQ,ahK] at h
  obtain⟨s1,h1,rfl⟩:=h
  rw[ah4.1 hx];exact oB ij ops s s1 h1 hI
 | .seq a b,s,l,h,hI,x,hx=>by
  simp only[jQ,ahL] at h
  obtain⟨l1,h1,h2⟩:=h
  obtain⟨y,hy,d,hd,hxd⟩:=iE h2 x hx
  have Wp:=nr n a s l1 h1 hI y hy
  obtain⟨e,s1⟩:=y
  cases e with
  | normal=>exact nr n b s1 d hd Wp x hxd
  | exit i=>injection hd with hd;subst hd;rw[ah4.1 hxd];exact Wp
  | ret=>injection hd with hd;subst hd;rw[ah4.1 hxd];exact Wp
 | .cond c a b,s,l,h,hI,x,hx=>by
  simp only[jQ] at h
  split at h
  ·exact nr n a s l h hI x hx
  ·exact nr n b s l h hI x hx
  ·cases h
 | .block id a,s,l,h,hI,x,hx=>by
  simp only[jQ,ahK] at h
  obtain⟨l1,h1,rfl⟩:=h
  obtain⟨y,hy,rfl⟩:=aia.1 hx
  have:=nr n a s l1 h1 hI y hy
  obtain⟨e,s1⟩:=y
  cases e<;>exact this
 | .loop a,s,l,h,hI,x,hx=>vC (fun s l h1 h2=>nr n a s l h1 h2) n s l h hI x hx
 | .exit id,s,l,h,hI,x,hx=>by
  simp only[jQ,ahM] at h
  rw[<- h] at hx;rw[ah4.1 hx];exact hI
 | .ret,s,l,h,hI,x,hx=>by
  simp only[jQ,ahM] at h
  rw[<- h] at hx;rw[ah4.1 hx];exact hI
 | .wU nt ops pre,s,l,h,hI,x,hx=>by
  simp only[jQ,ahK] at h
  obtain⟨l1,h1,rfl⟩:=h
  obtain⟨c,hc,rfl⟩:=aia.1 hx
  refine yD ij ops.length _ l1 h1 (fun y hy=>?_) c hc
  rw[ah4.1 hy]
  exact hI.dK rfl rfl
end
def HB(base:Nat)(fn:au)(x:bw × AS):Option (AV × Option fD) :=
 match x.1 with
 | .exit _=>none
 | _=>finish base fn x.2
def oneOf(base:Nat)(fn:au):List (bw × AS)->Option (AV × Option fD)
 | []=>none
 | x :: l=>(HB base fn x).bind fun r=>cond (l.all fun y=>match HB base fn y with
  | some q=>eqR q r
  | none=>false) (some r) none
theorem Jr{base:Nat}{fn:au}{l:List (bw × AS)}{r:AV × Option fD}(h:oneOf base fn l=some r):∀ x∈l,HB base fn x=some r:=by
 cases l with
 | nil=>cases h
 | cons y l =>
  simp only[oneOf,ahL] at h
  obtain⟨q,hq,h⟩:=h
  obtain⟨h0,h⟩:=ab h
  injection h with h
  subst h
  intro x hx
  rcases aii.1 hx with rfl|hx
  ·exact hq
  ·have:=ahU.1 h0 x hx
   split at this
   ·rename_i z hz
    rw[hz,Vn this]
   ·cases this
def runN(G:Nat->List AV)(cf:cz)(n:Nat)(fn:au)(args:List AV)(H:ag):Option (AV × Option fD) :=
 cond (Nat.beq args.length fn.np) ((jQ G cf n fn.body { T:=gl args,H,lo:=H.length,gen:=0 }).bind (oneOf H.length fn)) none
def BA(A:AP):Nat->cz
 | 0=>fun _ _ _=>none
 | n+1=>fun f args H=>match A.ov f with
  | some g=>cond (args.all rG) (g args H) none
  | none=>match A.fns f with
   | none=>none
   | some fn=>runN A.aP (BA A n) n fn args H
section
variable {P:Program}{G:Nat->List AV}{H:ag}
theorem GJ{cf:cz}(ij:dn P G cf)(hm:P.follows .mixedOrders=true){f:FuncId}{fn:Func}(FM:P.funcs[f]?=some fn){bR locals muts:List Nat}{pB:au}(hc:pG P bR locals muts fn=some pB)
  {n:Nat} {args:List AV} {r:AV} {c:Option fD} (he:runN G cf n pB args H=some (r,c)) :
  (fn.body.isSome=true/\fn.name≠ "runtime.NumGoroutine")/\j8 H c /\
  ∀ (base:Nat) (gh:Gh) (w:World) (vs:Array Value),aF G base H gh w->clean gh->vs.size=args.length->(∀ (j:Nat) (v:Value) (x:AV),vs[j]?=some v->args[j]?=some x->CR gh H.length w (.par j) v x) ->
   Calls P f vs w fun e w'=>∃ v aD,e=.returned v/\j9 G base H gh w r c v aD w':=by
 simp only[pG,ahL] at hc
 obtain⟨code,tw,b,hb,rs,B8,hc⟩:=hc
 obtain⟨h0,hc⟩:=ab hc
 injection hc with hc
 subst hc
 simp only[ahR,aiq,bne_iff_ne,ne_eq] at h0
 simp only[runN] at he
 obtain⟨h1,he⟩:=ab he
 have VH:args.length=fn.params.size+fn.nfree:=by simpa [dV] using h1
 simp only[ahL] at he
 obtain⟨l,bb,he⟩:=he
 have fh:=Jr he
 have pa:j8 H c:=by
  have wQ:=nr (H:=H) (fun f args H r c h=>(ij f args H r c h).2.1) n b _ l bb ⟨ahQ _,ahQ _,fun _ _=>rfl⟩
  cases l with
  | nil=>cases he
  | cons x l =>
   have h2:=fh x aid
   have h3:=wQ x aid
   obtain⟨ex,s'⟩:=x
   cases ex with
   | normal=>exact lE h3 h2
   | exit id=>cases h2
   | ret=>exact lE h3 h2
 refine⟨⟨by rw[tw];rfl,h0.2⟩,pa,fun base gh w vs hW jb tD bX=>?_⟩
 refine calls_of_wp FM tw ?_
 have fA:vs.size<=fn.ntmps:=by omega
 have hI:=B' (locals:=locals) (muts:=muts) hW tD fA bX
 refine kD ij hm code b hb _ gh.taken w _ _ _ hI (nu n b _ l (fun e s=>HB H.length { bR,locals,muts,nt:=fn.ntmps,np:=fn.params.size+fn.nfree,results:=rs,body:=b } (e,s)=some (r,c)) bb (fun x hx=>fh x hx)) (fun e s' a' aD w' hr jM=>?_)
 cases e with
 | exit i=>cases hr
 | normal =>
  obtain⟨_,v,Lb,hv,hR⟩:=sR (P:=P) hW jb jM B8 hr
  exact⟨jM.F.defers,v,hv,v,Lb,rfl,hR⟩
 | ret =>
  obtain⟨_,v,Lb,hv,hR⟩:=sR (P:=P) hW jb jM B8 hr
  exact⟨jM.F.defers,v,hv,v,Lb,rfl,hR⟩
theorem xP{A:AP}(h:rY P A):∀ n,dn P A.aP (BA A n)
 | 0=>fun f args H r c he=>by cases he
 | n+1=>fun f args H r c he=>by
  simp only[BA] at he
  split at he
  ·rename_i g hg
   obtain⟨h0,he⟩:=ab he
   obtain⟨k1,k2,k3⟩:=h.ov f g hg args H r c he
   refine⟨k1,k2,fun base gh w vs hW jb tD bX=>k3 base gh w vs hW jb tD (fun j v x hv hx=>?_)⟩
   rcases bX j v x hv hx with h|⟨e,rfl,_⟩
   ·exact h
   ·have:=ahU.1 h0 _ (ahZ hx)
    simp[rG] at this
  ·split at he
   ·cases he
   ·rename_i pB hf
    obtain⟨fn,bR,locals,muts,FM,hc⟩:=h.fns f pB hf
    obtain⟨⟨h1,h2⟩,h3,h4⟩:=GJ (xP h n) h.mixed FM hc he
    exact⟨⟨fn,FM,h1,h2⟩,h3,h4⟩
theorem Vo{A:AP}(h:rY P A)(n:Nat)(f:FuncId):jy P A.aP f (BA A n f):=by
 intro args H r c he
 obtain⟨k1,k2,k3⟩:=xP h n f args H r c he
 exact⟨k1,k2,fun base gh w vs hW jb tD bX=>k3 base gh w vs hW jb tD fun j v x hv hx=>.inl (bX j v x hv hx)⟩
end
end
structure rX where
 f:FuncId
 args:List AV
 heap:ag
 out:AV × Option fD
def Hc(f:FuncId)(args:List AV)(H:ag):List rX->Option (AV × Option fD)
 | []=>none
 | e :: r=>cond (Nat.beq e.f f&&AH e.args args&&PO e.heap H) (some e.out) (Hc f args H r)
def N4(tb:List rX)(cf:cz):cz:=fun f args H=>match Hc f args H tb with
 | some r=>some r
 | none=>cf f args H
theorem BM{cf:cz}{f:FuncId}{args:List AV}{H:ag}{r:AV × Option fD} : ∀ {tb:List rX},(∀ e∈tb,cf e.f e.args e.heap=some e.out)->Hc f args H tb=some r->cf f args H=some r
 | [],_,h=>by cases h
 | e :: tb,pb,h=>by
  simp only[Hc] at h
  cases hb:(Nat.beq e.f f&&AH e.args args&&PO e.heap H) with
  | true =>
   rw[hb] at h
   injection h with h
   simp only[ahR] at hb
   obtain⟨⟨h1,h2⟩,h3⟩:=hb
   have e1:e.f=f:=aiK h1
   have:=pb e (aid ..)
   rw[e1,jS _ _ h2,zu h3,h] at this
   exact this
  | false =>
   rw[hb] at h
   exact BM (fun e he=>pb e (ai4 _ he)) h
theorem Sb{cf:cz}{tb:List rX}(pb:∀ e∈tb,cf e.f e.args e.heap=some e.out):N4 tb cf=cf:=by
 funext f args H
 unfold N4
 split
 ·rename_i r h;exact (BM pb h).symm
 ·rfl
theorem KQ{A:AP}{n:Nat}{f:FuncId}{fn:au}{args:List AV}{H:ag}{tb:List rX}(ho:A.ov f=none)(hf:A.fns f=some fn)(pb:∀ e∈tb,BA A n e.f e.args e.heap=some e.out) :
  BA A (n+1) f args H=runN A.aP (N4 tb (BA A n)) n fn args H:=by
 rw[Sb pb]
 simp only[BA,ho,hf]
end Go.Abs
