/-
  A part of the proof of PrintNames: AbsLibS, AbsLib2S, AbsLib3S, AbsLib4S, AbsLib5S, AbsMono, AbsWp, AbsNon, AbsAll, AbsMemo.
-/
import Derived.Shelf.Strconv.AtoiAll
import Derived.Shelf.Strconv.Itoa3
import Derived.Shelf.Small.Strs
import Derived.Shelf.Lay
import Derived.Ground.NamesProg
import Derived.Shelf.Strings.Builder1
import Derived.Test.YtocbgffdpfiidaaGreatDoorP07
set_option linter.unusedSimpArgs false
set_option linter.unusedVariables false
set_option linter.defProp false
set_option maxHeartbeats 1000000
set_option maxRecDepth 100000
namespace Go.Proofs.YtocbgffdpfiidaaGreatDoor
open Go Go.Abs Go.Proofs Go.Shelf RowKit
section
theorem Mb(s:ByteArray)(c:Int)(w:World):Calls Tryz.prog 66 #[.string s,.int .u8 c] w fun e w'=>e=.returned (.int .i64 (Lib.indexByte s.data.toList c.toNat.toUInt8))/\w'=w:=Any.strings_IndexByte Oh s c w
theorem Jp(s:ByteArray)(c:Int)(w:World):Calls Tryz.prog 97 #[.string s,.int .u8 c] w fun e w'=>e=.returned (.int .i64 (Lib.indexByte s.data.toList c.toNat.toUInt8))/\w'=w:=Any.stringslite_IndexByte Ju s c w
theorem Sv(n:Int)(h0:-9223372036854775808<=n)(h1:n<=9223372036854775807)(w:World)(aep:Lib.TabIs Tryz.prog w "internal/strconv.uint64pow10" .u64 Lib.pow10Tab) :
  Calls Tryz.prog 81 #[.int .i64 n] w fun e w'=>e=.returned (.string ⟨(Lib.itoa n).toArray⟩)/\∃ k os,w'=Sort.grow (w.drewN k) os:=Any.strconv_Itoa SC n h0 h1 w aep
theorem P7(s:ByteArray)(WD:s.size<=9223372036854775806)(v:Int)(h:Lib.atoiAll s.data.toList=.ok v)(w:World) :
  Calls Tryz.prog 122 #[.string s] w fun e w'=>e=.returned (.tuple #[.int .i64 v,.nilIface])/\(w'=w\/∃ t,w'=Lib.bytesWorld w 5 t):=Any.strconv_Atoi_ok Ai s WD v h w
theorem KJ(s:ByteArray)(WC:s.size<=281474976710656)(h1:∀ v,Lib.atoiAll s.data.toList≠.ok v)(h2:Lib.atoiAll s.data.toList≠.range)(ev:Value)(w:World)(hv:w.cell? ⟨7,0,none⟩=some ev)(bc:ev=.nilIface\/∃ te pe,ev=.iface te pe) :
  Calls Tryz.prog 122 #[.string s] w fun e w'=>∃ N,e=.returned (.tuple #[.int .i64 (0),.iface 190 (.pointer (some ⟨N,0,none⟩))])/\Below w.heap.size w w' :=
 (Any.strconv_Atoi_syntax Ai s WC (by
  generalize Lib.atoiAll s.data.toList=x at h1 h2
  cases x<;>first|rfl|exact absurd rfl (h1 _)|exact absurd rfl h2) ev w hv bc).mono fun e w' ⟨N,h1,_,_,h4⟩=>⟨N,h1,h4⟩
theorem D6(s:ByteArray)(WC:s.size<=281474976710656)(h:Lib.atoiAll s.data.toList=.range)(ev:Value)(w:World)(hv:w.cell? ⟨8,0,none⟩=some ev)(bc:ev=.nilIface\/∃ te pe,ev=.iface te pe) :
  Calls Tryz.prog 122 #[.string s] w fun e w'=>∃ N,e=.returned (.tuple #[.int .i64 (Lib.atoiSat s.data.toList),.iface 190 (.pointer (some ⟨N,0,none⟩))])/\Below w.heap.size w w' :=
 (Any.strconv_Atoi_range Ai s WC h ev w hv bc).mono fun e w' ⟨N,h1,_,_,h4⟩=>⟨N,h1,h4⟩
section
variable {G:Nat->List AV}{base:Nat}{gh:Gh}{w w' : World}{H:ag}
theorem wO(hW:aG G base H gh w)(hb:Below w.heap.size w w')(n:Nat):Step (fun _=>False) n gh w gh w':=by
 refine⟨fun _ _ h=>h,fun b o h=>cell_of_heap (hb.block b (hW.l7 b o h)),hb.size,hb.os,hb.tape,hb.output,fun b a7 _=>⟨.inl (hb.block b a7),rfl,fun _ h=>h⟩,fun b fF=>hW.bw b fF,fun _ _=>rfl,fun b ty m hm=>?_,fun b E ck hs h0=>(hb.block b (hW.l7 b 0 hs)).trans h0⟩
 obtain⟨C,fr,h1,h2⟩:=hm
 exact⟨C,fr,by rw[hb.block b (aiN.1 h1).1];exact h1,h2⟩
theorem jx(hW:aG G base H gh w)(hb:Below w.heap.size w w'){v:Value}{r:AV}(hv:VR gh H.length w' v r):kg G base H gh w r none v gh w' :=
 ⟨aiK _,hW.step (wO hW hb H.length) (fun l=>⟨id,fun _=>id⟩) (fun b o h=>ajK (hW.l7 b o h) hb.size) (fun b h=>⟨(hW.mG b h).1,ajK (hW.mG b h).2 hb.size⟩) (fun _ _ _ h=>.inl h),
  (wO hW hb H.length).mono (fun _ h=>h.elim),fun _ h=>h,.inl hv⟩
theorem mP:ke H none:=⟨aiK _,fun c h=>by cases h⟩
theorem Bj{vs:Array Value}{x:AV}(hs:vs.size=[x].length)(h:∀ (j:Nat) (v:Value) (y:AV),vs[j]?=some v->[x][j]?=some y->VR gh H.length w v y):∃ v,vs=#[v]/\VR gh H.length w v x:=by
 obtain⟨l⟩:=vs
 match l,hs with
 | [v],_=>exact⟨v,rfl,h 0 v x rfl rfl⟩
theorem UA{vs:Array Value}{x y:AV}(hs:vs.size=[x,y].length)(h:∀ (j:Nat) (v:Value) (z:AV),vs[j]?=some v->[x,y][j]?=some z->VR gh H.length w v z):∃ u v,vs=#[u,v]/\VR gh H.length w u x/\VR gh H.length w v y:=by
 obtain⟨l⟩:=vs
 match l,hs with
 | [u,v],_=>exact⟨u,v,rfl,h 0 u x rfl rfl,h 1 v y rfl rfl⟩
end
theorem qd:∀ (f n:Nat) (acc:List UInt8),n<f->dj f n acc=Lib.decDigits n++acc
 | 0,n,acc,h=>absurd h (akY _)
 | f+1,n,acc,h=>by
  unfold dj
  rw[Lib.decDigits]
  by_cases hn:n<10
  ·rw[show Nat.blt n 10=true by simpa [ajb] using hn,dif_pos hn]
   rfl
  ·rw[show Nat.blt n 10=false by simpa [<- akN,ajb] using hn,dif_neg hn,aiQ,qd f (n / 10) _ (by omega)]
   simp
theorem N'(n:Int):N9 n=Lib.itoa n:=by
 unfold N9 Lib.itoa
 cases n with
 | ofNat k =>
  simp only
  rw[qd (k+1) k [] (by omega),if_neg (by simp)]
  simp
 | negSucc k =>
  simp only
  rw[qd (k+2) (k+1) [] (by omega),if_pos (Int.negSucc_lt_zero k)]
  simp
theorem sR(c:Int)(h0:0<=c)(h1:c<256):∀ (l:List UInt8) (k:Nat),gQ c k l=if Lib.indexByte l c.toNat.toUInt8=-1 then -1 else Lib.indexByte l c.toNat.toUInt8+k
 | [],k=>by simp[gQ,Lib.indexByte]
 | b :: r,k=>by
  have hc:(c.toNat.toUInt8).toNat=c.toNat:=by simp;omega
  have hb:(b==c.toNat.toUInt8)=decide ((b.toNat:Int)=c):=by
   by_cases h:(b.toNat:Int)=c
   ·have:b=c.toNat.toUInt8:=UInt8.toNat_inj.1 (by rw[hc];omega)
    rw[decide_eq_true h];simpa using this
   ·have:b≠c.toNat.toUInt8:=fun e=>h (by rw[e,hc];omega)
    rw[ajO h];simpa using this
  have hge:∀ l:List UInt8, -1<=Lib.indexByte l c.toNat.toUInt8:=by
   intro l
   induction l with
   | nil=>simp[Lib.indexByte]
   | cons x l ih =>
    simp only[Lib.indexByte]
    split
    ·omega
    ·split
     ·omega
     ·rename_i h;simp at h;omega
  unfold gQ Lib.indexByte
  rw[hb]
  by_cases h:(b.toNat:Int)=c
  ·simp[h]
  ·have:=hge r
   simp only[h,ajv,aiQ,akU,ajM]
   rw[sR c h0 h1 r (k+1)]
   by_cases hr:Lib.indexByte r c.toNat.toUInt8=-1
   ·simp[hr]
   ·simp only[ajq,hr,akU]
    rw[if_neg (by omega)]
    push_cast
    omega
theorem I1(f:FuncId)(fn:Func)(h:Tryz.prog.funcs[f]?=some fn)(hb:fn.body.isSome=true)(hn:fn.name≠ "runtime.NumGoroutine"):∃ fn,Tryz.prog.funcs[f]?=some fn/\fn.body.isSome=true/\fn.name≠ "runtime.NumGoroutine":=⟨fn,h,hb,hn⟩
theorem tQ{G:Nat->List AV} : iH Tryz.prog G 66 fL:=by
 intro args H r c he
 refine⟨I1 66 _ Tryz.func66 (by kernel_rfl) (by decide),?_⟩
 unfold fL at he
 split at he
 ·rename_i l c'
  obtain⟨h0,he⟩:=ab he
  simp only[aiL,ai2] at h0
  simp only[aiG,aiH] at he
  obtain⟨rfl,rfl⟩:=he
  refine⟨mP,fun base gh w vs hW _ hs bU=>?_⟩
  obtain⟨u,v,rfl,hu,hv⟩:=UA hs bU
  obtain⟨s,rfl,hl⟩:=hu.gW
  rw[hv.gU]
  refine (Mb s c' w).mono ?_
  rintro e w' ⟨rfl,rfl⟩
  refine⟨_,gh,rfl,jx hW (Below.refl _ _) ?_⟩
  rw[sR c' h0.1 h0.2 l 0,hl]
  have:(if Lib.indexByte l c'.toNat.toUInt8=-1 then (-1:Int) else Lib.indexByte l c'.toNat.toUInt8+(0:Nat))=Lib.indexByte l c'.toNat.toUInt8:=by split<;>simp_all
  rw[this]
  exact .plain _ _ (.int _ _)
 ·cases he
theorem rE{G:Nat->List AV} : iH Tryz.prog G 97 fL:=by
 intro args H r c he
 refine⟨I1 97 _ Tryz.func97 (by kernel_rfl) (by decide),?_⟩
 unfold fL at he
 split at he
 ·rename_i l c'
  obtain⟨h0,he⟩:=ab he
  simp only[aiL,ai2] at h0
  simp only[aiG,aiH] at he
  obtain⟨rfl,rfl⟩:=he
  refine⟨mP,fun base gh w vs hW _ hs bU=>?_⟩
  obtain⟨u,v,rfl,hu,hv⟩:=UA hs bU
  obtain⟨s,rfl,hl⟩:=hu.gW
  rw[hv.gU]
  refine (Jp s c' w).mono ?_
  rintro e w' ⟨rfl,rfl⟩
  refine⟨_,gh,rfl,jx hW (Below.refl _ _) ?_⟩
  rw[sR c' h0.1 h0.2 l 0,hl]
  have:(if Lib.indexByte l c'.toNat.toUInt8=-1 then (-1:Int) else Lib.indexByte l c'.toNat.toUInt8+(0:Nat))=Lib.indexByte l c'.toNat.toUInt8:=by split<;>simp_all
  rw[this]
  exact .plain _ _ (.int _ _)
 ·cases he
theorem D9(w:World)(k:Nat)(os:Array Obj):Below w.heap.size w (Sort.grow (w.drewN k) os):=by
 refine⟨rfl,rfl,rfl,by simp[Sort.grow,World.drewN],fun i hi=>?_⟩
 show (w.heap++os)[i]?=_
 rw[akV hi]
theorem Y8{G:Nat->List AV}{base:Nat}{gh:Gh}{w:World}{H:ag}(hW:aG G base H gh w){g:Nat}{name:String}(hg:Tryz.prog.globalNamed name=some g){k:IntKind}{zs:List Int}(hG:G g=zs.map (.int k))(cU:zs≠[]) :
  Lib.TabIs Tryz.prog w name k zs:=by
 obtain⟨ty,C,fr,h1,h2⟩:=hW.uB g (by rw[hG];simpa using cU)
 have hC:C=(zs.map fun z=>Value.int k z).toArray:=by
  apply Array.ext_getElem?
  intro j
  rw[hG,ai9] at h2
  by_cases hj:j<zs.length
  ·have hx:(G g)[j]?=some (.int k zs[j]):=by rw[hG];simp[hj]
   obtain⟨v,hv,hp,_⟩:=hW.aP g j _ hx
   rw[cell_of_row w g j C ty fr h1] at hv
   cases hp
   rw[hv]
   simp[hj]
  ·rw[aj0 (by omega)]
   simp[ajk (show zs.length<=j by omega)]
 unfold Lib.TabIs World.var?
 rw[hg]
 simp only[aiP,h1,hC]
theorem vP:iH Tryz.prog H7 81 As:=by
 intro args H r c he
 refine⟨I1 81 _ Tryz.func81 (by kernel_rfl) (by decide),?_⟩
 unfold As at he
 split at he
 ·rename_i n
  obtain⟨h0,he⟩:=ab he
  simp only[aiL,ai2] at h0
  simp only[aiG,aiH] at he
  obtain⟨rfl,rfl⟩:=he
  refine⟨mP,fun base gh w vs hW _ hs bU=>?_⟩
  obtain⟨u,rfl,hu⟩:=Bj hs bU
  rw[hu.gU]
  refine (Sv n h0.1 h0.2 w (Y8 hW (by kernel_rfl) (g:=6) rfl (by simp[Lib.pow10Tab]))).mono ?_
  rintro e w' ⟨rfl,k,os,rfl⟩
  exact⟨_,gh,rfl,jx hW (D9 w k os) (.plain _ _ (.str _ _ (by rw[N'])))⟩
 ·cases he
theorem BU{base:Nat}{gh:Gh}{w:World}{H:ag}(hW:aG H7 base H gh w){g:Nat}(hG:H7 g=[.iface y6 .any]):∃ ev,w.cell? ⟨g,0,none⟩=some ev/\(ev=.nilIface\/∃ te pe,ev=.iface te pe):=by
 obtain⟨v,hv,hp,_⟩:=hW.aP g 0 (.iface y6 .any) (by rw[hG];rfl)
 cases hp with
 | iface _ u _ _=>exact⟨_,hv,.inr ⟨_,_,rfl⟩⟩
theorem G9{gh:Gh}{n:Nat}{w:World}{u v:Value}{x y:AV}(h1:VR gh n w u x)(h2:VR gh n w v y):VR gh n w (.tuple #[u,v]) (.tuple [x,y]):=by
 refine .tuple _ _ rfl (fun j a b ha hb=>?_)
 match j with
 | 0=>simp at ha hb;subst ha hb;exact h1
 | 1=>simp at ha hb;subst ha hb;exact h2
 | j+2=>simp at ha
theorem uS:iH Tryz.prog H7 122 Ar:=by
 intro args H r c he
 refine⟨I1 122 _ Tryz.func122 (by kernel_rfl) (by decide),?_⟩
 unfold Ar at he
 split at he
 ·rename_i l
  obtain⟨h0,he⟩:=ab he
  have hlen:l.length<=281474976710656:=by simpa [ajg] using h0
  have hc:c=none:=by split at he<;>(simp only[aiG,aiH] at he;exact he.2.symm)
  subst hc
  refine⟨mP,fun base gh w vs hW _ hs bU=>?_⟩
  obtain⟨u,rfl,hu⟩:=Bj hs bU
  obtain⟨s,rfl,hl⟩:=hu.gW
  have lO:s.size<=281474976710656:=by
   have:s.size=s.data.toList.length:=by simp
   rw[this,hl];exact hlen
  split at he
  ·rename_i v kV
   simp only[aiG,aiH,aj4] at he
   subst he
   refine (P7 s (by omega) v (by rw[hl];exact kV) w).mono ?_
   rintro e w' ⟨rfl,hw⟩
   refine⟨_,gh,rfl,jx hW ?_ (G9 (.plain _ _ (.int _ _)) (.plain _ _ .bt))⟩
   rcases hw with rfl|⟨t,rfl⟩
   ·exact Below.refl _ _
   ·exact Lib.bytesWorld_below _ _ _
  ·rename_i kV
   simp only[aiG,aiH,aj4] at he
   subst he
   obtain⟨ev,h1,h2⟩:=BU hW (g:=8) rfl
   refine (D6 s lO (by rw[hl];exact kV) ev w h1 h2).mono ?_
   rintro e w' ⟨N,rfl,hb⟩
   rw[hl]
   exact⟨_,gh,rfl,jx hW hb (G9 (.plain _ _ (.int _ _)) (.iface _ _ _ (.plain _ _ (.any _ rfl))))⟩
  ·rename_i j8 hnr
   simp only[aiG,aiH,aj4] at he
   subst he
   obtain⟨ev,h1,h2⟩:=BU hW (g:=7) rfl
   refine (KJ s lO (by rw[hl];exact fun v e=>j8 v e) (by rw[hl];exact fun e=>hnr e) ev w h1 h2).mono ?_
   rintro e w' ⟨N,rfl,hb⟩
   exact⟨_,gh,rfl,jx hW hb (G9 (.plain _ _ (.int _ _)) (.iface _ _ _ (.plain _ _ (.any _ rfl))))⟩
 ·cases he
end
theorem Vk:(Tryz.prog.info? 92).map (·.size)=some 2:=by kernel_rfl
theorem abv:liesAt Tryz.prog Tryz.prog.depth 92 (2 / Tryz.prog.cellsOf 92) 0 92 1=true:=by kernel_rfl
theorem IE(b:Nat)(w:World)(h0:w.cell? ⟨b,0,none⟩=some (.pointer (some ⟨b,0,none⟩))) :
  Calls Tryz.prog 68 #[.pointer (some ⟨b,0,none⟩)] w fun e w'=>e=.returned (.tuple #[])/\w'=w:=by
 obtain⟨j,hj,_⟩:=aiE.1 Vk
 go_enter Tryz.func68,Tryz.ntmps68
 go_wp2
 rw[Lib.run_neq_ptr_same w _ Tryz.underlying89 hj]
 go_wp2
 go_end0
 exact⟨rfl,rfl⟩
theorem Ft(b:Nat)(w:World)(h0:w.cell? ⟨b,0,none⟩=some (.pointer none))(Kk:w.shape? b=some (92,2))(hfz:w.frozen? ⟨b,0,none⟩=false) :
  Calls Tryz.prog 68 #[.pointer (some ⟨b,0,none⟩)] w fun e w'=>e=.returned (.tuple #[])/\w'=w.setCell ⟨b,0,none⟩ (.pointer (some ⟨b,0,none⟩)):=by
 obtain⟨j,hj,hjs⟩:=aiE.1 Vk
 go_enter Tryz.func68,Tryz.ntmps68
 go_wp2
 rw[Lib.run_to_unsafe w ⟨b,0,none⟩ Tryz.underlying89 Tryz.underlying156 hj (by rw[hjs];decide) Kk (Nat.zero_lt_succ 1)]
 simp only[Result.andThen]
 rw[Oper.upon_value]
 go_wp2
 rw[run_callFunc_extern Tryz.func99 (by kernel_rfl) (by kernel_rfl) (by kernel_rfl) (e:=Extern.AbiNoEscape.same) (by kernel_rfl)]
 rw[Lib.run_noEscape]
 simp only[Result.andThen]
 rw[Oper.upon_value]
 go_wp2
 rw[Lib.run_from_unsafe w ⟨b,0,none⟩ Tryz.underlying156 Tryz.underlying89 hj Kk abv]
 simp only[Result.andThen]
 rw[Oper.upon_value]
 go_wp2
 go_end0
 exact⟨rfl,rfl⟩
theorem u9{G:Nat->List AV} : iH Tryz.prog G 68 gq:=by
 intro args H r c he
 refine⟨I1 68 _ Tryz.func68 (by kernel_rfl) (by decide),?_⟩
 unfold gq at he
 split at he
 ·rename_i l
  split at he
  ·
   rename_i x hH
   simp only[aiG,aiH] at he
   obtain⟨rfl,rfl⟩:=he
   have a7:l<H.length:=(aiI.1 hH).1
   refine⟨⟨by simp[lT],fun c' xy=>?_⟩,fun base gh w vs hW _ hs bU=>?_⟩
   ·injection xy with xy
    subst xy
    refine⟨ali a7,fun k hk=>?_⟩
    simp only at hk ⊢
    rw[aj' (by omega)]
   ·obtain⟨u,rfl,hu⟩:=Bj hs bU
    obtain⟨_,rfl⟩:=hu.gV
    obtain⟨hκ,hS,C,ty,hb,hC,fq⟩:=hW.boxes l _ _ hH
    obtain⟨C2,fr2,jA,hC2⟩:=hW.types l _ _ hH (by decide)
    rw[hb] at jA
    injection jA with jA
    injection jA with e1 e2 e3
    subst e1 e2
    have hC2:C.size=2:=hC2
    have h0:C[0]?=some C[0]:=aiS (by omega)
    have UN:C[0]=.pointer none:=by
     have:=(fq 0 _ .cx h0 rfl).2.dropped
     generalize C[0]=V at this
     cases this with
     | plain _ _ h=>cases h;rfl
    have bH:w.cell? ⟨gh.ρ l,0,none⟩=some (.pointer none):=by rw[cell_of_row w _ 0 C _ _ hb,h0,UN]
    have j8:∀ o,gh.S (gh.ρ l) o->(C.setIfInBounds 0 (.pointer (some ⟨gh.ρ l,0,none⟩)))[o]?=C[o]?:=fun o ho=>(hS o ho).elim
    have st:=j0 hW hb (by simp) j8 H.length
    rw[hκ] at st
    refine (Ft (gh.ρ l) w bH (by simp[World.shape?,hb,hC2]) (by simp[World.frozen?,hb])).mono ?_
    rintro e w' ⟨rfl,rfl⟩
    rw[setCell_eq_setRow w (gh.ρ l) 0 C _ (0,0) _ hb]
    have j6:aG G base (H.set l (.box 92 [.ref l 0,x])) gh (w.setRow (gh.ρ l) (C.setIfInBounds 0 (.pointer (some ⟨gh.ρ l,0,none⟩)))):=by
     refine hW.G3 st hH (by intro k hk;simp[hk]) (fun b o ho=>by simpa using hW.l7 b o ho) (fun b hb=>by simpa using hW.mG b hb) ⟨hκ,hS,_,_,setRow_heap w _ C _ _ _ hb,by simpa using hC,fun j v y hv hy=>?_⟩ ?_ ?_ ?_
     ·match j with
      | 0 =>
       simp at hy
       subst hy
       rw[Array.getElem?_setIfInBounds_self_of_lt (by omega)] at hv
       injection hv with hv
       subst hv
       exact⟨rfl,.inl (.ref l 0 a7)⟩
      | j+1 =>
       rw[aku (by omega)] at hv
       obtain⟨k1,k2⟩:=fq (j+1) v y hv (by simpa using hy)
       exact⟨k1,k2.mono st (aiK _) (by simp)⟩
     ·have:=hW.refs l _ _ hH
      simp only[ajV,ak8,akw,aiL] at this ⊢
      exact⟨by simp[aR],this.2⟩
     ·exact fun _ _ h=>h
     ·rfl
    refine⟨_,gh,rfl,by simp[lT],j6,st.mono (fun p hp=>.inl ⟨l,hp⟩),fun _ h=>h,.inl .undef⟩
  ·
   rename_i l' y hH
   obtain⟨h0,UR⟩:=ab he
   clear he
   have HH:l=l':=by simpa [dU] using h0
   simp only[aiG,aiH] at UR
   obtain⟨rfl,rfl⟩:=UR
   subst HH
   refine⟨mP,fun base gh w vs hW _ hs bU=>?_⟩
   obtain⟨u,rfl,hu⟩:=Bj hs bU
   obtain⟨_,rfl⟩:=hu.gV
   obtain⟨hκ,hS,C,ty,hb,hC,fq⟩:=hW.boxes l _ _ hH
   have hC2:2<=C.size:=hC
   have Ka:C[0]?=some C[0]:=aiS (by omega)
   have UN:C[0]=.pointer (some ⟨gh.ρ l,0,none⟩):=(VR.gV (fq 0 _ (.ref l 0) Ka rfl).2.dropped).2
   refine (IE (gh.ρ l) w (by rw[cell_of_row w _ 0 C _ _ hb,Ka,UN])).mono ?_
   rintro e w' ⟨rfl,rfl⟩
   exact⟨_,gh,rfl,jx hW (Below.refl _ _) .undef⟩
  ·cases he
 ·cases he
theorem wP(b:Nat)(a q:Option Addr)(n cap:Nat)(s:ByteArray)(w W1 W:World)(c1:w.drew.cell? ⟨b,1,none⟩=some (.slice a n cap))(c2:W1.cell? ⟨b,1,none⟩=some (.slice a n cap))
  (hSD:(Builtin.unsafeSliceData_ #[90] 131 #[.slice a n cap]).run Tryz.prog w.drew=.ok (.pointer q) W1)
  (hUS:(Builtin.unsafeString_ #[131,3] 9 #[.pointer q,.int .i64 n]).run Tryz.prog W1=.ok (.string s) W) :
  Calls Tryz.prog 38 #[.pointer (some ⟨b,0,none⟩)] w fun e w'=>e=.returned (.string s)/\w'=W:=by
 have mixed:Tryz.prog.follows .mixedOrders=true:=by kernel_rfl
 go_enter Tryz.func38,Tryz.ntmps38
 go_wp2
 go_region_o
 all_goals (go_wp2;go_ret;exact⟨rfl,rfl⟩)
theorem Gy{P:Program}{e:TypeId}(hc:P.cellsOf e=1)(count n off:Nat)(hn:off+n<=count):liesAt P P.depth e count off e n=true:=by
 have hd:P.depth=(2*(P.types.size+Made.depth)+1)+1:=rfl
 rw[hd]
 simp only[liesAt,akh]
 left
 rw[hd]
 simp[rowAt,hc,hn,sameLayout]
 exact .inl (Nat.mod_one off)
theorem oX{P:Program}(w:World)(pt it ty e:TypeId)(hp:P.underlying pt=some (.pointer e))(hc:P.cellsOf e=1)(g off cells:Nat)(Kk:w.shape? g=some (e,cells))(l:List UInt8)(h0:l≠[])(hn:off+l.length<=cells)(h63:l.length<=9223372036854775807)
  (bH:∀ j x,l[j]?=some x->w.cell? ((⟨g,off,none⟩:Addr).add j)=some (.int .u8 x.toNat)) :
  (Builtin.unsafeString_ #[pt,it] ty #[.pointer (some ⟨g,off,none⟩),.int .i64 l.length]).run P w=.ok (.string ⟨l.toArray⟩) (w.freeze ⟨g,off,none⟩ l.length):=by
 have hl:l.length≠0:=by simpa using h0
 have Cu:=Lib.run_loadBytes (P:=P) w l ⟨g,off,none⟩ .empty bH
 have aaO:=Gy (P:=P) hc (cells / P.cellsOf e) l.length off (by rw[hc];simpa using hn)
 have ads:¬ (9223372036854775807:Int)<(l.length:Int):=by omega
 have LI:Builtin.unsafeString_ #[pt,it] ty #[.pointer (some ⟨g,off,none⟩),.int .i64 l.length] =
   (do
    let n <- asInt (.int .i64 l.length)
    if n<0 then runtimePanic (.error "unsafe.String: len out of range")
    if n>IntKind.i64.max then unsupported (.unsafePointer "String: a length above the largest int")
    if n=0 then pure (.string .empty)
    else if <- variablesAt ⟨g,off,none⟩ (<- elemOf pt) n.toNat then do
     let s <- loadBytes ⟨g,off,none⟩ .empty n.toNat
     freeze ⟨g,off,none⟩ n.toNat
     pure (.string s)
    else unsupported (.unsafePointer "String: not so many bytes at ptr")):=rfl
 rw[LI]
 have WD:IntKind.i64.max=9223372036854775807:=rfl
 have ad8:¬ (l.length:Int)<0:=by omega
 simp[asInt,asIntOf,WD,ads,ad8,hl,variablesAt,Kk,elemOf,run_underlying hp,aaO,Cu]
section
section
variable {G:Nat->List AV}{base:Nat}{gh:Gh}{w w' : World}{H:ag}
theorem O0(hW:aG G base H gh w)(st:Step (fun _=>False) H.length gh w gh w'){v:Value}{r:AV}(hv:VR gh H.length w' v r):kg G base H gh w r none v gh w' :=
 ⟨aiK _,hW.step st (fun l=>⟨id,fun _=>id⟩) (fun b o h=>ajK (hW.l7 b o h) st.size) (fun b h=>⟨(hW.mG b h).1,ajK (hW.mG b h).2 st.size⟩) (fun _ _ _ h=>.inl h),
  st.mono (fun _ h=>h.elim),fun _ h=>h,.inl hv⟩
theorem Dz(hW:aG G base H gh w){b o n:Nat}{C:Array Value}{ty:TypeId}{fr:Nat × Nat}(hb:w.heap[b]?=some (.cells C ty fr))(hn:n≠0)(hS:∀ j,j<n->gh.S b (o+j))(h8:∃ m,C[o]?=some (.int .u8 m))(m:Nat) :
  Step (fun _=>False) m gh w gh (w.drew.freeze ⟨b,o,none⟩ n):=by
 have a7:b<w.heap.size:=(aiN.1 hb).1
 have nZ:∀ k,(w.drew.freeze ⟨b,o,none⟩ n).heap[k]?=if k=b then some (.cells C ty (if fr.1==fr.2 then (o,o+n) else (min fr.1 o,max fr.2 (o+n)))) else w.heap[k]?:=by
  intro k
  unfold World.freeze
  rw[if_neg hn]
  show (w.heap.modify b _)[k]?=_
  rw[Array.getElem?_modify]
  by_cases hk:k=b
  ·subst hk
   rw[if_pos rfl,if_pos rfl,hb]
   obtain⟨lo,hi⟩:=fr
   rfl
  ·rw[if_neg (fun e=>hk e.symm),if_neg hk]
 have bH:∀ k j,(w.drew.freeze ⟨b,o,none⟩ n).cell? ⟨k,j,none⟩=w.cell? ⟨k,j,none⟩:=by
  intro k j
  simp only[World.cell?,nZ]
  by_cases hk:k=b
  ·subst hk;rw[if_pos rfl,hb]
  ·rw[if_neg hk]
 have lO:(w.drew.freeze ⟨b,o,none⟩ n).heap.size=w.heap.size:=by
  unfold World.freeze
  rw[if_neg hn]
  show (w.heap.modify b _).size=_
  simp
 have hos:(w.drew.freeze ⟨b,o,none⟩ n).os=w.os/\(w.drew.freeze ⟨b,o,none⟩ n).tape=w.tape/\(w.drew.freeze ⟨b,o,none⟩ n).output=w.output:=by
  unfold World.freeze
  rw[if_neg hn]
  exact⟨rfl,rfl,rfl⟩
 refine⟨fun _ _ h=>h,fun k j _=>bH k j,by rw[lO];exact aiK _,hos.1,hos.2.1,hos.2.2,fun k hk _=>⟨?_,rfl,fun _ h=>h⟩,fun k hk=>hW.bw k (by rw[<- lO];rw[lO];exact hk),fun _ _=>rfl,fun k j9 m' hm=>?_,fun k E ck _ h0=>?_⟩
 rotate_left 2
 ·rw[nZ]
  by_cases xz:k=b
  ·subst xz;rw[hb] at h0;cases h0
  ·rw[if_neg xz];exact h0
 ·rw[nZ]
  by_cases xz:k=b
  ·subst xz
   rw[if_pos rfl,hb]
   obtain⟨lo,hi⟩:=fr
   obtain⟨m8,h8⟩:=h8
   have yr:∀ q,(∀ o,q<=o->¬ gh.S k o)->o+n<=q:=fun q j8=>by
    rcases aj8 (o+(n-1)) q with h|h
    ·omega
    ·exact absurd (hS (n-1) (by omega)) (j8 _ h)
   by_cases U0:(lo==hi)=true
   ·exact .inr ⟨C,ty,lo,hi,o,o+n,rfl,by rw[if_pos U0],⟨o,m8,by simpa using hS 0 (by omega),h8⟩,fun q hq j8=>yr q j8⟩
   ·exact .inr ⟨C,ty,lo,hi,min lo o,max hi (o+n),rfl,by rw[if_neg U0],⟨o,m8,by simpa using hS 0 (by omega),h8⟩,fun q hq j8=>by have:=yr q j8;omega⟩
  ·rw[if_neg xz];exact .inl rfl
 ·obtain⟨C',fr',h1,h2⟩:=hm
  by_cases xz:k=b
  ·subst xz
   rw[hb] at h1
   injection h1 with h1
   injection h1 with e1 e2 e3
   subst e1 e2
   exact⟨C,_,by rw[nZ,if_pos rfl],h2⟩
  ·exact⟨C',fr',by rw[nZ,if_neg xz];exact h1,h2⟩
end
theorem wD(P:Program)(w:World){r:Nat}{o:Obj}(h:w.heap[r]?=some o)(hc:∀ C t f,o≠.cells C t f):(getObj r).run P w=.ok o w:=by
 cases o<;>first|(exact absurd rfl (hc _ _ _))|simp[getObj,Sem.run,h]
theorem wF(w:World)(ad:Addr)(h:ad.block<w.heap.size):∃ q W1,(Builtin.unsafeSliceData_ #[90] 131 #[.slice (some ad) 0 0]).run Tryz.prog w.drew=.ok (.pointer q) W1/\Below w.heap.size w W1:=by
 have hp:Tryz.prog.underlying 131=some (.pointer 5):=Tryz.underlying131
 have LI:Builtin.unsafeSliceData_ #[90] 131 #[.slice (some ad) 0 0] =
   (do
    if (0:Nat)≠0 then pure (.pointer (some ad))
    else if (<- viewAt ad.block).isSome then pure (.pointer (some ad))
    else pure (.pointer (some ⟨<- newObj (.view ad (<- elemOf 131)),0,none⟩))):=rfl
 have a7:ad.block<w.drew.heap.size:=h
 rw[LI]
 cases ho:w.drew.heap[ad.block]? with
 | none=>rw[aiS a7] at ho;cases ho
 | some o =>
  cases o with
  | cells C ty fr =>
   refine⟨some ⟨w.heap.size,0,none⟩,w.drew.alloc (.view ad 5),?_,(Below.drew (Below.refl _ w)).alloc (aiK _) _⟩
   have Kk:w.drew.shape? ad.block=some (ty,C.size):=by simp[World.shape?,ho]
   simp[viewAt,Kk,elemOf,run_underlying hp]
  | view a t =>
   refine⟨some ad,w.drew,?_,Below.drew (Below.refl _ w)⟩
   have hg:=wD Tryz.prog w.drew ho (fun _ _ _ h=>by cases h)
   have Kk:w.drew.shape? ad.block=none:=by simp[World.shape?,ho]
   simp[viewAt,Kk,hg,Result.andThen]
  | _ =>
   refine⟨some ⟨w.heap.size,0,none⟩,w.drew.alloc (.view ad 5),?_,(Below.drew (Below.refl _ w)).alloc (aiK _) _⟩
   have hg:=wD Tryz.prog w.drew ho (fun _ _ _ h=>by cases h)
   have Kk:w.drew.shape? ad.block=none:=by simp[World.shape?,ho]
   simp[viewAt,Kk,elemOf,run_underlying hp,hg,Result.andThen]
theorem KT{w:World}{b o:Nat}{v:Value}(h:w.cell? ⟨b,o,none⟩=some v):b<w.heap.size:=by
 rcases aj8 b w.heap.size with h'|h'
 ·exact h'
 ·simp[World.cell?,aj0 h'] at h
theorem xT:∀ {e:List (List AV)} {l:List UInt8},bytesOf e=some l->e.length=l.length/\∀ (i:Nat) (b:UInt8),l[i]?=some b->∃ m:Int,e[i]?=some [.int .u8 m]/\b=UInt8.ofNat m.toNat
 | [],l,h=>by
  simp only[bytesOf,aiG] at h
  subst h
  exact⟨rfl,fun i b h=>by simp at h⟩
 | r :: e,l,h=>by
  unfold bytesOf at h
  split at h
  ·cases ‹_ :: _=[]›
  ·rename_i n e' heq
   injection heq with h1 h2
   subst h1 h2
   obtain⟨l',h3,rfl⟩:=aiE.1 h
   obtain⟨k1,k2⟩:=xT h3
   refine⟨by simp[k1],fun i b hb=>?_⟩
   cases i with
   | zero=>simp at hb;exact⟨n,rfl,hb.symm⟩
   | succ i=>exact k2 i b (by simpa using hb)
  ·cases h
theorem rW{G:Nat->List AV} : iH Tryz.prog G 38 nc:=by
 intro args H r c he
 refine⟨I1 38 _ Tryz.func38 (by kernel_rfl) (by decide),?_⟩
 unfold nc at he
 split at he
 ·rename_i l
  split at he
  ·rename_i x e hH
   obtain⟨h0,he⟩:=ab he
   simp only[aiL] at h0
   have hlen:e.length<=4611686018427387904:=by simpa [ajg] using h0.1
   have WW:=h0.2
   obtain⟨bs,hbs,he⟩:=aiE.1 he
   simp only[aiH] at he
   obtain⟨rfl,rfl⟩:=he
   obtain⟨LC,hbr⟩:=xT hbs
   have a7:l<H.length:=(aiI.1 hH).1
   refine⟨mP,fun base gh w vs hW _ hs bU=>?_⟩
   obtain⟨u,rfl,hu⟩:=Bj hs bU
   obtain⟨_,rfl⟩:=hu.gV
   obtain⟨hκ,hS,C,ty,hb,hC,fq⟩:=hW.boxes l _ _ hH
   have hC2:2<=C.size:=hC
   have h1:C[1]?=some C[1]:=aiS (by omega)
   have hv:=(fq 1 _ (.slice e true) h1 rfl).2
   have bH:w.cell? ⟨gh.ρ l,1,none⟩=some C[1]:=by rw[cell_of_row w _ 1 C _ _ hb,h1]
   generalize C[1]=v at hv bH
   by_cases cU:e=[]
   ·subst cU
    have hb0:bs=[]:=by
     simp only[bytesOf,aiG] at hbs;exact hbs.symm
    subst hb0
    have n6:∃ a,v=.slice a 0 0/\∀ ad,a=some ad->ad.block<w.heap.size:=by
     rcases hv with hv|⟨e',heq,_,_,_,_,_,_,_,_,_,_,uw,_⟩
     ·cases hv with
      | plain _ _ h=>cases h
      | full a k _ h hz =>
       have hk:k=0:=by cases h with
        | cB=>rfl
        | slice _ _ _ _ _ _ _ hn=>simpa using hn.symm
       subst hk
       exact⟨a,rfl,fun ad ha=>hz ad ha rfl⟩
     ·injection heq with heq;subst heq;exact absurd rfl uw
    obtain⟨a,rfl,hz⟩:=n6
    have c1:w.drew.cell? ⟨gh.ρ l,1,none⟩=some (.slice a 0 0):=bH
    have fin:∀ (q:Option Addr) (W1:World),(Builtin.unsafeSliceData_ #[90] 131 #[.slice a 0 0]).run Tryz.prog w.drew=.ok (.pointer q) W1->Below w.heap.size w W1->Calls Tryz.prog 38 #[.pointer (some ⟨gh.ρ l,0,none⟩)] w fun e w'=>∃ v aF,e=.returned v/\kg G base H gh w (.str []) none v aF w':=by
     intro q W1 hSD aat
     have c2:W1.cell? ⟨gh.ρ l,1,none⟩=some (.slice a 0 0):=by rw[aat.cell (KT bH)];exact bH
     refine (wP (gh.ρ l) a q 0 0 .empty w W1 W1 c1 c2 hSD (Lib.run_unsafeString_none W1 _ _ _ q)).mono ?_
     rintro e w' ⟨rfl,rfl⟩
     exact⟨_,gh,rfl,jx hW aat (.plain _ _ (.str _ _ rfl))⟩
    cases a with
    | none=>exact fin none w.drew rfl (Below.drew (Below.refl _ w))
    | some ad =>
     obtain⟨q,W1,h1,h2⟩:=wF w ad (hz ad rfl)
     exact fin q W1 h1 h2
   ·have A8:PR gh.S w v (.slice e false):=by
     rcases hv with hv|⟨e',heq,h,_⟩
     ·cases hv with
      | plain _ _ h=>cases h
      | full a k _ h hz=>exact h
     ·injection heq with heq;subst heq;exact h
    cases A8 with
    | cB=>exact absurd rfl cU
    | slice b o n cap sz _ f hn iu br Wp aa3 =>
     subst hn
     have xA:0<e.length:=akW.2 cU
     have Cp:0<bs.length:=by omega
     obtain⟨m0,hm0,_⟩:=hbr 0 bs[0] (aiJ Cp)
     have fC:sz=1:=(br 0 _ hm0).symm
     subst fC
     have each:∀ (i:Nat) (x:UInt8),bs[i]?=some x->gh.S b (o+i)/\w.cell? ⟨b,o+i,none⟩=some (.int .u8 x.toNat):=by
      intro i x hx
      obtain⟨m,hm,rfl⟩:=hbr i x hx
      obtain⟨k1,k2,_⟩:=Wp i 0 _ _ hm rfl
      have hr:=aa3 i 0 _ _ hm rfl
      have hf:f i 0=.int .u8 m:=by
       generalize f i 0=V at hr
       cases hr;rfl
      simp only[akf,aki] at k1 k2
      refine⟨k1,?_⟩
      rw[k2,hf]
      have hm8:=aiO.1 WW _ (aiT hm)
      simp only[aiL,ai2] at hm8
      have e1:((UInt8.ofNat m.toNat).toNat:Int)=m:=by
       rw[UInt8.toNat_ofNat']
       omega
      rw[e1]
     obtain⟨Cb,fr,yl⟩:∃ Cb fr,w.heap[b]?=some (.cells Cb fP fr):=by
      have:=each 0 bs[0] (aiJ Cp)
      exact hW.bytes b (o+0) _ this.1 this.2
     have Kk:w.drew.shape? b=some (5,Cb.size):=by
      have:w.drew.heap[b]?=some (.cells Cb fP fr):=yl
      simp[World.shape?,this]
     have hin:o+bs.length<=Cb.size:=by
      have:=(each (bs.length-1) bs[bs.length-1] (aiJ (by omega))).2
      rw[cell_of_row w b _ Cb _ _ yl] at this
      have:=(aiN.1 this).1
      omega
     have c1:w.drew.cell? ⟨gh.ρ l,1,none⟩=some (.slice (some ⟨b,o,none⟩) e.length cap):=bH
     have hSD:(Builtin.unsafeSliceData_ #[90] 131 #[.slice (some ⟨b,o,none⟩) e.length cap]).run Tryz.prog w.drew=.ok (.pointer (some ⟨b,o,none⟩)) w.drew:=Lib.run_unsafeSliceData_row _ _ _ _ _ _ (by omega)
     have hUS:=oX (P:=Tryz.prog) w.drew 131 3 9 5 Tryz.underlying131 (by kernel_rfl) b o Cb.size Kk bs (by intro e;rw[e] at Cp;simp at Cp) hin (by omega) (fun j x hx=>by
      have LA:(Addr.mk b o none).add j=⟨b,o+j,none⟩:=by
       unfold Addr.add
       split
       ·rename_i h0;subst h0;simp
       ·simp
      rw[LA];exact (each j x hx).2)
     rw[<- LC] at hUS
     refine (wP (gh.ρ l) _ _ e.length cap _ w _ _ c1 c1 hSD hUS).mono ?_
     rintro e' w' ⟨rfl,rfl⟩
     refine⟨_,gh,rfl,O0 hW (Dz hW yl (by omega) (fun j hj=>(each j bs[j] (aiJ (by omega))).1) ⟨bs[0].toNat,?_⟩ _) (.plain _ _ (.str _ _ rfl))⟩
     have:=(each 0 bs[0] (aiJ Cp)).2
     rw[cell_of_row w b _ Cb _ _ yl] at this
     simpa using this
  ·cases he
 ·cases he
end
end Go.Proofs.YtocbgffdpfiidaaGreatDoor
namespace Go.Abs
section
def cC.Le(f g:cC):Prop:=∀ a b c r,f a b c=some r->g a b c=some r
section
variable {G:Nat->List AV}{f g:cC}
theorem pf{α:Type}{b:Bool}{x y:Option α}{r:α}(h:cond b x none=some r)(HO:x=some r->y=some r):cond b y none=some r:=by
 cases b
 ·cases h
 ·exact HO h
theorem IP(h:cC.Le f g){s:AS}{o:dQ}{r:AV × Option AS}(he:ai G f s o=some r):ai G g s o=some r:=by
 cases o with
 | call fn args =>
  simp only[ai] at he ⊢
  split at he
  ·refine pf he fun he=>?_
   simp only[aiE] at he ⊢
   obtain⟨r0,h0,rfl⟩:=he
   exact⟨r0,h _ _ _ _ h0,rfl⟩
  ·cases he
 | xW fn pre x post =>
  simp only[ai] at he ⊢
  refine pf he fun he=>?_
  simp only[aiF,aiE] at he ⊢
  obtain⟨p,hp,r0,h0,he⟩:=he
  exact⟨p,hp,r0,h _ _ _ _ h0,he⟩
 | iP fn args =>
  simp only[ai] at he ⊢
  split at he
  ·refine pf he fun he=>?_
   simp only[aiF] at he ⊢
   obtain⟨r0,h0,he⟩:=he
   exact⟨r0,h _ _ _ _ h0,he⟩
  ·cases he
 | _=>exact he
theorem tG(h:cC.Le f g){d:Bool}{s:AS}{o:az}{r:AS}(he:bQ G f d s o=some r):bQ G g d s o=some r:=by
 have key:∀ r,((ai G f s o.op).bind fun r=>match r.2 with
   | none=>cond (d&&(aQ r.1).isSome) none (some (s.ca o.dst r.1))
   | some s'=>cond d none (some (s'.ca o.dst r.1)))=some r->((ai G g s o.op).bind fun r=>match r.2 with
   | none=>cond (d&&(aQ r.1).isSome) none (some (s.ca o.dst r.1))
   | some s'=>cond d none (some (s'.ca o.dst r.1)))=some r:=by
  intro r hr
  simp only[aiF] at hr ⊢
  obtain⟨x,h1,h2⟩:=hr
  exact⟨x,IP h h1,h2⟩
 unfold bQ at he ⊢
 simp only at he ⊢
 split at he
 ·exact key _ he
 ·split at he
  ·rename_i b hb
   cases Wk:(b==_) with
   | true=>rw[Wk] at he;exact key _ he
   | false=>rw[Wk] at he;exact he
  ·exact he
  ·cases he
theorem qh(h:cC.Le f g){d:Bool} : ∀ {os:List az} {s r:AS},dT G f d os s=some r->dT G g d os s=some r
 | [],_,_,he=>he
 | o :: os,s,r,he=>by
  simp only[dT,aiF] at he ⊢
  obtain⟨x,h1,h2⟩:=he
  exact⟨x,tG h h1,qh h h2⟩
theorem mW{F F' : AS->Option (bC × AS)}(h:∀ s r,F s=some r->F' s=some r):∀ {n m:Nat} {s:AS} {r:bC × AS},n<=m->iter F n s=some r->iter F' m s=some r
 | 0,_,_,_,_,he=>by cases he
 | n+1,0,_,_,hn,_=>by omega
 | n+1,m+1,s,r,hn,he=>by
  simp only[iter,aiF] at he ⊢
  obtain⟨x,h1,h2⟩:=he
  refine⟨x,h _ _ h1,?_⟩
  split at h2
  ·exact mW h (by omega) h2
  ·exact h2
theorem il(h:cC.Le f g){n m:Nat}(hn:n<=m):∀ {c:aZ} {s:AS} {r:bC × AS},gL G f n c s=some r->gL G g m c s=some r
 | .skip,_,_,he=>he
 | .exit _,_,_,he=>he
 | .ret,_,_,he=>he
 | .xd _ _ _,_,_,he=>by simp[gL] at he
 | .region d os,s,r,he=>by
  simp only[gL,aiE] at he ⊢
  obtain⟨x,h1,h2⟩:=he
  exact⟨x,qh h h1,h2⟩
 | .seq a b,s,r,he=>by
  simp only[gL,aiF] at he ⊢
  obtain⟨x,h1,h2⟩:=he
  refine⟨x,il h hn h1,?_⟩
  split at h2
  ·exact il h hn h2
  ·exact h2
 | .cond c a b,s,r,he=>by
  simp only[gL] at he ⊢
  split at he
  ·rename_i t ht
   cases t
   ·exact il h hn (c:=b) he
   ·exact il h hn (c:=a) he
  ·cases he
 | .block id a,s,r,he=>by
  simp only[gL,aiE] at he ⊢
  obtain⟨x,h1,h2⟩:=he
  exact⟨x,il h hn h1,h2⟩
 | .loop a,s,r,he=>by
  simp only[gL] at he ⊢
  exact mW (fun s r h'=>il h hn h') hn he
theorem yV(h:cC.Le f g){n m:Nat}(hn:n<=m){fn:au}{args:List AV}{H:ag}{r:AV × Option fz}(he:td G f n fn args H=some r):td G g m fn args H=some r:=by
 unfold td at he ⊢
 refine pf he fun he=>?_
 simp only[aiF] at he ⊢
 obtain⟨x,h1,h2⟩:=he
 exact⟨x,il h hn h1,h2⟩
end
theorem BW{A:AP} : ∀ n,cC.Le (x9 A n) (x9 A (n+1))
 | 0=>fun a b c r h=>by cases h
 | n+1=>fun a b c r h=>by
  simp only[x9] at h ⊢
  cases ho:A.ov a with
  | some g=>rw[ho] at h;exact h
  | none =>
   rw[ho] at h
   cases hf:A.fns a with
   | none=>rw[hf] at h;cases h
   | some fn=>rw[hf] at h;exact yV (BW n) (by omega) h
theorem kA{A:AP}{n m:Nat}(h:n<=m):cC.Le (x9 A n) (x9 A m):=by
 induction h with
 | refl=>exact fun _ _ _ _ h=>h
 | step _ ih=>exact fun a b c r hr=>BW _ a b c r (ih a b c r hr)
noncomputable def aA(A:AP):cC:=fun f args H=>open Classical in if h:∃ n r,x9 A n f args H=some r then some (Classical.choose (akp h)) else none
theorem lC{A:AP}{f:FuncId}{args:List AV}{H:ag}{r:AV × Option fz} : aA A f args H=some r↔∃ n,x9 A n f args H=some r:=by
 unfold aA
 constructor
 ·intro h
  split at h
  ·rename_i hx
   have:=akp (akp hx)
   injection h with h
   rw[h] at this
   exact⟨_,this⟩
  ·cases h
 ·rintro ⟨n,hn⟩
  have hx:∃ n r,x9 A n f args H=some r:=⟨n,r,hn⟩
  rw[dif_pos hx]
  have h1:=akp (akp hx)
  have h2:=kA (akC n (Classical.choose hx)) _ _ _ _ hn
  have h3:=kA (akg n (Classical.choose hx)) _ _ _ _ h1
  rw[h2] at h3
  injection h3 with h3
  rw[h3]
section
variable {A:AP}
theorem K8{s:AS}{o:dQ}{r:AV × Option AS}(he:ai A.aP (aA A) s o=some r):∃ n,ai A.aP (x9 A n) s o=some r:=by
 cases o with
 | call fn args =>
  simp only[ai] at he ⊢
  split at he
  ·rename_i n fs cs hf
   cases hb:((args.map fun a=>a.addr A.aP s.T).all ar) with
   | false=>rw[hb] at he;cases he
   | true =>
    rw[hb] at he
    simp only[cond_true,aiE] at he
    obtain⟨r0,h0,rfl⟩:=he
    obtain⟨k,hk⟩:=lC.1 h0
    exact⟨k,by simp only[hk,cond_true,aiV]⟩
  ·cases he
 | xW fn pre x post =>
  simp only[ai] at he ⊢
  cases hb:((pre.map fun a=>a.addr A.aP s.T).all ar&&(post.map fun a=>a.addr A.aP s.T).all ar) with
  | false=>rw[hb] at he;cases he
  | true =>
   rw[hb] at he
   simp only[cond_true,aiF,aiE] at he
   obtain⟨p,hp,r0,h0,he⟩:=he
   obtain⟨k,hk⟩:=lC.1 h0
   exact⟨k,by simp only[hp,hk,cond_true,aiP,aiV,he]⟩
 | iP fn args =>
  simp only[ai] at he ⊢
  split at he
  ·rename_i n fs cs hf
   cases hb:((args.map fun a=>a.addr A.aP s.T).all ar) with
   | false=>rw[hb] at he;cases he
   | true =>
    rw[hb] at he
    simp only[cond_true,aiF] at he
    obtain⟨r0,h0,he⟩:=he
    obtain⟨k,hk⟩:=lC.1 h0
    exact⟨k,by simp only[hk,cond_true,aiP];exact he⟩
  ·cases he
 | _=>exact⟨0,he⟩
theorem FE{d:Bool}{s:AS}{o:az}{r:AS}(he:bQ A.aP (aA A) d s o=some r):∃ n,bQ A.aP (x9 A n) d s o=some r:=by
 have key:∀ r,((ai A.aP (aA A) s o.op).bind fun r=>match r.2 with
   | none=>cond (d&&(aQ r.1).isSome) none (some (s.ca o.dst r.1))
   | some s'=>cond d none (some (s'.ca o.dst r.1)))=some r->∃ n,((ai A.aP (x9 A n) s o.op).bind fun r=>match r.2 with
   | none=>cond (d&&(aQ r.1).isSome) none (some (s.ca o.dst r.1))
   | some s'=>cond d none (some (s'.ca o.dst r.1)))=some r:=by
  intro r hr
  simp only[aiF] at hr ⊢
  obtain⟨x,h1,h2⟩:=hr
  obtain⟨n,hn⟩:=K8 h1
  exact⟨n,x,hn,h2⟩
 unfold bQ at he ⊢
 simp only at he ⊢
 split at he
 ·exact key _ he
 ·split at he
  ·rename_i b hb
   cases Wk:(b==_) with
   | true=>rw[Wk] at he;exact key _ he
   | false=>rw[Wk] at he;exact⟨0,he⟩
  ·exact⟨0,he⟩
  ·cases he
theorem ye{d:Bool} : ∀ {os:List az} {s r:AS},dT A.aP (aA A) d os s=some r->∃ n,dT A.aP (x9 A n) d os s=some r
 | [],_,_,he=>⟨0,he⟩
 | o :: os,s,r,he=>by
  simp only[dT,aiF] at he ⊢
  obtain⟨x,h1,h2⟩:=he
  obtain⟨n,hn⟩:=FE h1
  obtain⟨m,hm⟩:=ye h2
  exact⟨max n m,x,tG (kA (akC n m)) hn,qh (kA (akg n m)) hm⟩
theorem CD{F:AS->Option (bC × AS)}{F' : Nat->AS->Option (bC × AS)}(hm:∀ n m s r,n<=m->F' n s=some r->F' m s=some r)(h:∀ s r,F s=some r->∃ n,F' n s=some r) :
  ∀ {n:Nat} {s:AS} {r:bC × AS},iter F n s=some r->∃ m,iter (F' m) n s=some r
 | 0,_,_,he=>by cases he
 | n+1,s,r,he=>by
  simp only[iter,aiF] at he ⊢
  obtain⟨x,h1,h2⟩:=he
  obtain⟨m1,QR⟩:=h _ _ h1
  split at h2
  ·obtain⟨m2,ZA⟩:=CD hm h h2
   refine⟨max m1 m2,x,hm _ _ _ _ (akC _ _) QR,?_⟩
   rename_i hx
   simp only[hx]
   exact mW (fun s r=>hm _ _ _ _ (akg _ _)) (aiK _) ZA
  ·rename_i hx
   refine⟨m1,x,QR,?_⟩
   split
   ·rename_i mF;exact absurd mF hx
   ·exact h2
theorem nB{n:Nat} : ∀ {c:aZ} {s:AS} {r:bC × AS},gL A.aP (aA A) n c s=some r->∃ m,gL A.aP (x9 A m) n c s=some r
 | .skip,_,_,he=>⟨0,he⟩
 | .exit _,_,_,he=>⟨0,he⟩
 | .ret,_,_,he=>⟨0,he⟩
 | .xd _ _ _,_,_,he=>by simp[gL] at he
 | .region d os,s,r,he=>by
  simp only[gL,aiE] at he ⊢
  obtain⟨x,h1,h2⟩:=he
  obtain⟨m,hm⟩:=ye h1
  exact⟨m,x,hm,h2⟩
 | .seq a b,s,r,he=>by
  simp only[gL,aiF] at he ⊢
  obtain⟨x,h1,h2⟩:=he
  obtain⟨m1,QR⟩:=nB h1
  split at h2
  ·rename_i hx
   obtain⟨m2,ZA⟩:=nB h2
   refine⟨max m1 m2,x,il (kA (akC _ _)) (aiK _) QR,?_⟩
   simp only[hx]
   exact il (kA (akg _ _)) (aiK _) ZA
  ·rename_i hx
   refine⟨m1,x,QR,?_⟩
   split
   ·rename_i mF;exact absurd mF hx
   ·exact h2
 | .cond c a b,s,r,he=>by
  simp only[gL] at he ⊢
  split at he
  ·rename_i t ht
   cases t
   ·exact nB (c:=b) he
   ·exact nB (c:=a) he
  ·cases he
 | .block id a,s,r,he=>by
  simp only[gL,aiE] at he ⊢
  obtain⟨x,h1,h2⟩:=he
  obtain⟨m,hm⟩:=nB h1
  exact⟨m,x,hm,h2⟩
 | .loop a,s,r,he=>by
  simp only[gL] at he ⊢
  exact CD (F':=fun m=>gL A.aP (x9 A m) n a) (fun n' m s r hn h=>il (kA hn) (aiK _) h) (fun s r h=>nB h) he
theorem O6{n:Nat}{fn:au}{args:List AV}{H:ag}{r:AV × Option fz}(he:td A.aP (aA A) n fn args H=some r):∃ m,td A.aP (x9 A m) n fn args H=some r:=by
 unfold td at he ⊢
 cases hb:Nat.beq args.length fn.np with
 | false=>rw[hb] at he;cases he
 | true =>
  rw[hb] at he
  simp only[cond_true,aiF] at he ⊢
  obtain⟨x,h1,h2⟩:=he
  obtain⟨m,hm⟩:=nB h1
  exact⟨m,x,hm,h2⟩
theorem sw{f:FuncId}{fn:au}(ho:A.ov f=none)(hf:A.fns f=some fn){n:Nat}{args:List AV}{H:ag}{r:AV × Option fz}(h:td A.aP (aA A) n fn args H=some r):aA A f args H=some r:=by
 obtain⟨m,hm⟩:=O6 h
 refine lC.2 ⟨max m n+1,?_⟩
 simp only[x9,ho,hf]
 exact yV (kA (akC _ _)) (akg _ _) hm
theorem mO{f:FuncId}{g:List AV->ag->Option (AV × Option fz)}(ho:A.ov f=some g){args:List AV}{H:ag}{r:AV × Option fz}(h:g args H=some r)(hn:args.all pz=true:=by rfl):aA A f args H=some r :=
 lC.2 ⟨1,by simp only[x9,ho,hn,cond_true];exact h⟩
end
end
section
def aZ.sub:List Bool->aZ->aZ
 | [],c=>c
 | false :: p,.seq a _=>a.sub p
 | true :: p,.seq _ b=>b.sub p
 | false :: p,.cond _ a _=>a.sub p
 | true :: p,.cond _ _ b=>b.sub p
 | _ :: p,.block _ a=>a.sub p
 | _ :: p,.loop a=>a.sub p
 | _,c=>c
def W(A:AP)(c:aZ)(s:AS)(Q:bC->AS->Prop):Prop:=∃ n e s',gL A.aP (aA A) n c s=some (e,s')/\Q e s'
def WO(A:AP)(d:Bool)(os:List az)(s:AS)(Q:AS->Prop):Prop:=∃ s',dT A.aP (aA A) d os s=some s'/\Q s'
def bn{α:Type}(x:Option α)(K:α->Prop):Prop:=∃ s,x=some s/\K s
def xZ(v:AV)(p q:AS->Prop)(s:AS):Prop:=∃ b,v=.bool b/\(b=true->p s)/\(b=false->q s)
def andThen(P:AS->Prop)(Q:bC->AS->Prop):bC->AS->Prop
 | .normal,s=>P s
 | e,s=>Q e s
def leave(id:Nat)(Q:bC->AS->Prop):bC->AS->Prop
 | .exit i,s=>Q (cond (Nat.beq i id) .normal (.exit i)) s
 | e,s=>Q e s
section
variable {A:AP}
theorem av{α:Type}{s:α}{K:α->Prop} : bn (some s) K=K s:=by
 refine propext ⟨?_,fun h=>⟨s,rfl,h⟩⟩
 rintro ⟨s',h,hk⟩
 injection h with h
 rw[h];exact hk
theorem Fq{p q:AS->Prop}{s:AS} : xZ (.bool true) p q s=p s:=by
 refine propext ⟨?_,fun h=>⟨true,rfl,fun _=>h,fun hb=>Bool.noConfusion hb⟩⟩
 rintro ⟨b,h,h1,h2⟩
 injection h with h
 exact h1 h.symm
theorem BC{p q:AS->Prop}{s:AS} : xZ (.bool false) p q s=q s:=by
 refine propext ⟨?_,fun hq=>⟨false,rfl,(fun hb=>Bool.noConfusion hb),fun _=>hq⟩⟩
 rintro ⟨b,h,h1,h2⟩
 injection h with h
 exact h2 h.symm
theorem ku{b:Bool}{p q:AS->Prop}{s:AS}(h1:b=true->p s)(h2:b=false->q s):xZ (.bool b) p q s:=⟨b,rfl,h1,h2⟩
theorem gK{P:Prop}{_:Decidable P}{p q:AS->Prop}{s:AS}(h1:P->p s)(h2:¬ P->q s):xZ (.bool (decide P)) p q s :=
 ⟨_,rfl,fun h=>h1 (of_decide_eq_true h),fun h=>h2 (of_decide_eq_false h)⟩
theorem up{n m:Nat}(h:n<=m){c:aZ}{s:AS}{r:bC × AS}(he:gL A.aP (aA A) n c s=some r):gL A.aP (aA A) m c s=some r:=il (fun _ _ _ _ h=>h) h he
theorem Vs{s:AS}{Q:bC->AS->Prop} : W A .skip s Q=Q .normal s:=by
 refine propext ⟨?_,fun h=>⟨0,_,_,rfl,h⟩⟩
 rintro ⟨n,e,s',h,hq⟩
 simp only[gL,aiG,aiH] at h
 rw[h.1,h.2];exact hq
theorem ZK{s:AS}{Q:bC->AS->Prop} : W A .ret s Q=Q .ret s:=by
 refine propext ⟨?_,fun h=>⟨0,_,_,rfl,h⟩⟩
 rintro ⟨n,e,s',h,hq⟩
 simp only[gL,aiG,aiH] at h
 rw[h.1,h.2];exact hq
theorem Vr{i:Nat}{s:AS}{Q:bC->AS->Prop} : W A (.exit i) s Q=Q (.exit i) s:=by
 refine propext ⟨?_,fun h=>⟨0,_,_,rfl,h⟩⟩
 rintro ⟨n,e,s',h,hq⟩
 simp only[gL,aiG,aiH] at h
 rw[h.1,h.2];exact hq
theorem Kv{a b:aZ}{s:AS}{Q:bC->AS->Prop} : W A (.seq a b) s Q=W A a s (andThen (fun s'=>W A b s' Q) Q):=by
 refine propext ⟨?_,?_⟩
 ·rintro ⟨n,e,s',h,hq⟩
  simp only[gL,aiF] at h
  obtain⟨⟨e1,s1⟩,h1,h2⟩:=h
  refine⟨n,e1,s1,h1,?_⟩
  cases e1 with
  | normal=>exact⟨n,e,s',h2,hq⟩
  | _ =>
   simp only[aiG,aiH] at h2
   obtain⟨rfl,rfl⟩:=h2
   exact hq
 ·rintro ⟨n,e,s',h,hq⟩
  cases e with
  | normal =>
   obtain⟨m,e2,s2,h2,hq⟩:=hq
   refine⟨max n m,e2,s2,?_,hq⟩
   simp only[gL,up (akC n m) h,aiP,up (akg n m) h2]
  | exit i =>
   refine⟨n,_,s',?_,hq⟩
   simp only[gL,h,aiP]
  | ret =>
   refine⟨n,_,s',?_,hq⟩
   simp only[gL,h,aiP]
theorem ze{i:Nat}{a:aZ}{s:AS}{Q:bC->AS->Prop} : W A (.block i a) s Q=W A a s (leave i Q):=by
 refine propext ⟨?_,?_⟩
 ·rintro ⟨n,e,s',h,hq⟩
  simp only[gL,aiE] at h
  obtain⟨⟨e1,s1⟩,h1,h2⟩:=h
  refine⟨n,e1,s1,h1,?_⟩
  cases e1<;>simp only[aiH] at h2<;>obtain⟨rfl,rfl⟩:=h2<;>exact hq
 ·rintro ⟨n,e,s',h,hq⟩
  cases e<;>exact⟨n,_,s',by simp only[gL,h,aiV],hq⟩
theorem Vq{c:ak}{a b:aZ}{s:AS}{Q:bC->AS->Prop} : W A (.cond c a b) s Q=xZ (c.eval A.aP s.T) (fun s=>W A a s Q) (fun s=>W A b s Q) s:=by
 refine propext ⟨?_,?_⟩
 ·rintro ⟨n,e,s',h,hq⟩
  simp only[gL] at h
  split at h
  ·rename_i t ht
   refine⟨t,ht,fun hb=>?_,fun hb=>?_⟩
   ·subst hb;exact⟨n,e,s',h,hq⟩
   ·subst hb;exact⟨n,e,s',h,hq⟩
  ·cases h
 ·rintro ⟨t,ht,h1,h2⟩
  cases t with
  | true =>
   obtain⟨n,e,s',h,hq⟩:=h1 rfl
   exact⟨n,e,s',by simp only[gL,ht];exact h,hq⟩
  | false =>
   obtain⟨n,e,s',h,hq⟩:=h2 rfl
   exact⟨n,e,s',by simp only[gL,ht];exact h,hq⟩
theorem Ku{d:Bool}{os:List az}{s:AS}{Q:bC->AS->Prop} : W A (.region d os) s Q=WO A d os s (Q .normal):=by
 refine propext ⟨?_,?_⟩
 ·rintro ⟨n,e,s',h,hq⟩
  simp only[gL,aiE,aiH] at h
  obtain⟨s1,h1,rfl,rfl⟩:=h
  exact⟨s1,h1,hq⟩
 ·rintro ⟨s1,h1,hq⟩
  exact⟨0,.normal,s1,by simp only[gL,h1,aiV],hq⟩
theorem Vp{d:Bool}{s:AS}{Q:AS->Prop} : WO A d [] s Q=Q s:=by
 refine propext ⟨?_,fun h=>⟨s,rfl,h⟩⟩
 rintro ⟨s',h,hq⟩
 simp only[dT,aiG] at h
 rw[h];exact hq
theorem fa{d:Bool}{o:az}{os:List az}{s:AS}{Q:AS->Prop} : WO A d (o :: os) s Q=bn (bQ A.aP (aA A) d s o) fun s'=>WO A d os s' Q:=by
 refine propext ⟨?_,?_⟩
 ·rintro ⟨s',h,hq⟩
  simp only[dT,aiF] at h
  obtain⟨s1,h1,h2⟩:=h
  exact⟨s1,h1,s',h2,hq⟩
 ·rintro ⟨s1,h1,s',h2,hq⟩
  exact⟨s',by simp only[dT,h1,aiP,h2],hq⟩
theorem Bc{a b:aZ}{s:AS}{Q:bC->AS->Prop}(R:AS->Prop)(h1:W A a s (andThen R Q))(h2:∀ s',R s'->W A b s' Q):W A (.seq a b) s Q:=by
 rw[Kv]
 obtain⟨n,e,s',h,hq⟩:=h1
 exact⟨n,e,s',h,by cases e with|normal=>exact h2 s' hq|_=>exact hq⟩
theorem p9{c:aZ}{s:AS}{Q Q' : bC->AS->Prop}(h:W A c s Q)(hq:∀ e s',Q e s'->Q' e s'):W A c s Q':=by
 obtain⟨n,e,s',h1,h2⟩:=h
 exact⟨n,e,s',h1,hq e s' h2⟩
theorem Kt{a:aZ}{Q:bC->AS->Prop}(I:Nat->AS->Prop)(hI:∀ k s,I k s->W A a s (andThen (fun s'=>∃ k',k' < k/\I k' s') Q)):∀ k s,I k s->W A (.loop a) s Q:=by
 intro k
 induction k using Nat.strongRecOn with
 | _ k ih =>
  intro s hs
  obtain⟨n,e,s1,h1,hq⟩:=hI k s hs
  cases e with
  | normal =>
   obtain⟨k',hk,Ac⟩:=hq
   obtain⟨m,e2,s2,h2,hq⟩:=ih k' hk s1 Ac
   refine⟨max n m+1,e2,s2,?_,hq⟩
   simp only[gL,iter] at h2 ⊢
   have QH:=up (A:=A) (show n<=max n m+1 by omega) h1
   rw[QH,aiP]
   have UL:iter (gL A.aP (aA A) (max n m+1) a) (max n m) s1=some (e2,s2) :=
    mW (fun s r h=>up (show m<=max n m+1 by omega) h) (akg n m) h2
   exact UL
  | exit i =>
   refine⟨n+1,_,s1,?_,hq⟩
   simp only[gL,iter]
   rw[up (A:=A) (show n<=n+1 by omega) h1,aiP]
  | ret =>
   refine⟨n+1,_,s1,?_,hq⟩
   simp only[gL,iter]
   rw[up (A:=A) (show n<=n+1 by omega) h1,aiP]
theorem qO{a:aZ}{s:AS}{Q:bC->AS->Prop}(h:W A a s (andThen (fun s'=>W A (.loop a) s' Q) Q)):W A (.loop a) s Q:=by
 obtain⟨n,e,s1,h1,hq⟩:=h
 cases e with
 | normal =>
  obtain⟨m,e2,s2,h2,hq⟩:=hq
  refine⟨max n m+1,e2,s2,?_,hq⟩
  simp only[gL,iter] at h2 ⊢
  rw[up (A:=A) (show n<=max n m+1 by omega) h1,aiP]
  exact mW (fun s r h=>up (show m<=max n m+1 by omega) h) (akg n m) h2
 | exit i =>
  refine⟨n+1,_,s1,?_,hq⟩
  simp only[gL,iter]
  rw[up (A:=A) (show n<=n+1 by omega) h1,aiP]
 | ret =>
  refine⟨n+1,_,s1,?_,hq⟩
  simp only[gL,iter]
  rw[up (A:=A) (show n<=n+1 by omega) h1,aiP]
theorem zf{a:aZ}{Q:bC->AS->Prop}(n:Nat)(I:Nat->AS->Prop)(hI:∀ k s,k<=n->I k s->W A a s (andThen (fun s'=>k<n/\I (k+1) s') Q))(k:Nat)(s:AS)(hk:k<=n)(hs:I k s):W A (.loop a) s Q:=by
 refine Kt (fun j s=>∃ k,k<=n/\j=n-k/\I k s) (fun j s h=>?_) (n-k) s ⟨k,hk,rfl,hs⟩
 obtain⟨k,hk,rfl,hs⟩:=h
 refine p9 (hI k s hk hs) fun e s' hq=>?_
 cases e with
 | normal =>
  obtain⟨h1,h2⟩:=hq
  exact⟨n-(k+1),by omega,k+1,by omega,rfl,h2⟩
 | _=>exact hq
def Ex(i:Nat)(P V:AS->Prop):bC->AS->Prop
 | .exit j,s=>j=i/\P s
 | .ret,s=>V s
 | .normal,_=>False
theorem Hj{a:aZ}{s:AS}{Q:bC->AS->Prop}(id:Nat)(P V:AS->Prop)(h:W A (.loop a) s (Ex id P V))(hp:∀ s',P s'->Q (.exit id) s')(hv:∀ s',V s'->Q .ret s'):W A (.loop a) s Q:=by
 refine p9 h fun e s' hq=>?_
 cases e with
 | normal=>exact hq.elim
 | exit j=>obtain⟨rfl,hq⟩:=hq;exact hp s' hq
 | ret=>exact hv s' hq
theorem bY{a:aZ}{Q:bC->AS->Prop}(n id:Nat)(I:Nat->AS->Prop)(P V:AS->Prop)(hI:∀ k s,k<=n->I k s->W A a s (andThen (fun s'=>k<n/\I (k+1) s') (Ex id P V)))
  (hp:∀ s',P s'->Q (.exit id) s') (hv:∀ s',V s'->Q .ret s') (k:Nat) (s:AS) (hk:k<=n) (hs:I k s):W A (.loop a) s Q :=
 Hj id P V (zf n I hI k s hk hs) hp hv
theorem zg{a:aZ}{Q:bC->AS->Prop}(id:Nat)(I:Nat->AS->Prop)(P V:AS->Prop)(hI:∀ k s,I k s->W A a s (andThen (fun s'=>∃ k',k' < k/\I k' s') (Ex id P V)))
  (hp:∀ s',P s'->Q (.exit id) s') (hv:∀ s',V s'->Q .ret s') (k:Nat) (s:AS) (hs:I k s):W A (.loop a) s Q :=
 Hj id P V (Kt I hI k s hs) hp hv
def Hd(P:aC->Prop)(H:ag)(lo gen:Nat)(s:AS):Prop:=P s.T/\s.H=H/\s.lo=lo/\s.gen=gen
theorem Hd.out{P:aC->Prop}{H:ag}{lo gen:Nat}{s:AS}(h:Hd P H lo gen s):∃ T,s=⟨T,H,lo,gen⟩/\P T:=by
 obtain⟨T,H',l',g'⟩:=s
 obtain⟨h1,h2,h3,h4⟩:=h
 simp only at h1 h2 h3 h4
 subst h2 h3 h4
 exact⟨T,rfl,h1⟩
def Ib(P:aC->Prop)(H:ag)(lo:Nat)(s:AS):Prop:=P s.T/\s.H=H/\s.lo=lo
theorem Ib.out{P:aC->Prop}{H:ag}{lo:Nat}{s:AS}(h:Ib P H lo s):∃ T g,s=⟨T,H,lo,g⟩/\P T:=by
 obtain⟨T,H',l',g'⟩:=s
 obtain⟨h1,h2,h3⟩:=h
 simp only at h1 h2 h3
 subst h2 h3
 exact⟨T,g',rfl,h1⟩
def fin(base:Nat)(rs:List fJ)(s:AS):Option (AV × Option fz) :=
 cond (mB base s) ((lZ s rs).bind fun r=>cond (r.leaves base) (some (r,cond (Nat.beq s.lo base) none (some ⟨s.H.take base,s.lo⟩))) none) none
def done(base:Nat)(rs:List fJ)(r:AV × Option fz):bC->AS->Prop
 | .exit _,_=>False
 | _,s=>fin base rs s=some r
def ve(base:Nat)(rs:List fJ)(P:AV × Option fz->Prop):bC->AS->Prop
 | .exit _,_=>False
 | _,s=>bn (fin base rs s) P
theorem JT{s:AS}{r:fJ}{b:Nat}(h:nL s r=some b):iE s r=none:=by
 cases r with
 | tmp t =>
  simp only[nL] at h
  simp only[iE]
  split at h
  ·rename_i hT;rw[hT];rfl
  ·rename_i hT;rw[hT];rfl
  ·cases h
 | cell=>cases h
theorem B7{s:AS}{m:Nat}{rs:List fJ}{q:AV × Option fz}(he:oG m rs s=some q):∃ i l off n z,rs=[i]/\iE s i=some (.sref l off n z)/\m<=l:=by
 unfold oG at he
 split at he
 ·rename_i i
  simp only[aiF] at he
  obtain⟨v,hv,he⟩:=he
  split at he
  ·rename_i l off n z
   split at he
   ·rename_i ty cs hH
    cases hb:(Nat.ble m l&&cs.all AV.plain) with
    | false=>rw[hb] at he;cases he
    | true =>
     simp only[aiL,ajg] at hb
     exact⟨i,l,off,n,z,rfl,hv,hb.1⟩
   ·cases he
  ·cases he
 ·cases he
theorem KI{base:Nat}{fn:au}{s:AS}{r:AV × Option fz}(h:jJ base fn.results s=some r):nC base fn s=none:=by
 cases hf:nC base fn s with
 | none=>rfl
 | some q =>
  exfalso
  unfold nC at hf
  cases hb:fn.muts.elem 888888 with
  | false=>rw[hb] at hf;cases hf
  | true =>
   rw[hb,cond_true] at hf
   obtain⟨i,l,off,n,z,Cv,qs,ZB⟩:=B7 hf
   unfold jJ lZ at h
   rw[Cv] at h
   simp only at h
   cases hr:nL s i with
   | some b=>rw[JT hr] at qs;cases qs
   | none =>
    rw[hr] at h
    simp only[qs,aiP] at h
    have:(AV.sref l off n z).leaves base=false:=by
     simp only[AV.leaves,AV.bg,AV.aN]
     cases hb:Nat.blt l base with
     | false=>rfl
     | true=>rw[ajb] at hb;omega
    rw[this] at h
    cases h
theorem vw{base:Nat}{fn:au}{s:AS}{r:AV × Option fz}(h:fin base fn.results s=some r):finish base fn s=some (pR fn r):=by
 unfold fin at h
 cases ho:mB base s with
 | false=>rw[ho] at h;cases h
 | true =>
  rw[ho,cond_true] at h
  have h:jJ base fn.results s=some r:=h
  unfold finish kU rj
  rw[ho,cond_true,KI h,h];rfl
def Qe(base:Nat)(fn:au)(P:AV × Option fz->Prop):bC->AS->Prop
 | .exit _,_=>False
 | _,s=>∃ r,finish base fn s=some r/\P r
theorem pa{f:FuncId}{fn:au}(ho:A.ov f=none)(hf:A.fns f=some fn){args:List AV}{H:ag}{P:AV × Option fz->Prop}(hn:Nat.beq args.length fn.np=true)
  (h:W A fn.body { T:=gn args,H,lo:=H.length,gen:=0 } (Qe H.length fn P)):∃ r,aA A f args H=some r/\P r:=by
 obtain⟨n,e,s',h1,h2⟩:=h
 have key:∀ r,finish H.length fn s'=some r->aA A f args H=some r:=by
  intro r hr
  refine sw ho hf (n:=n) ?_
  unfold td
  rw[hn,cond_true,h1,aiP]
  cases e with
  | exit i=>exact h2.elim
  | _=>exact hr
 cases e with
 | exit i=>exact h2.elim
 | _=>obtain⟨r,hr,hP⟩:=h2;exact⟨r,key r hr,hP⟩
theorem rO{fn:au}(hm:fn.muts.elem 777777=false)(r:AV × Option fz):pR fn r=r:=by unfold pR;rw[hm];rfl
theorem OC{fn:au}(hm:fn.muts.elem 777777=true)(r:AV × Option fz):pR fn r=(lV r.1,r.2):=by unfold pR;rw[hm];rfl
theorem xU{f:FuncId}{fn:au}(ho:A.ov f=none)(hf:A.fns f=some fn){args:List AV}{H:ag}{P:AV × Option fz->Prop}(hn:Nat.beq args.length fn.np=true)
  (h:W A fn.body { T:=gn args,H,lo:=H.length,gen:=0 } (ve H.length fn.results P)):∃ r,aA A f args H=some (pR fn r)/\P r:=by
 obtain⟨n,e,s',h1,h2⟩:=h
 have key:∀ r,fin H.length fn.results s'=some r->aA A f args H=some (pR fn r):=by
  intro r hr
  refine sw ho hf (n:=n) ?_
  unfold td
  rw[hn,cond_true,h1,aiP]
  cases e with
  | exit i=>exact h2.elim
  | _=>exact vw hr
 cases e with
 | exit i=>exact h2.elim
 | _=>obtain⟨r,hr,hP⟩:=h2;exact⟨r,key r hr,hP⟩
theorem Bn{f:FuncId}{fn:au}(ho:A.ov f=none)(hf:A.fns f=some fn){args:List AV}{H:ag}{P:AV × Option fz->Prop}(hn:Nat.beq args.length fn.np=true)
  (h:W A fn.body { T:=gn args,H,lo:=H.length,gen:=0 } (ve H.length fn.results P)) (hm:fn.muts.elem 777777=false:=by rfl):∃ r,aA A f args H=some r/\P r:=by
 obtain⟨r,h1,h2⟩:=xU ho hf hn h
 rw[rO hm] at h1
 exact⟨r,h1,h2⟩
theorem lg{f:FuncId}{fn:au}(ho:A.ov f=none)(hf:A.fns f=some fn){args:List AV}{H:ag}{P:AV × Option fz->Prop}(hn:Nat.beq args.length fn.np=true)
  (hm:fn.muts.elem 777777=true) (h:W A fn.body { T:=gn args,H,lo:=H.length,gen:=0 } (ve H.length fn.results fun r=>P (lV r.1,r.2))):∃ r,aA A f args H=some r/\P r:=by
 obtain⟨r,h1,h2⟩:=xU ho hf hn h
 rw[OC hm] at h1
 exact⟨_,h1,h2⟩
theorem KR{f:FuncId}{fn:au}(ho:A.ov f=none)(hf:A.fns f=some fn){args:List AV}{H:ag}{r:AV × Option fz}(hn:Nat.beq args.length fn.np=true)
  (h:W A fn.body { T:=gn args,H,lo:=H.length,gen:=0 } (done H.length fn.results r)):aA A f args H=some (pR fn r):=by
 obtain⟨n,e,s',h1,h2⟩:=h
 refine sw ho hf (n:=n) ?_
 unfold td
 rw[hn,cond_true,h1,aiP]
 cases e with
 | exit i=>exact h2.elim
 | _=>exact vw h2
theorem bb{f:FuncId}{fn:au}(ho:A.ov f=none)(hf:A.fns f=some fn){args:List AV}{H:ag}{r:AV × Option fz}(hn:Nat.beq args.length fn.np=true)
  (h:W A fn.body { T:=gn args,H,lo:=H.length,gen:=0 } (done H.length fn.results r)) (hm:fn.muts.elem 777777=false:=by rfl):aA A f args H=some r:=by
 have:=KR ho hf hn h
 rwa [rO hm] at this
end
section
variable {A:AP}{T:aC}{H:ag}{lo gen:Nat}{Q:bC->AS->Prop}{K:AS->Prop}{d:Bool}
theorem PL{a b:aZ} : W A (.seq a b) ⟨T,H,lo,gen⟩ Q=W A a ⟨T,H,lo,gen⟩ (andThen (fun s'=>W A b s' Q) Q):=Kv
theorem Us{i:Nat}{a:aZ} : W A (.block i a) ⟨T,H,lo,gen⟩ Q=W A a ⟨T,H,lo,gen⟩ (leave i Q):=ze
theorem Zf{c:ak}{a b:aZ} : W A (.cond c a b) ⟨T,H,lo,gen⟩ Q=xZ (c.eval A.aP T) (fun s=>W A a s Q) (fun s=>W A b s Q) ⟨T,H,lo,gen⟩:=Vq
theorem wZ{os:List az} : W A (.region d os) ⟨T,H,lo,gen⟩ Q=WO A d os ⟨T,H,lo,gen⟩ (Q .normal):=Ku
theorem Zl:W A .skip ⟨T,H,lo,gen⟩ Q=Q .normal ⟨T,H,lo,gen⟩:=Vs
theorem acE:W A .ret ⟨T,H,lo,gen⟩ Q=Q .ret ⟨T,H,lo,gen⟩:=ZK
theorem Zh{i:Nat} : W A (.exit i) ⟨T,H,lo,gen⟩ Q=Q (.exit i) ⟨T,H,lo,gen⟩:=Vr
theorem PK:WO A d [] ⟨T,H,lo,gen⟩ K=K ⟨T,H,lo,gen⟩:=Vp
theorem Zk{t:Nat}{v:AV} : AS.bz ⟨T,H,lo,gen⟩ t v=⟨T.put t v,H,lo,gen⟩:=rfl
theorem acC{h:ag}{l:Nat} : AS.dZ ⟨T,H,lo,gen⟩ ⟨h,l⟩=⟨T,h,cond (Nat.blt l lo) l lo,gen⟩:=rfl
theorem wY{P:AS->Prop} : andThen P Q .normal ⟨T,H,lo,gen⟩=P ⟨T,H,lo,gen⟩:=rfl
theorem Ze{P:AS->Prop} : andThen P Q .ret ⟨T,H,lo,gen⟩=Q .ret ⟨T,H,lo,gen⟩:=rfl
theorem Ur{P:AS->Prop}{i:Nat} : andThen P Q (.exit i) ⟨T,H,lo,gen⟩=Q (.exit i) ⟨T,H,lo,gen⟩:=rfl
theorem Zi{P:aC->Prop}{H' : ag}{lo' : Nat} : Ib P H' lo' ⟨T,H,lo,gen⟩=(P T/\H=H'/\lo=lo'):=rfl
theorem PI{i:Nat}{P V:AS->Prop} : Ex i P V (.exit i) ⟨T,H,lo,gen⟩=P ⟨T,H,lo,gen⟩:=propext ⟨fun h=>h.2,fun h=>⟨rfl,h⟩⟩
theorem Uu{i:Nat}{P V:AS->Prop} : Ex i P V .ret ⟨T,H,lo,gen⟩=V ⟨T,H,lo,gen⟩:=rfl
theorem acD{P:aC->Prop}{H' : ag}{lo' gen' : Nat} : Hd P H' lo' gen' ⟨T,H,lo,gen⟩=(P T/\H=H'/\lo=lo'/\gen=gen'):=rfl
theorem Zg{base:Nat}{rs:List fJ}{r:AV × Option fz} : done base rs r .ret ⟨T,H,lo,gen⟩=(fin base rs ⟨T,H,lo,gen⟩=some r):=rfl
theorem J6{base:Nat}{rs:List fJ}{r:AV × Option fz} : done base rs r .normal ⟨T,H,lo,gen⟩=(fin base rs ⟨T,H,lo,gen⟩=some r):=rfl
theorem Ut{base:Nat}{rs:List fJ}{P:AV × Option fz->Prop} : ve base rs P .ret ⟨T,H,lo,gen⟩=bn (fin base rs ⟨T,H,lo,gen⟩) P:=rfl
theorem Hc{base:Nat}{rs:List fJ}{P:AV × Option fz->Prop} : ve base rs P .normal ⟨T,H,lo,gen⟩=bn (fin base rs ⟨T,H,lo,gen⟩) P:=rfl
theorem J7{i:Nat} : leave i Q .normal ⟨T,H,lo,gen⟩=Q .normal ⟨T,H,lo,gen⟩:=rfl
theorem Zj{i:Nat} : leave i Q .ret ⟨T,H,lo,gen⟩=Q .ret ⟨T,H,lo,gen⟩:=rfl
theorem Uv{i:Nat} : leave i Q (.exit i) ⟨T,H,lo,gen⟩=Q .normal ⟨T,H,lo,gen⟩:=by simp[leave]
theorem PJ{i j:Nat} : leave i Q (.exit j) ⟨T,H,lo,gen⟩=if j=i then Q .normal ⟨T,H,lo,gen⟩ else Q (.exit j) ⟨T,H,lo,gen⟩:=by
 by_cases cU:j=i
 ·subst cU;rw[if_pos rfl];exact Uv
 rw[if_neg cU]
 have hb:Nat.beq j i=false:=by
  cases hb:Nat.beq j i with
  | false=>rfl
  | true=>exact absurd (ajG hb) cU
 simp[leave,hb]
end
theorem Bm{n:Nat} : Nat.beq n n=true:=akI n
theorem put_eq{T:aC}{d:Nat}{v:AV} : (T.put d v) d=v:=by simp[aC.put]
theorem Ye{T:aC}{d i:Nat}{v:AV}(h:(i==d)=false):(T.put d v) i=T i:=by
 have cU:i≠d:=by simpa using h
 have hb:Nat.beq i d=false:=by
  cases hb:Nat.beq i d with
  | false=>rfl
  | true=>exact absurd (ajG hb) cU
 simp only[aC.put,hb];rfl
theorem Ta{T:aC}{d i:Nat}{v:AV} : (T.put d v) i=if i=d then v else T i:=by
 by_cases h:i=d
 ·rw[if_pos h,h,put_eq]
 ·rw[if_neg h,Ye (by simpa using h)]
theorem Ge{a:AV}{l:List AV} : gn (a :: l) 0=a:=rfl
theorem Gd{a:AV}{l:List AV}{n:Nat} : gn (a :: l) (n+1)=gn l n:=by simp[gn]
end
section
def mA(o:az):Option Nat :=
 match o.op,o.guard with
 | .next (.tmp t),none=>some t
 | _,_=>none
section
variable (G:Nat->List AV)(cf:cC)
def pX:List az->AS->(AS->Prop)->Prop
 | [],s,Q=>Q s
 | o :: r,s,Q=>match mA o with
  | some t=>∃ g kz ka va cur todo,s.T t=.iter g kz ka va cur todo/\(todo=[]->pX r (s.ca o.dst (.tuple [.bool false])) Q) /\
    ∀ q rest,todo.Perm (q :: rest)->pX r ((s.bz t (.iter g kz ka va q rest)).ca o.dst (.tuple [.bool true,qe ka (q.take kz),qe va (q.drop kz)])) Q
  | none=>∃ s',bQ G cf false s o=some s'/\pX r s' Q
inductive BT where
 | leaf (v:AV)
 | node (l r:BT)
def BT.of(f:aC):Nat->Nat->BT
 | 0,o=>.leaf (f o)
 | k+1,o=>.node (BT.of f k o) (BT.of f k (o+2 ^ k))
def BT.get:BT->Nat->Nat->AV
 | .leaf v,_,_=>v
 | .node _ _,0,_=>.undef
 | .node l r,k+1,i=>cond (Nat.blt i (2 ^ k)) (BT.get l k i) (BT.get r k (i-2 ^ k))
def BE(nt:Nat):Nat:=Nat.log2 nt+1
def DB(nt:Nat)(t:BT):aC:=fun i=>cond (Nat.blt i nt) (BT.get t (BE nt) i) .undef
def uW(nt:Nat)(s:AS):AS:={ s with T:=DB nt (BT.of s.T (BE nt) 0) }
def qE(pre:List (List Nat))(L:Array Bool):List Nat:=(List.range pre.length).filter fun i=>!L.getD i true&&(pre.getD i []).all fun j=>L.getD j false
def PY(nt:Nat)(ops:List az)(pre:List (List Nat)):Nat->Array Bool->AS->(AS->Prop)->Prop
 | 0,L,s,Q=>qE pre L=[]/\Q s
 | n+1,L,s,Q=>(qE pre L=[]->Q s)/\∀ i∈qE pre L,∃ o s',ops[i]?=some o/\bQ G cf false s o=some s'/\PY nt ops pre n (L.setIfInBounds i true) (uW nt s') Q
def HP(F:AS->(bC->AS->Prop)->Prop):Nat->AS->(bC->AS->Prop)->Prop
 | 0,_,_=>False
 | n+1,s,Q=>F s (andThen (fun s'=>HP F n s' Q) Q)
def WN:aZ->AS->(bC->AS->Prop)->Prop
 | .skip,s,Q=>Q .normal s
 | .region false ops,s,Q=>pX G cf ops s (Q .normal)
 | .region true ops,s,Q=>∃ s',dT G cf true ops s=some s'/\Q .normal s'
 | .seq a b,s,Q=>WN a s (andThen (fun s'=>WN b s' Q) Q)
 | .cond c a b,s,Q=>∃ t,c.eval G s.T=.bool t/\(t=true->WN a s Q)/\(t=false->WN b s Q)
 | .block id a,s,Q=>WN a s (leave id Q)
 | .loop a,s,Q=>∃ n,HP (WN a) n s Q
 | .exit id,s,Q=>Q (.exit id) s
 | .ret,s,Q=>Q .ret s
 | .xd nt ops pre,s,Q=>PY G cf nt ops pre ops.length (Array.replicate ops.length false) (uW nt s) (Q .normal)
end
section
variable {P:Program}{G:Nat->List AV}{base nt:Nat}{gh:Gh}{w w' : World}{a:Act}{s:AS}{H:ag}{L:List Nat}
theorem GC{o:az}{t:Nat}(h:mA o=some t):o.op=.next (.tmp t)/\o.guard=none:=by
 unfold mA at h
 split at h
 ·rename_i h1 h2
  injection h with h
  subst h
  exact⟨h1,h2⟩
 ·cases h
def NN(x:Option dQ):Prop:=∀ it,x≠some (.next it)
theorem NN.none:NN none:=fun _ h=>by cases h
theorem NN.bind{α:Type}{x:Option α}{f:α->Option dQ}(h:∀ a,NN (f a)):NN (x.bind f):=by
 cases x with
 | none=>exact NN.none
 | some a=>exact h a
theorem NN.map{α:Type}{x:Option α}{f:α->dQ}(h:∀ a,NN (some (f a))):NN (x.map f):=by
 cases x with
 | none=>exact NN.none
 | some a=>exact h a
theorem NN.cond{b:Bool}{x y:Option dQ}(h1:NN x)(h2:NN y):NN (bif b then x else y):=by cases b<;>assumption
theorem NN.UD{b:Bool}{x y:dQ}(h1:NN (some x))(h2:NN (some y)):NN (some (bif b then x else y)):=by cases b<;>assumption
theorem NN.mT{bK:List Nat}{d:Option Nat}{g:ak}{ys:List ak} : NN (some (qX bK d g ys)):=by
 rw[qY];exact fun _ h=>by cases h
theorem xj{bK locals muts:List Nat}{d:Option Nat}{c:Call} : NN (qW P bK locals muts nt d c):=by
 unfold qW
 repeat' first
  | exact NN.mT
  | exact NN.none
  | exact fun _ h=>by cases h
  | refine NN.bind fun _=>?_
  | refine NN.map fun _=>?_
  | refine NN.cond ?_ ?_
  | refine NN.UD ?_ ?_
  | split
theorem BB{bK locals muts:List Nat}{d:Option Nat}{o:Op}{x:ak}(h:cr P bK locals muts nt d o=some (.next x)):∃ y,o=.next y false/\ah nt y=some x:=by
 have key:(∀ y b,o≠.next y b)->NN (cr P bK locals muts nt d o):=by
  intro hn
  cases o
  case makeMap t r =>
   cases r with
   | none=>simp only[cr];exact NN.map fun _ _ h=>by cases h
   | some r=>simp only[cr];exact NN.none
  all_goals simp only[cr]
  all_goals first
   | exact absurd rfl (hn _ _)
   | exact xj
   | (repeat' first
     | exact NN.none
     | exact fun _ h=>by cases h
     | refine NN.bind fun _=>?_
     | refine NN.map fun _=>?_
     | refine NN.cond ?_ ?_
     | refine NN.UD ?_ ?_
     | split)
 by_cases hn:∀ y b,o≠.next y b
 ·exact absurd h (key hn x)
 ·have:∃ y b,o=.next y b:=by
   refine Classical.byContradiction fun hc=>hn fun y b e=>hc ⟨y,b,e⟩
  obtain⟨y,b,rfl⟩:=this
  cases b with
  | true=>simp[cr] at h
  | false =>
   simp only[cr,aiE,dQ.next.injEq] at h
   obtain⟨z,hz,rfl⟩:=h
   exact⟨y,rfl,hz⟩
theorem la{cf:cC}(iv:dr P G cf){H0:ag}{gy:Gh}{w0:World}{bK locals muts:List Nat}{ops:Array Oper}(vD:∀ x,x∈locals->x∈L)(uG:∀ x,x∈muts->x∈L)(Q:Exit->Act->World->Prop)(R:AS->Prop)
  (hR:∀ s' a' aF w',R s'->Inv G base nt L H0 gy w0 s' aF w' a'->Q .normal a' w') :
  ∀ (l:List Oper) (is:List az) (s:AS) (gh:Gh) (w:World) (a:Act),Inv G base nt L H0 gy w0 s gh w a->fc P bK locals muts nt ops l=some is->pX G cf is s R->wpList P ops Q l a w
 | [],is,s,gh,w,a,hI,hc,he=>by
  simp only[fc,aiG] at hc
  subst hc
  exact hR s a gh w he hI
 | o :: l,is,s,gh,w,a,hI,hc,he=>by
  simp only[fc,aiF,aiE] at hc
  obtain⟨io,rz,ZI,DO,rfl⟩:=hc
  unfold pX at he
  unfold wpList
  have hinv:=iL rz
  cases hn:mA io with
  | none =>
   rw[hn] at he
   obtain⟨s1,h1,h2⟩:=he
   rw[lH,aiE] at h1
   obtain⟨⟨z,s2⟩,hz,rfl⟩:=h1
   refine mZ iv hI rz vD uG hz _ Q (fun a' aF w' jQ=>?_)
   rw[hinv.2.2.1] at h2
   exact la iv vD uG Q R hR l ZI _ aF w' a' jQ DO h2
  | some t =>
   rw[hn] at he
   obtain⟨g,kz,ka,va,cur,todo,hT,h0,h1⟩:=he
   obtain⟨cH,A6⟩:=GC hn
   rw[cH] at hinv
   obtain⟨y,hoy,vF⟩:=BB hinv.1
   have WJ:o.guard=none:=by
    have hg:=hinv.2.1
    rw[A6] at hg
    cases UT:o.guard with
    | none=>rfl
    | some jw =>
     obtain⟨j,want⟩:=jw
     rw[UT] at hg
     simp only[mR,aiF] at hg
     obtain⟨_,_,hg⟩:=hg
     obtain⟨_,hg⟩:=ab hg
     cases hg
   have hw:Region.wanted o (yielded ops a.tmps)=true:=by simp[Region.wanted,WJ]
   rw[if_pos hw]
   have htL:t∈L:=hI.F.obj t (by rw[hT];rfl)
   refine .inl (Qq hI.W hI.F hoy vF hT htL hinv.2.2.2 _ Q (fun Jh v' aF w' hO=>?_) (fun q rest hp v' aF w' hO=>?_))
   ·have:=h0 Jh
    rw[hinv.2.2.1] at this
    exact la iv vD uG Q R hR l ZI _ aF w' _ (hI.out hO hI.lo) DO this
   ·have:=h1 q rest hp
    rw[hinv.2.2.1] at this
    exact la iv vD uG Q R hR l ZI _ aF w' _ (hI.out hO (hI.lo.dM rfl rfl)) DO this
theorem ue{cf:cC} : ∀ (l:List az) (s:AS) (Q:AS->Prop),(∀ o,o∈l->mA o=none)->pX G cf l s Q->∃ s',dT G cf false l s=some s'/\Q s'
 | [],s,Q,_,h=>⟨s,rfl,h⟩
 | o :: l,s,Q,hn,h=>by
  have ho:=hn o ai8
  unfold pX at h
  rw[ho] at h
  obtain⟨s1,h1,h⟩:=h
  obtain⟨s2,h2,h3⟩:=ue l s1 Q (fun o ho=>hn o (ajZ _ ho)) h
  exact⟨s2,by simp only[dT,h1,aiP,h2],h3⟩
theorem oL{mode pc:Bool}{is:List az}{L:List Nat} : ∀ {l:List az} {es:List xM},mw mode pc is L l=some es->∀ o,o∈inter mode pc is L l->mA o=none
 | [],_,_,o,ho=>by cases ho
 | p :: l,es,h,o,ho=>by
  simp only[mw,aiF,aiE] at h
  obtain⟨e,he,rY,h',rfl⟩:=h
  have hp:mA (iD pc p)=none:=by
   obtain⟨d,g,op⟩:=p
   cases op<;>try rfl
   ·simp only[iD];cases pc<;>rfl
   ·simp[BP,x8] at he
  simp only[inter] at ho
  split at ho
  ·rcases aja.1 ho with rfl|ho
   ·rfl
   ·rcases aja.1 ho with rfl|ho
    ·exact hp
    ·exact oL h' o ho
  ·rcases aja.1 ho with rfl|ho
   ·exact hp
   ·exact oL h' o ho
theorem BT.F0(f:aC):∀ (k o i:Nat),i<2 ^ k->BT.get (BT.of f k o) k i=f (o+i)
 | 0,o,i,h=>by
  have:i=0:=by simp at h;exact h
  subst this;rfl
 | k+1,o,i,h=>by
  have h2:2 ^ (k+1)=2 ^ k+2 ^ k:=by rw[Nat.pow_succ];omega
  simp only[BT.of,BT.get]
  cases hb:Nat.blt i (2 ^ k) with
  | true =>
   rw[ajb] at hb
   rw[cond_true];exact BT.F0 f k o i hb
  | false =>
   have hn:¬ i<2 ^ k:=fun h=>by rw[<- ajb] at h;rw[h] at hb;cases hb
   rw[aiQ,BT.F0 f k (o+2 ^ k) (i-2 ^ k) (by omega)]
   congr 1;omega
theorem AU{nt:Nat}{T:aC}{i:Nat}(h:i<nt):DB nt (BT.of T (BE nt) 0) i=T i:=by
 have h1:Nat.blt i nt=true:=by rw[ajb];exact h
 unfold DB
 rw[h1,cond_true,BT.F0 _ _ _ _ (Nat.lt_trans h (by unfold BE;exact Nat.lt_log2_self)),Nat.zero_add]
theorem Ug{nt:Nat}{T:aC}{i:Nat}(h:nt<=i):DB nt (BT.of T (BE nt) 0) i=.undef:=by
 have h1:Nat.blt i nt=false:=by
  cases hb:Nat.blt i nt with
  | false=>rfl
  | true=>rw[ajb] at hb;omega
 unfold DB
 rw[h1];rfl
theorem SR.VG{n:Nat}{T T' : aC}{gen:Nat}{tm:Nat->Value}{i:Nat}{v:Value}{x:AV}(hT:∀ j,j<nt->T' j=T j)(h:SR gh n nt w T gen tm i v x):SR gh n nt w T' gen tm i v x:=by
 cases x
 case lref b g off=>obtain⟨h1,h2,h3⟩:=h;exact⟨h1,h2,fun e=>h3 (by rw[<- hT b h1];exact e)⟩
 case lsr b g=>obtain⟨h1,h2,h3⟩:=h;exact⟨h1,h2,fun e=>h3 (by rw[<- hT b h1];exact e)⟩
 case eref b g r z off=>obtain⟨h1,h2,h3⟩:=h;exact⟨h1,h2,fun e=>h3 (by rw[<- hT b h1];exact e)⟩
 all_goals exact h
theorem Inv.canon{H0:ag}{gy:Gh}{w0:World}(h:Inv G base nt L H0 gy w0 s gh w a):Inv G base nt L H0 gy w0 (uW nt s) gh w a:=by
 refine⟨h.W,⟨⟨h.F.defers,h.F.size,fun i hi=>?_⟩,fun i hi=>?_⟩,h.E,h.lo.dM rfl rfl⟩
 ·have h1:=h.F.slot i hi
  show SR gh s.H.length nt w (DB nt (BT.of s.T (BE nt) 0)) s.gen _ i _ (DB nt (BT.of s.T (BE nt) 0) i)
  rw[AU hi]
  exact h1.VG fun j hj=>AU hj
 ·by_cases a7:i<nt
  ·have:(uW nt s).T i=s.T i:=AU a7
   rw[this] at hi
   exact h.F.obj i hi
  ·have:(uW nt s).T i=.undef:=Ug (by omega)
   rw[this] at hi
   cases hi
theorem wo{ops:Array Oper}{L:Array Bool} : qE (ops.toList.map lE) L=Region.ready .any ops L:=by
 unfold qE Region.ready
 rw[show (ops.toList.map lE).length=ops.size by simp]
 refine List.filter_congr fun i hi=>?_
 have a7:i<ops.size:=by simpa using hi
 have e1:(ops.toList.map lE).getD i []=lE ops[i]:=by simp[ajf,a7]
 rw[e1,aiS a7]
 simp only[aiV,ajC,lE]
 congr 1
 rw[<- Array.all_toList,List.all_map,List.all_filter]
 rfl
theorem uR{cf:cC}(iv:dr P G cf){H0:ag}{gy:Gh}{w0:World}{bK locals muts:List Nat}{ops:Array Oper}(vD:∀ x,x∈locals->x∈L)(uG:∀ x,x∈muts->x∈L)(Q:Exit->Act->World->Prop)(R:AS->Prop)
  (hR:∀ s' a' aF w',R s'->Inv G base nt L H0 gy w0 s' aF w' a'->Q .normal a' w') {is:List az} (hc:fc P bK locals muts nt ops ops.toList=some is) :
  ∀ (n:Nat) (B:Array Bool) (s:AS) (gh:Gh) (w:World) (a:Act),Inv G base nt L H0 gy w0 s gh w a->PY G cf nt is (ops.toList.map lE) n B s R->wpAny P .any ops Q n B a w
 | 0,B,s,gh,w,a,hI,h=>⟨by rw[<- wo];exact h.1,hR s a gh w h.2 hI⟩
 | n+1,B,s,gh,w,a,hI,h=>by
  refine⟨fun e=>hR s a gh w (h.1 (by rw[wo];exact e)) hI,fun i hi=>?_⟩
  obtain⟨io,s1,rz,h1,h2⟩:=h.2 i (by rw[wo];exact hi)
  obtain⟨hlen,Cr⟩:=gJ hc
  unfold wpOp
  split
  ·rename_i hn
   exfalso
   have h3:=(aiI.1 rz).1
   have h4:ops.toList[i]?=none:=by simpa using hn
   have h5:=List.getElem?_eq_none_iff.1 h4
   omega
  ·rename_i o ho
   obtain⟨io',adS,bp⟩:=Cr i o (by simpa using ho)
   obtain rfl:io'=io:=ajI (adS.symm.trans rz)
   have hinv:=iL bp
   rw[lH,aiE] at h1
   obtain⟨⟨z,s2⟩,hz,rfl⟩:=h1
   refine mZ iv hI bp vD uG hz _ Q (fun a' aF w' jQ=>?_)
   rw[hinv.2.2.1] at h2
   exact uR iv vD uG Q R hR hc n _ _ aF w' a' jQ.canon h2
theorem kF{cf:cC}(iv:dr P G cf)(hm:P.follows .mixedOrders=true){H0:ag}{gy:Gh}{w0:World}{bK locals muts:List Nat} :
  ∀ (c:Code) (ic:aZ),dS P bK locals muts nt c=some ic->∀ (s:AS) (gh:Gh) (w:World) (a:Act) (Q:Exit->Act->World->Prop) (R:bC->AS->Prop),Inv G base nt (locals++muts) H0 gy w0 s gh w a->WN G cf ic s R ->
   (∀ e s' a' aF w',R e s'->Inv G base nt (locals++muts) H0 gy w0 s' aF w' a'->Q e.Hs a' w')->c.wp P Q a w
 | .skip,ic,hc,s,gh,w,a,Q,R,hI,he,hQ=>by
  simp only[dS,aiG] at hc
  subst hc
  exact wp_skip (hQ .normal s a gh w he hI)
 | .region id ops draw,ic,hc,s,gh,w,a,Q,R,hI,he,hQ=>by
  have UN:=hc
  simp only[dS,aiF] at hc
  obtain⟨is,DO,hc⟩:=hc
  cases Wq:cond draw (vf locals ops.toList is) none with
  | some c3 =>
   rw[Wq] at hc
   injection hc with hc
   subst hc
   obtain⟨rfl,mode,pc,es,h1,h2,rfl⟩:=vg Wq
   obtain⟨s2,h3,h4⟩:=ue _ _ _ (oL h1) he
   exact fQ iv hm 0 (.region id ops true) _ UN s s2 .normal gh w a Q hI (by simp only[gL,h3,aiV]) (fun a' aF w' jQ=>hQ .normal s2 a' aF w' h4 jQ)
  | none =>
  rw[Wq] at hc
  simp only at hc
  cases hb:(!draw || (!(locals.elem 999998)&&rP (locals++muts) (ops.toList.zip is))) with
  | false =>
   rw[hb,aiQ] at hc
   obtain⟨hdr,hc⟩:=ab hc
   injection hc with hc
   subst hc
   subst hdr
   have hl:ops.size=is.length:=by simpa using (gJ DO).1
   simp only[WN,<- hl] at he
   exact wp_region_any hm (uR iv (fun x hx=>aiM.2 (.inl hx)) (fun x hx=>aiM.2 (.inr hx)) Q (R .normal) (fun s' a' aF w' hr jQ=>hQ .normal s' a' aF w' hr jQ) DO _ _ _ gh _ a hI.drew.canon he)
  | true =>
  have h0:=hb
  rw[hb,cond_true] at hc
  injection hc with hc
  subst hc
  cases draw with
  | false=>exact wp_region_list (la iv (fun x hx=>aiM.2 (.inl hx)) (fun x hx=>aiM.2 (.inr hx)) Q (R .normal) (fun s' a' aF w' hr jQ=>hQ .normal s' a' aF w' hr jQ) ops.toList is s gh w a hI DO he)
  | true =>
   obtain⟨s',h1,h2⟩:=he
   exact fQ iv hm 0 (.region id ops true) _ UN s s' .normal gh w a Q hI (by simp only[gL,h1,aiV]) (fun a' aF w' jQ=>hQ .normal s' a' aF w' h2 jQ)
 | .seq x y,ic,hc,s,gh,w,a,Q,R,hI,he,hQ=>by
  simp only[dS,aiF,aiE] at hc
  obtain⟨ix,hx,iy,hy,rfl⟩:=hc
  refine wp_seq (kF iv hm x ix hx s gh w a _ _ hI he (fun e s' a' aF w' hr jQ=>?_))
  cases e with
  | normal=>exact kF iv hm y iy hy s' aF w' a' Q R jQ hr hQ
  | exit id=>exact hQ (.exit id) s' a' aF w' hr jQ
  | ret=>exact hQ .ret s' a' aF w' hr jQ
 | .cond c x y,ic,hc,s,gh,w,a,Q,R,hI,he,hQ=>by
  simp only[dS,aiF,aiE] at hc
  obtain⟨iq,hq,ix,hx,iy,hy,rfl⟩:=hc
  obtain⟨t,ht,h1,h2⟩:=he
  have hv:=(bS hI.W hI.F hq ht rfl).iw
  cases t with
  | true=>exact wp_cond_true hv (kF iv hm x ix hx s gh w a Q R hI (h1 rfl) hQ)
  | false=>exact wp_cond_false hv (kF iv hm y iy hy s gh w a Q R hI (h2 rfl) hQ)
 | .block id c,ic,hc,s,gh,w,a,Q,R,hI,he,hQ=>by
  simp only[dS,aiE] at hc
  obtain⟨ix,hx,rfl⟩:=hc
  refine wp_block (kF iv hm c ix hx s gh w a _ _ hI he (fun e s' a' aF w' hr jQ=>?_))
  cases e with
  | normal=>exact hQ .normal s' a' aF w' hr jQ
  | exit i =>
   show if i=id then Q .normal a' w' else Q (.exit i) a' w'
   simp only[leave,dU] at hr
   by_cases hi:i=id
   ·rw[if_pos hi];exact hQ .normal s' a' aF w' (by simpa [hi] using hr) jQ
   ·rw[if_neg hi];exact hQ (.exit i) s' a' aF w' (by simpa [hi] using hr) jQ
  | ret=>exact hQ .ret s' a' aF w' hr jQ
 | .loop c,ic,hc,s,gh,w,a,Q,R,hI,he,hQ=>by
  simp only[dS,aiE] at hc
  obtain⟨ix,hx,rfl⟩:=hc
  obtain⟨n,he⟩:=he
  have rounds:∀ (m:Nat) (s:AS) (gh:Gh) (w:World) (a:Act),Inv G base nt (locals++muts) H0 gy w0 s gh w a->HP (WN G cf ix) m s R->Code.rounds P c Q m a w:=by
   intro m
   induction m with
   | zero=>intro s gh w a _ h;exact h.elim
   | succ m ih =>
    intro s gh w a hI h
    rw[rounds_succ]
    refine kF iv hm c ix hx s gh w a _ _ hI h (fun e s' a' aF w' hr jQ=>?_)
    cases e with
    | normal=>exact ih s' aF w' a' jQ hr
    | exit id=>exact hQ (.exit id) s' a' aF w' hr jQ
    | ret=>exact hQ .ret s' a' aF w' hr jQ
  exact wp_loop_rounds n (rounds n s gh w a hI he)
 | .exit id,ic,hc,s,gh,w,a,Q,R,hI,he,hQ=>by
  simp only[dS,aiG] at hc
  subst hc
  exact wp_exit (hQ (.exit id) s a gh w he hI)
 | .ret,ic,hc,s,gh,w,a,Q,R,hI,he,hQ=>by
  simp only[dS,aiG] at hc
  subst hc
  exact wp_ret (hQ .ret s a gh w he hI)
 | .label l,ic,hc,s,gh,w,a,Q,R,hI,he,hQ=>by
  simp only[dS,aiG] at hc
  subst hc
  exact wp_label (hQ .normal s a gh w he hI)
 | .scope c,ic,hc,s,gh,w,a,Q,R,hI,he,hQ=>by
  simp only[dS] at hc
  refine wp_scope_straight (kF iv hm c ic hc s gh w a _ R hI he (fun e s' a' aF w' hr jQ=>?_))
  have:=hQ e s' a' aF w' hr jQ
  cases e<;>exact this
 | .rangeFunc _ _ _ _,_,hc,_,_,_,_,_,_,_,_,_=>by simp[dS] at hc
 | .goto _,_,hc,_,_,_,_,_,_,_,_,_=>by simp[dS] at hc
 | .refuse _,_,hc,_,_,_,_,_,_,_,_,_=>by simp[dS] at hc
end
end
section
def vM{α:Type}(x:α):List α->List (List α)
 | []=>[[x]]
 | y :: l=>(x :: y :: l) :: (vM x l).map (y :: ·)
def perms{α:Type} : List α->List (List α)
 | []=>[[]]
 | x :: l=>(perms l).flatMap (vM x)
theorem v7{α:Type}(x:α):∀ (a b:List α),a++x :: b∈vM x (a++b)
 | [],b=>by cases b<;>simp[vM]
 | y :: a,b=>by
  simp only[aj7,vM,aja,ai5]
  exact .inr ⟨_,v7 x a b,rfl⟩
theorem yH{α:Type} : ∀ {l m:List α},l.Perm m->m∈perms l
 | [],m,h=>by
  have:m=[]:=List.Perm.eq_nil h.symm
  rw[this];simp[perms]
 | x :: l,m,h=>by
  have hx:x∈m:=h.mem_iff.1 ai8
  obtain⟨a,b,rfl⟩:=List.append_of_mem hx
  have h2:l.Perm (a++b):=(h.trans List.perm_middle).cons_inv
  simp only[perms,ajL]
  exact⟨_,yH h2,v7 x a b⟩
def collect{α β:Type}(f:α->Option (List β)):List α->Option (List β)
 | []=>some []
 | x :: l=>(f x).bind fun a=>(collect f l).map (a++·)
theorem jn{α β:Type}{f:α->Option (List β)} : ∀ {xs:List α} {l:List β},collect f xs=some l->∀ x∈xs,∃ a,f x=some a/\∀ y∈a,y∈l
 | [],_,_,x,hx=>by cases hx
 | z :: xs,l,h,x,hx=>by
  simp only[collect,aiF,aiE] at h
  obtain⟨a,ha,b,hb,rfl⟩:=h
  rcases aja.1 hx with rfl|hx
  ·exact⟨a,ha,fun y hy=>aka _ hy⟩
  ·obtain⟨c,hc,hm⟩:=jn hb x hx
   exact⟨c,hc,fun y hy=>akG _ (hm y hy)⟩
theorem iJ{α β:Type}{f:α->Option (List β)} : ∀ {xs:List α} {l:List β},collect f xs=some l->∀ y∈l,∃ x∈xs,∃ a,f x=some a/\y∈a
 | [],_,h,y,hy=>by simp only[collect,aiG] at h;rw[<- h] at hy;cases hy
 | z :: xs,l,h,y,hy=>by
  simp only[collect,aiF,aiE] at h
  obtain⟨a,ha,b,hb,rfl⟩:=h
  rcases aiM.1 hy with hy|hy
  ·exact⟨z,ai8,a,ha,hy⟩
  ·obtain⟨x,hx,c,hc,hm⟩:=iJ hb y hy
   exact⟨x,ajZ _ hx,c,hc,hm⟩
mutual
def qf:AV->AV->Bool
 | .bool a,y=>match y with|.bool b=>a==b|_=>false
 | .int k a,y=>match y with|.int k' b=>k==k'&&a==b|_=>false
 | .str a,y=>match y with|.str b=>a==b|_=>false
 | .any,y=>match y with|.any=>true|_=>false
 | .cx,y=>match y with|.cx=>true|_=>false
 | .cw,y=>match y with|.cw=>true|_=>false
 | .bV,y=>match y with|.bV=>true|_=>false
 | .bt,y=>match y with|.bt=>true|_=>false
 | .ay,y=>match y with|.ay=>true|_=>false
 | .slice e o,y=>match y with|.slice f q=>um e f&&o==q|_=>false
 | .ref l o,y=>match y with|.ref l' o'=>l==l'&&o==o'|_=>false
 | .sref l o n z,y=>match y with|.sref l' o' n' z'=>l==l'&&o==o'&&n==n'&&z==z'|_=>false
 | .mref l,y=>match y with|.mref l'=>l==l'|_=>false
 | .agg a,y=>match y with|.agg b=>A4 a b|_=>false
 | .tuple a,y=>match y with|.tuple b=>A4 a b|_=>false
 | .iface t a,y=>match y with|.iface t' b=>t==t'&&qf a b|_=>false
 | .eptr a,y=>match y with|.eptr b=>A4 a b|_=>false
 | .lbox g a,y=>match y with|.lbox g' b=>g==g'&&A4 a b|_=>false
 | .lref s g o,y=>match y with|.lref s' g' o'=>s==s'&&g==g'&&o==o'|_=>false
 | .lsl g e,y=>match y with|.lsl g' f=>g==g'&&um e f|_=>false
 | .lsr s g,y=>match y with|.lsr s' g'=>s==s'&&g==g'|_=>false
 | .eref s g i z o,y=>match y with|.eref s' g' i' z' o'=>s==s'&&g==g'&&i==i'&&z==z'&&o==o'|_=>false
 | .dp kz ka va e,y=>match y with|.dp kH kG kQ f=>kz==kH&&ka==kG&&va==kQ&&um e f|_=>false
 | .mc kz ka va e,y=>match y with|.mc kH kG kQ f=>kz==kH&&ka==kG&&va==kQ&&um e f|_=>false
 | .iter g kz ka va c e,y=>match y with|.iter g' kH kG kQ c' f=>g==g'&&kz==kH&&ka==kG&&va==kQ&&A4 c c'&&um e f|_=>false
 | .func f a c,y=>match f,y with|.func n,.func (.func m) b d=>n==m&&A4 a b&&A4 c d|_,_=>false
def A4:List AV->List AV->Bool
 | [],y=>match y with|[]=>true|_=>false
 | a :: l,y=>match y with|b :: m=>qf a b&&A4 l m|_=>false
def um:List (List AV)->List (List AV)->Bool
 | [],y=>match y with|[]=>true|_=>false
 | a :: l,y=>match y with|b :: m=>A4 a b&&um l m|_=>false
end
mutual
theorem zQ:∀ (a b:AV),qf a b=true->a=b
 | .bool a,b,h=>by cases b<;>simp_all [qf]
 | .int k a,b,h=>by cases b<;>simp_all [qf]
 | .str a,b,h=>by cases b<;>simp_all [qf]
 | .any,b,h=>by cases b<;>simp_all [qf]
 | .cx,b,h=>by cases b<;>simp_all [qf]
 | .cw,b,h=>by cases b<;>simp_all [qf]
 | .bV,b,h=>by cases b<;>simp_all [qf]
 | .bt,b,h=>by cases b<;>simp_all [qf]
 | .ay,b,h=>by cases b<;>simp_all [qf]
 | .slice e o,b,h=>by
  cases b<;>simp[qf] at h
  rename_i f q
  rw[mj e f h.1,h.2]
 | .ref l o,b,h=>by cases b<;>simp_all [qf]
 | .sref l o n z,b,h=>by cases b<;>simp_all [qf]
 | .mref l,b,h=>by cases b<;>simp_all [qf]
 | .agg a,b,h=>by
  cases b<;>simp[qf] at h
  rename_i f
  rw[jU a f h]
 | .tuple a,b,h=>by
  cases b<;>simp[qf] at h
  rename_i f
  rw[jU a f h]
 | .iface t a,b,h=>by
  cases b<;>simp[qf] at h
  rename_i t' f
  rw[zQ a f h.2,h.1]
 | .eptr a,b,h=>by
  cases b<;>simp[qf] at h
  rename_i f
  rw[jU a f h]
 | .lbox g a,b,h=>by
  cases b<;>simp[qf] at h
  rename_i g' f
  rw[h.1,jU a f h.2]
 | .lref s g o,b,h=>by cases b<;>simp_all [qf]
 | .lsl g e,b,h=>by
  cases b<;>simp[qf] at h
  rename_i g' f
  rw[h.1,mj e f h.2]
 | .lsr s g,b,h=>by cases b<;>simp_all [qf]
 | .eref s g i z o,b,h=>by cases b<;>simp_all [qf]
 | .dp kz ka va e,b,h=>by
  cases b<;>simp[qf] at h
  rename_i kH kG kQ f
  rw[h.1.1.1,h.1.1.2,h.1.2,mj e f h.2]
 | .mc kz ka va e,b,h=>by
  cases b<;>simp[qf] at h
  rename_i kH kG kQ f
  rw[h.1.1.1,h.1.1.2,h.1.2,mj e f h.2]
 | .iter g kz ka va c e,b,h=>by
  cases b<;>simp[qf] at h
  rename_i g' kH kG kQ c' f
  rw[h.1.1.1.1.1,h.1.1.1.1.2,h.1.1.1.2,h.1.1.2,jU c c' h.1.2,mj e f h.2]
 | .func f a c,b,h=>by
  cases f<;>cases b<;>simp[qf] at h
  rename_i n f' b d
  cases f'<;>simp at h
  rename_i m
  rw[h.1.1,jU a b h.1.2,jU c d h.2]
theorem jU:∀ (a b:List AV),A4 a b=true->a=b
 | [],b,h=>by cases b<;>simp_all [A4]
 | x :: l,b,h=>by
  cases b with
  | nil=>simp[A4] at h
  | cons y m =>
   simp[A4] at h
   rw[zQ x y h.1,jU l m h.2]
theorem mj:∀ (a b:List (List AV)),um a b=true->a=b
 | [],b,h=>by cases b<;>simp_all [um]
 | x :: l,b,h=>by
  cases b with
  | nil=>simp[um] at h
  | cons y m =>
   simp[um] at h
   rw[jU x y h.1,mj l m h.2]
end
def eqO:de->de->Bool
 | .box t a,.box t' b=>t==t'&&A4 a b
 | .map kz ka va e,.map kH kG kQ f=>kz==kH&&ka==kG&&va==kQ&&um e f
 | .dp kz ka va e,.dp kH kG kQ f=>kz==kH&&ka==kG&&va==kQ&&um e f
 | .FL a,.FL b=>A4 a b
 | .dL a,.dL b=>A4 a b
 | .dead,.dead=>true
 | _,_=>false
def Qi:ag->ag->Bool
 | [],[]=>true
 | a :: l,b :: m=>eqO a b&&Qi l m
 | _,_=>false
def eqR(a b:AV × Option fz):Bool :=
 qf a.1 b.1&&match a.2,b.2 with
  | none,none=>true
  | some c,some d=>Qi c.heap d.heap&&c.lo==d.lo
  | _,_=>false
theorem VT{a b:de}(h:eqO a b=true):a=b:=by
 cases a<;>cases b<;>simp[eqO] at h
 ·rw[h.1,jU _ _ h.2]
 ·rw[h.1.1.1,h.1.1.2,h.1.2,mj _ _ h.2]
 ·rw[h.1.1.1,h.1.1.2,h.1.2,mj _ _ h.2]
 ·rw[jU _ _ h]
 ·rw[jU _ _ h]
 ·rfl
theorem zP:∀ {a b:ag},Qi a b=true->a=b
 | [],[],_=>rfl
 | [],_ :: _,h=>by simp[Qi] at h
 | _ :: _,[],h=>by simp[Qi] at h
 | x :: l,y :: m,h=>by
  simp only[Qi,aiL] at h
  rw[VT h.1,zP h.2]
theorem VV{a b:AV × Option fz}(h:eqR a b=true):a=b:=by
 obtain⟨v,c⟩:=a
 obtain⟨w,d⟩:=b
 simp only[eqR,aiL] at h
 obtain⟨h1,h2⟩:=h
 rw[zQ v w h1]
 cases c<;>cases d<;>simp at h2
 ·rfl
 ·rename_i c d
  obtain⟨c1,c2⟩:=c
  obtain⟨d1,d2⟩:=d
  simp only at h2
  rw[zP h2.1,h2.2]
structure CS where
 nt:Nat
 pJ:BT
 H:ag
 lo:Nat
 gen:Nat
def CS.DD(c:CS):AS:=⟨DB c.nt c.pJ,c.H,c.lo,c.gen⟩
def CS.abz(nt:Nat)(s:AS):CS:=⟨nt,BT.of s.T (BE nt) 0,s.H,s.lo,s.gen⟩
def VQ:BT->BT->Bool
 | .leaf v,y=>match y with|.leaf u=>qf v u|_=>false
 | .node l r,y=>match y with|.node l' r'=>VQ l l'&&VQ r r'|_=>false
theorem FC:∀ {a b:BT},VQ a b=true->a=b
 | .leaf v,.leaf u,h=>by rw[zQ v u h]
 | .leaf _,.node _ _,h=>by simp[VQ] at h
 | .node _ _,.leaf _,h=>by simp[VQ] at h
 | .node l r,.node l' r',h=>by
  simp only[VQ,aiL] at h
  rw[FC h.1,FC h.2]
def eqC(c d:CS):Bool:=c.nt==d.nt&&c.lo==d.lo&&c.gen==d.gen&&VQ c.pJ d.pJ&&Qi c.H d.H
theorem VS{c d:CS}(h:eqC c d=true):c=d:=by
 obtain⟨n1,v1,h1,l1,g1⟩:=c
 obtain⟨n2,v2,h2,l2,g2⟩:=d
 simp only[eqC,aiL,ajq] at h
 obtain⟨⟨⟨⟨k0,k1⟩,k2⟩,k3⟩,k4⟩:=h
 rw[k0,k1,k2,FC k3,zP k4]
def eqP(x y:Array Bool × CS):Bool:=x.1.toList==y.1.toList&&eqC x.2 y.2
theorem VU{x y:Array Bool × CS}(h:eqP x y=true):x=y:=by
 obtain⟨L,c⟩:=x
 obtain⟨M,d⟩:=y
 simp only[eqP,aiL,ajq] at h
 rw[Array.toList_inj.1 h.1,VS h.2]
def dedup:List (Array Bool × CS)->List (Array Bool × CS)
 | []=>[]
 | x :: l=>cond (l.any (eqP x)) (dedup l) (x :: dedup l)
theorem px:∀ {l:List (Array Bool × CS)} {x:Array Bool × CS},x∈l->x∈dedup l
 | y :: l,x,h=>by
  simp only[dedup]
  cases hb:l.any (eqP y) with
  | true =>
   simp only[cond_true]
   rcases aja.1 h with rfl|h
   ·obtain⟨z,hz,he⟩:=List.any_eq_true.1 hb
    rw[VU he];exact px hz
   ·exact px h
  | false =>
   simp only[aiQ]
   rcases aja.1 h with rfl|h
   ·exact ai8
   ·exact ajZ _ (px h)
theorem sB:∀ {l:List (Array Bool × CS)} {x:Array Bool × CS},x∈dedup l->x∈l
 | y :: l,x,h=>by
  simp only[dedup] at h
  cases hb:l.any (eqP y) with
  | true=>rw[hb,cond_true] at h;exact ajZ _ (sB h)
  | false =>
   rw[hb,aiQ] at h
   rcases aja.1 h with rfl|h
   ·exact ai8
   ·exact ajZ _ (sB h)
section
variable (G:Nat->List AV)(cf:cC)(nt:Nat)(ops:List az)(pre:List (List Nat))
def AR(x:Array Bool × CS):Option (List (Array Bool × CS)) :=
 match qE pre x.1 with
 | []=>none
 | i :: r=>collect (fun i=>(ops[i]?).bind fun o=>(bQ G cf false x.2.DD o).map fun s'=>[(x.1.setIfInBounds i true,CS.abz nt s')]) (i :: r)
def oW:Nat->List (Array Bool × CS)->Option (List CS)
 | 0,lv=>cond (lv.all fun x=>(qE pre x.1).isEmpty) (some (lv.map (·.2))) none
 | n+1,lv=>(collect (AR G cf nt ops pre) lv).bind fun l=>oW n (dedup l)
end
theorem Dq{G:Nat->List AV}{cf:cC}{nt:Nat}{ops:List az}{pre:List (List Nat)}{Q:AS->Prop} : ∀ (n:Nat) (lv:List (Array Bool × CS)) (res:List CS),oW G cf nt ops pre n lv=some res->(∀ c∈res,Q c.DD) ->
  ∀ x∈lv,PY G cf nt ops pre n x.1 x.2.DD Q
 | 0,lv,res,h,hQ,x,hx=>by
  simp only[oW] at h
  obtain⟨h0,h⟩:=ab h
  injection h with h
  subst h
  have:=aiO.1 h0 x hx
  exact⟨akQ.1 this,hQ _ (ai5.2 ⟨x,hx,rfl⟩)⟩
 | n+1,lv,res,h,hQ,x,hx=>by
  simp only[oW,aiF] at h
  obtain⟨l,h1,h2⟩:=h
  obtain⟨a,ha,hm⟩:=jn h1 x hx
  unfold AR at ha
  split at ha
  ·cases ha
  ·rename_i j r hr
   refine⟨(fun e=>by rw[hr] at e;cases e),fun i hi=>?_⟩
   rw[hr] at hi
   obtain⟨b,hb,hmb⟩:=jn ha i hi
   simp only[aiF,aiE] at hb
   obtain⟨o,ho,s',hs,rfl⟩:=hb
   refine⟨o,s',ho,hs,?_⟩
   exact Dq n _ res h2 hQ _ (px (hm _ (hmb _ ai8)))
section
variable (G:Nat->List AV)(cf:cC)
def Pu(s:AS)(t:Nat)(d:Option Nat)(g kz:Nat)(ka va:Bool)(q:List AV)(rest:List (List AV)):AS :=
 (s.bz t (.iter g kz ka va q rest)).ca d (.tuple [.bool true,qe ka (q.take kz),qe va (q.drop kz)])
def mr:List az->AS->Option (List AS)
 | [],s=>some [s]
 | o :: r,s=>match mA o with
  | some t=>match s.T t with
   | .iter g kz ka va _ todo=>match todo with
    | []=>mr r (s.ca o.dst (.tuple [.bool false]))
    | _ :: _=>collect (fun m=>match m with
     | q :: rest=>mr r (Pu s t o.dst g kz ka va q rest)
     | []=>some []) (perms todo)
   | _=>none
  | none=>(bQ G cf false s o).bind (mr r)
def pv(F:AS->Option (List (bC × AS))):Nat->AS->Option (List (bC × AS))
 | 0,_=>none
 | n+1,s=>(F s).bind (collect fun x=>match x.1 with
  | .normal=>pv F n x.2
  | _=>some [x])
def jT(n:Nat):aZ->AS->Option (List (bC × AS))
 | .skip,s=>some [(.normal,s)]
 | .region false ops,s=>(mr G cf ops s).map fun l=>l.map fun s'=>(.normal,s')
 | .region true ops,s=>(dT G cf true ops s).map fun s'=>[(.normal,s')]
 | .seq a b,s=>(jT n a s).bind (collect fun x=>match x.1 with
  | .normal=>jT n b x.2
  | _=>some [x])
 | .cond c a b,s=>match c.eval G s.T with
  | .bool true=>jT n a s
  | .bool false=>jT n b s
  | _=>none
 | .block id a,s=>(jT n a s).map fun l=>l.map fun x=>match x.1 with
  | .exit i=>(cond (Nat.beq i id) .normal (.exit i),x.2)
  | _=>x
 | .loop a,s=>pv (jT n a) n s
 | .exit id,s=>some [(.exit id,s)]
 | .ret,s=>some [(.ret,s)]
 | .xd nt ops pre,s=>(oW G cf nt ops pre ops.length [(Array.replicate ops.length false,CS.abz nt s)]).map fun l=>l.map fun c=>(.normal,c.DD)
end
section
variable {G:Nat->List AV}{cf:cC}
theorem o8:∀ (is:List az) (s:AS) (l:List AS) (Q:AS->Prop),mr G cf is s=some l->(∀ x∈l,Q x)->pX G cf is s Q
 | [],s,l,Q,h,hQ=>by
  simp only[mr,aiG] at h
  exact hQ s (by rw[<- h];exact ai8)
 | o :: r,s,l,Q,h,hQ=>by
  unfold mr at h
  unfold pX
  cases hn:mA o with
  | none =>
   rw[hn] at h
   simp only[aiF] at h
   obtain⟨s',h1,h2⟩:=h
   exact⟨s',h1,o8 r s' l Q h2 hQ⟩
  | some t =>
   rw[hn] at h
   simp only at h ⊢
   split at h
   ·rename_i g kz ka va cur todo hT
    refine⟨g,kz,ka,va,cur,todo,hT,fun h0=>?_,fun q rest hp=>?_⟩
    ·subst h0
     exact o8 r _ l Q h hQ
    ·cases todo with
     | nil=>exact absurd (List.Perm.nil_eq hp) (by simp)
     | cons z zs =>
      simp only at h
      obtain⟨a,ha,hm⟩:=jn h _ (yH hp)
      exact o8 r _ a Q ha fun x hx=>hQ x (hm x hx)
   ·cases h
theorem vO{F:AS->Option (List (bC × AS))}{W:AS->(bC->AS->Prop)->Prop}(hF:∀ s l Q,F s=some l->(∀ x∈l,Q x.1 x.2)->W s Q) :
  ∀ (n:Nat) (s:AS) (l:List (bC × AS)) (Q:bC->AS->Prop),pv F n s=some l->(∀ x∈l,Q x.1 x.2)->HP W n s Q
 | 0,_,_,_,h,_=>by cases h
 | n+1,s,l,Q,h,hQ=>by
  simp only[pv,aiF] at h
  obtain⟨l1,h1,h2⟩:=h
  refine hF s l1 _ h1 fun x hx=>?_
  obtain⟨a,ha,hm⟩:=jn h2 x hx
  obtain⟨e,s1⟩:=x
  cases e with
  | normal=>exact vO hF n s1 a Q ha fun y hy=>hQ y (hm y hy)
  | exit i=>injection ha with ha;subst ha;exact hQ _ (hm _ ai8)
  | ret=>injection ha with ha;subst ha;exact hQ _ (hm _ ai8)
theorem nw(n:Nat):∀ (c:aZ) (s:AS) (l:List (bC × AS)) (R:bC->AS->Prop),jT G cf n c s=some l->(∀ x∈l,R x.1 x.2)->WN G cf c s R
 | .skip,s,l,R,h,hR=>by
  simp only[jT,aiG] at h
  exact hR (.normal,s) (by rw[<- h];exact ai8)
 | .region false ops,s,l,R,h,hR=>by
  simp only[jT,aiE] at h
  obtain⟨l1,h1,rfl⟩:=h
  exact o8 ops s l1 _ h1 fun x hx=>hR (.normal,x) (ai5.2 ⟨x,hx,rfl⟩)
 | .region true ops,s,l,R,h,hR=>by
  simp only[jT,aiE] at h
  obtain⟨s1,h1,rfl⟩:=h
  exact⟨s1,h1,hR (.normal,s1) ai8⟩
 | .seq a b,s,l,R,h,hR=>by
  simp only[jT,aiF] at h
  obtain⟨l1,h1,h2⟩:=h
  refine nw n a s l1 _ h1 fun x hx=>?_
  obtain⟨d,hd,hm⟩:=jn h2 x hx
  obtain⟨e,s1⟩:=x
  cases e with
  | normal=>exact nw n b s1 d R hd fun y hy=>hR y (hm y hy)
  | exit i=>injection hd with hd;subst hd;exact hR _ (hm _ ai8)
  | ret=>injection hd with hd;subst hd;exact hR _ (hm _ ai8)
 | .cond c a b,s,l,R,h,hR=>by
  simp only[jT] at h
  split at h
  ·rename_i ht
   exact⟨true,ht,(fun _=>nw n a s l R h hR),(fun e=>by cases e)⟩
  ·rename_i ht
   exact⟨false,ht,(fun e=>by cases e),(fun _=>nw n b s l R h hR)⟩
  ·cases h
 | .block id a,s,l,R,h,hR=>by
  simp only[jT,aiE] at h
  obtain⟨l1,h1,rfl⟩:=h
  refine nw n a s l1 _ h1 fun x hx=>?_
  have:=hR _ (ai5.2 ⟨x,hx,rfl⟩)
  obtain⟨e,s1⟩:=x
  cases e<;>exact this
 | .loop a,s,l,R,h,hR=>⟨n,vO (fun s l Q h1 h2=>nw n a s l Q h1 h2) n s l R h hR⟩
 | .exit id,s,l,R,h,hR=>by
  simp only[jT,aiG] at h
  exact hR (.exit id,s) (by rw[<- h];exact ai8)
 | .ret,s,l,R,h,hR=>by
  simp only[jT,aiG] at h
  exact hR (.ret,s) (by rw[<- h];exact ai8)
 | .xd nt ops pre,s,l,R,h,hR=>by
  simp only[jT,aiE] at h
  obtain⟨l1,h1,rfl⟩:=h
  exact Dq ops.length _ l1 h1 (fun c hc=>hR (.normal,c.DD) (ai5.2 ⟨c,hc,rfl⟩)) _ ai8
end
section
variable {G:Nat->List AV}{cf:cC}{H:ag}(iv:∀ f args H r c,cf f args H=some (r,c)->ke H c)
include iv
theorem o7:∀ (is:List az) (s:AS) (l:List AS),mr G cf is s=some l->dI H s->∀ x∈l,dI H x
 | [],s,l,h,hI,x,hx=>by
  simp only[mr,aiG] at h
  rw[<- h] at hx
  rw[aiY.1 hx];exact hI
 | o :: r,s,l,h,hI,x,hx=>by
  unfold mr at h
  cases hn:mA o with
  | none =>
   rw[hn] at h
   simp only[aiF] at h
   obtain⟨s',h1,h2⟩:=h
   have h3:dT G cf false [o] s=some s':=by simp only[dT,h1,aiP]
   exact o7 r s' l h2 (oF iv [o] s s' h3 hI) x hx
  | some t =>
   rw[hn] at h
   simp only at h
   split at h
   ·rename_i g kz ka va cur todo hT
    cases todo with
    | nil=>exact o7 r _ l h (hI.dM (gS _ _ _).1 (gS _ _ _).2.2) x hx
    | cons z zs =>
     simp only at h
     obtain⟨m,_,a,ha,ZF⟩:=iJ h x hx
     cases m with
     | nil=>injection ha with ha;subst ha;cases ZF
     | cons q rest =>
      refine o7 r _ a ha ?_ x ZF
      unfold Pu
      exact (hI.dM (s':=s.bz t (.iter g kz ka va q rest)) rfl rfl).dM (gS _ _ _).1 (gS _ _ _).2.2
   ·cases h
omit iv in
theorem vN{F:AS->Option (List (bC × AS))}(hF:∀ s l,F s=some l->dI H s->∀ x∈l,dI H x.2):∀ (n:Nat) (s:AS) (l:List (bC × AS)),pv F n s=some l->dI H s->∀ x∈l,dI H x.2
 | 0,_,_,h,_,_,_=>by cases h
 | n+1,s,l,h,hI,x,hx=>by
  simp only[pv,aiF] at h
  obtain⟨l1,h1,h2⟩:=h
  obtain⟨y,hy,a,ha,ZF⟩:=iJ h2 x hx
  have W4:=hF s l1 h1 hI y hy
  obtain⟨e,s1⟩:=y
  cases e with
  | normal=>exact vN hF n s1 a ha W4 x ZF
  | exit i=>injection ha with ha;subst ha;rw[aiY.1 ZF];exact W4
  | ret=>injection ha with ha;subst ha;rw[aiY.1 ZF];exact W4
theorem yU{nt:Nat}{ops:List az}{pre:List (List Nat)} : ∀ (n:Nat) (lv:List (Array Bool × CS)) (res:List CS),oW G cf nt ops pre n lv=some res->(∀ x∈lv,dI H x.2.DD)->∀ c∈res,dI H c.DD
 | 0,lv,res,h,hI,c,hc=>by
  simp only[oW] at h
  obtain⟨_,h⟩:=ab h
  injection h with h
  subst h
  obtain⟨x,hx,rfl⟩:=ai5.1 hc
  exact hI x hx
 | n+1,lv,res,h,hI,c,hc=>by
  simp only[oW,aiF] at h
  obtain⟨l,h1,h2⟩:=h
  refine yU n _ res h2 (fun y hy=>?_) c hc
  obtain⟨x,hx,a,ha,hya⟩:=iJ h1 y (sB hy)
  unfold AR at ha
  split at ha
  ·cases ha
  ·obtain⟨i,_,b,hb,hyb⟩:=iJ ha y hya
   simp only[aiF,aiE] at hb
   obtain⟨o,_,s',hs,rfl⟩:=hb
   rw[aiY.1 hyb]
   have h3:dT G cf false [o] x.2.DD=some s':=by simp only[dT,hs,aiP]
   exact (oF iv [o] _ s' h3 (hI x hx)).dM rfl rfl
theorem nv(n:Nat):∀ (c:aZ) (s:AS) (l:List (bC × AS)),jT G cf n c s=some l->dI H s->∀ x∈l,dI H x.2
 | .skip,s,l,h,hI,x,hx=>by
  simp only[jT,aiG] at h
  rw[<- h] at hx;rw[aiY.1 hx];exact hI
 | .region false ops,s,l,h,hI,x,hx=>by
  simp only[jT,aiE] at h
  obtain⟨l1,h1,rfl⟩:=h
  obtain⟨y,hy,rfl⟩:=ai5.1 hx
  exact o7 iv ops s l1 h1 hI y hy
 | .region true ops,s,l,h,hI,x,hx=>by
  simp only[jT,aiE] at h
  obtain⟨s1,h1,rfl⟩:=h
  rw[aiY.1 hx];exact oF iv ops s s1 h1 hI
 | .seq a b,s,l,h,hI,x,hx=>by
  simp only[jT,aiF] at h
  obtain⟨l1,h1,h2⟩:=h
  obtain⟨y,hy,d,hd,hxd⟩:=iJ h2 x hx
  have W4:=nv n a s l1 h1 hI y hy
  obtain⟨e,s1⟩:=y
  cases e with
  | normal=>exact nv n b s1 d hd W4 x hxd
  | exit i=>injection hd with hd;subst hd;rw[aiY.1 hxd];exact W4
  | ret=>injection hd with hd;subst hd;rw[aiY.1 hxd];exact W4
 | .cond c a b,s,l,h,hI,x,hx=>by
  simp only[jT] at h
  split at h
  ·exact nv n a s l h hI x hx
  ·exact nv n b s l h hI x hx
  ·cases h
 | .block id a,s,l,h,hI,x,hx=>by
  simp only[jT,aiE] at h
  obtain⟨l1,h1,rfl⟩:=h
  obtain⟨y,hy,rfl⟩:=ai5.1 hx
  have:=nv n a s l1 h1 hI y hy
  obtain⟨e,s1⟩:=y
  cases e<;>exact this
 | .loop a,s,l,h,hI,x,hx=>vN (fun s l h1 h2=>nv n a s l h1 h2) n s l h hI x hx
 | .exit id,s,l,h,hI,x,hx=>by
  simp only[jT,aiG] at h
  rw[<- h] at hx;rw[aiY.1 hx];exact hI
 | .ret,s,l,h,hI,x,hx=>by
  simp only[jT,aiG] at h
  rw[<- h] at hx;rw[aiY.1 hx];exact hI
 | .xd nt ops pre,s,l,h,hI,x,hx=>by
  simp only[jT,aiE] at h
  obtain⟨l1,h1,rfl⟩:=h
  obtain⟨c,hc,rfl⟩:=ai5.1 hx
  refine yU iv ops.length _ l1 h1 (fun y hy=>?_) c hc
  rw[aiY.1 hy]
  exact hI.dM rfl rfl
end
def HV(base:Nat)(fn:au)(x:bC × AS):Option (AV × Option fz) :=
 match x.1 with
 | .exit _=>none
 | _=>finish base fn x.2
def oneOf(base:Nat)(fn:au):List (bC × AS)->Option (AV × Option fz)
 | []=>none
 | x :: l=>(HV base fn x).bind fun r=>cond (l.all fun y=>match HV base fn y with
  | some q=>eqR q r
  | none=>false) (some r) none
theorem JG{base:Nat}{fn:au}{l:List (bC × AS)}{r:AV × Option fz}(h:oneOf base fn l=some r):∀ x∈l,HV base fn x=some r:=by
 cases l with
 | nil=>cases h
 | cons y l =>
  simp only[oneOf,aiF] at h
  obtain⟨q,hq,h⟩:=h
  obtain⟨h0,h⟩:=ab h
  injection h with h
  subst h
  intro x hx
  rcases aja.1 hx with rfl|hx
  ·exact hq
  ·have:=aiO.1 h0 x hx
   split at this
   ·rename_i z hz
    rw[hz,VV this]
   ·cases this
def runN(G:Nat->List AV)(cf:cC)(n:Nat)(fn:au)(args:List AV)(H:ag):Option (AV × Option fz) :=
 cond (Nat.beq args.length fn.np) ((jT G cf n fn.body { T:=gn args,H,lo:=H.length,gen:=0 }).bind (oneOf H.length fn)) none
def BX(A:AP):Nat->cC
 | 0=>fun _ _ _=>none
 | n+1=>fun f args H=>match A.ov f with
  | some g=>cond (args.all pz) (g args H) none
  | none=>match A.fns f with
   | none=>none
   | some fn=>runN A.aP (BX A n) n fn args H
section
variable {P:Program}{G:Nat->List AV}{H:ag}
theorem G1{cf:cC}(iv:dr P G cf)(hm:P.follows .mixedOrders=true){f:FuncId}{fn:Func}(F5:P.funcs[f]?=some fn){bK locals muts:List Nat}{oh:au}(hc:mQ P bK locals muts fn=some oh)
  {n:Nat} {args:List AV} {r:AV} {c:Option fz} (he:runN G cf n oh args H=some (r,c)) :
  (fn.body.isSome=true/\fn.name≠ "runtime.NumGoroutine")/\ke H c /\
  ∀ (base:Nat) (gh:Gh) (w:World) (vs:Array Value),aG G base H gh w->clean gh->vs.size=args.length->(∀ (j:Nat) (v:Value) (x:AV),vs[j]?=some v->args[j]?=some x->CR gh H.length w (.par j) v x) ->
   Calls P f vs w fun e w'=>∃ v aF,e=.returned v/\kg G base H gh w r c v aF w':=by
 simp only[mQ,aiF] at hc
 obtain⟨code,tL,b,hb,rs,Cv,hc⟩:=hc
 obtain⟨h0,hc⟩:=ab hc
 injection hc with hc
 subst hc
 simp only[aiL,ajg,bne_iff_ne,ne_eq] at h0
 simp only[runN] at he
 obtain⟨h1,he⟩:=ab he
 have Wg:args.length=fn.params.size+fn.nfree:=by simpa [dU] using h1
 simp only[aiF] at he
 obtain⟨l,bc,he⟩:=he
 have fg:=JG he
 have pj:ke H c:=by
  have w5:=nv (H:=H) (fun f args H r c h=>(iv f args H r c h).2.1) n b _ l bc ⟨aiK _,aiK _,fun _ _=>rfl⟩
  cases l with
  | nil=>cases he
  | cons x l =>
   have h2:=fg x ai8
   have h3:=w5 x ai8
   obtain⟨ex,s'⟩:=x
   cases ex with
   | normal=>exact lJ h3 h2
   | exit id=>cases h2
   | ret=>exact lJ h3 h2
 refine⟨⟨by rw[tL];rfl,h0.2⟩,pj,fun base gh w vs hW iT sd bU=>?_⟩
 refine calls_of_wp F5 tL ?_
 have fC:vs.size<=fn.ntmps:=by omega
 have hI:=Cx (locals:=locals) (muts:=muts) hW sd fC bU
 refine kF iv hm code b hb _ gh.taken w _ _ _ hI (nw n b _ l (fun e s=>HV H.length { bK,locals,muts,nt:=fn.ntmps,np:=fn.params.size+fn.nfree,results:=rs,body:=b } (e,s)=some (r,c)) bc (fun x hx=>fg x hx)) (fun e s' a' aF w' hr jQ=>?_)
 cases e with
 | exit i=>cases hr
 | normal =>
  obtain⟨_,v,Lv,hv,hR⟩:=tc (P:=P) hW iT jQ Cv hr
  exact⟨jQ.F.defers,v,hv,v,Lv,rfl,hR⟩
 | ret =>
  obtain⟨_,v,Lv,hv,hR⟩:=tc (P:=P) hW iT jQ Cv hr
  exact⟨jQ.F.defers,v,hv,v,Lv,rfl,hR⟩
theorem yd{A:AP}(h:p8 P A):∀ n,dr P A.aP (BX A n)
 | 0=>fun f args H r c he=>by cases he
 | n+1=>fun f args H r c he=>by
  simp only[BX] at he
  split at he
  ·rename_i g hg
   obtain⟨h0,he⟩:=ab he
   obtain⟨k1,k2,k3⟩:=h.ov f g hg args H r c he
   refine⟨k1,k2,fun base gh w vs hW iT sd bU=>k3 base gh w vs hW iT sd (fun j v x hv hx=>?_)⟩
   rcases bU j v x hv hx with h|⟨e,rfl,_⟩
   ·exact h
   ·have:=aiO.1 h0 _ (aiT hx)
    simp[pz] at this
  ·split at he
   ·cases he
   ·rename_i oh hf
    obtain⟨fn,bK,locals,muts,F5,hc⟩:=h.fns f oh hf
    obtain⟨⟨h1,h2⟩,h3,h4⟩:=G1 (yd h n) h.mixed F5 hc he
    exact⟨⟨fn,F5,h1,h2⟩,h3,h4⟩
theorem VW{A:AP}(h:p8 P A)(n:Nat)(f:FuncId):iH P A.aP f (BX A n f):=by
 intro args H r c he
 obtain⟨k1,k2,k3⟩:=yd h n f args H r c he
 exact⟨k1,k2,fun base gh w vs hW iT sd bU=>k3 base gh w vs hW iT sd fun j v x hv hx=>.inl (bU j v x hv hx)⟩
end
end
structure sj where
 f:FuncId
 args:List AV
 heap:ag
 out:AV × Option fz
def Hv(f:FuncId)(args:List AV)(H:ag):List sj->Option (AV × Option fz)
 | []=>none
 | e :: r=>cond (Nat.beq e.f f&&A4 e.args args&&Qi e.heap H) (some e.out) (Hv f args H r)
def Om(tb:List sj)(cf:cC):cC:=fun f args H=>match Hv f args H tb with
 | some r=>some r
 | none=>cf f args H
theorem B9{cf:cC}{f:FuncId}{args:List AV}{H:ag}{r:AV × Option fz} : ∀ {tb:List sj},(∀ e∈tb,cf e.f e.args e.heap=some e.out)->Hv f args H tb=some r->cf f args H=some r
 | [],_,h=>by cases h
 | e :: tb,pn,h=>by
  simp only[Hv] at h
  cases hb:(Nat.beq e.f f&&A4 e.args args&&Qi e.heap H) with
  | true =>
   rw[hb] at h
   injection h with h
   simp only[aiL] at hb
   obtain⟨⟨h1,h2⟩,h3⟩:=hb
   have e1:e.f=f:=ajG h1
   have:=pn e (ai8 ..)
   rw[e1,jU _ _ h2,zP h3,h] at this
   exact this
  | false =>
   rw[hb] at h
   exact B9 (fun e he=>pn e (ajZ _ he)) h
theorem SK{cf:cC}{tb:List sj}(pn:∀ e∈tb,cf e.f e.args e.heap=some e.out):Om tb cf=cf:=by
 funext f args H
 unfold Om
 split
 ·rename_i r h;exact (B9 pn h).symm
 ·rfl
theorem K7{A:AP}{n:Nat}{f:FuncId}{fn:au}{args:List AV}{H:ag}{tb:List sj}(ho:A.ov f=none)(hf:A.fns f=some fn)(pn:∀ e∈tb,BX A n e.f e.args e.heap=some e.out) :
  BX A (n+1) f args H=runN A.aP (Om tb (BX A n)) n fn args H:=by
 rw[SK pn]
 simp only[BX,ho,hf]
end Go.Abs
