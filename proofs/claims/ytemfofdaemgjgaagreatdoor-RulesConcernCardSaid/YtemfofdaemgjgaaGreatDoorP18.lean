/-
  A part of the proof of RulesConcern: C4, C5, C6.
-/
import Derived.Test.YtemfofdaemgjgaaGreatDoorP17
set_option linter.unusedSimpArgs false
set_option linter.unusedVariables false
section
set_option linter.unusedSimpArgs false
set_option linter.unusedVariables false
set_option maxRecDepth 100000
namespace Go.Proofs.YtemfofdaemgjgaaGreatDoor
open Go Go.Abs Go.Proofs
def encProg (p:Prog):List AV:=[.slice (encMods p.mods) false,.slice (encDefs p.defs) false]
theorem fits0 {y:Id} : fitsRows 3 24 [] [[AV.int .i64 y.shop,.int .i64 y.seq,.int .i64 y.index]]=true:=rfl
theorem fitsN {l:List Id} {y:Id} (h:l.length≤2000000):fitsRows 3 24 (encIds l) [[AV.int .i64 y.shop,.int .i64 y.seq,.int .i64 y.index]]=true :=
 fits_ok ids_rows (ids_rows (l:=[y])) (by rw[ids_len];simp;omega) (by rw[ids_len];simp;omega)
theorem ids_snoc {l:List Id} {y:Id} : encIds l++[[AV.int .i64 y.shop,.int .i64 y.seq,.int .i64 y.index]]=encIds (l++[y]):=by simp[encIds,encId]
def HoldL (v:AV) (l:List Id):Prop:=(l=[]∧v=.nilsl)∨(l≠[]∧∃ g,v=.lsl g (encIds l))
theorem holdL_one {g:Nat} {l:List Id} {y:Id} (h:l=[]):HoldL (.lsl g [[AV.int .i64 y.shop,.int .i64 y.seq,.int .i64 y.index]]) (l++[y]):=by subst h;exact .inr ⟨by simp,g,rfl⟩
theorem holdL_more {g:Nat} {l:List Id} {y:Id} : HoldL (.lsl g (encIds (l++[y]))) (l++[y]):=.inr ⟨by simp,g,rfl⟩
def Hand (H:AHeap) (X:AV) (c:Option Chg) (l:List Id):Prop :=
 (l=[]∧X=.nilsl∧c=none)∨(l≠[]∧X=.sref H.length 0 l.length 3∧c=some ⟨H++[.box freeTy (encIds l).flatten],H.length⟩)
theorem modules_D (p:Prog) (hp:ProgB p) (x:Id) (H:AHeap):∃ r,callD A 25 [.agg (encProg p),.agg (encId x)] H=some r∧∃ X,r.1=.tuple [X,.bool (isOf p x)]∧Hand H X r.2 (modsOf p x):=by
 obtain⟨hm,hd,hs,hb⟩:=hp
 refine callD_Pub (fn:=ir25) rfl rfl rfl ?_
 unfold ir25;dsimp only[oQ,oP,iR,oM,oT,oL,oG,oH,oI,oF,oX,oA,oN,oS,oB,oR,oK,oC,iT,iC,iZ,iE]
 rw[encProg,encId]
 simp (disch:=omega) only[evO,↓reduceIte,Nat.reduceEqDiff,Nat.reduceBEq,Nat.reduceAdd,Nat.reduceMul,reduceCtorEq,Nat.reduceLeDiff,Int.reduceEq,Int.reduceLT,Int.reduceLE,Int.reduceBEq,Int.reduceBNe,Int.reduceAdd,Int.reduceNeg,Int.reduceSub,Int.reduceMul,mods_len]
 generalize hHH:H++[AObj.box 26 [AV.slice (encMods p.mods) false,AV.slice (encDefs p.defs) false],AObj.box 36 [AV.int IntKind.i64 x.shop,AV.int IntKind.i64 x.seq,AV.int IntKind.i64 x.index]]=HH
 have g0:HH[H.length]?=some (AObj.box 26 [AV.slice (encMods p.mods) false,AV.slice (encDefs p.defs) false]):=by rw[← hHH];simp
 have g1:HH[H.length+1]?=some (AObj.box 36 [AV.int IntKind.i64 x.shop,AV.int IntKind.i64 x.seq,AV.int IntKind.i64 x.index]):=by rw[← hHH];simp
 have gl:H.length+1<HH.length:=by rw[← hHH];simp
 have gt:HH.take H.length=H:=by rw[← hHH];simp
 refine W_countx p.mods.length 0 (fun i=>HdG (fun T=>T 2=.ref H.length 0∧T 3=.ref (H.length+1) 0∧HoldL (T 6) (((p.mods.take i).filter fun m=>m.id==x).map (fun _=>x))∧T 7=.bool ((p.mods.take i).any (fun m=>m.id==x))∧T 14=.slice (encMods p.mods) false∧T 15=.int .i64 p.mods.length∧T 16=.int .i64 i) HH H.length)
  (HdG (fun T=>T 2=.ref H.length 0∧T 3=.ref (H.length+1) 0∧HoldL (T 6) ((p.mods.filter fun m=>m.id==x).map (fun _=>x))∧T 7=.bool (p.mods.any (fun m=>m.id==x))) HH H.length) (fun _=>False) ?_ ?_ (fun _ h=>h.elim) 0 _ (by omega) ?_
 ·rintro i st hi hst
  obtain⟨T,g,rfl,h2,h3,h6,h7,h14,h15,h16⟩:=hst.out
  by_cases h:i<p.mods.length
  ·have hg:=mods_at (List.getElem?_eq_getElem h)
   have e1:((p.mods.take (i+1)).filter fun m=>m.id==x)=((p.mods.take i).filter fun m=>m.id==x)++(if p.mods[i].id==x then [p.mods[i]] else []):=by
    rw[take_snoc h,List.filter_append];congr 1;simp[List.filter_cons]
   have e2:(p.mods.take (i+1)).any (fun m=>m.id==x)=((p.mods.take i).any (fun m=>m.id==x) || p.mods[i].id==x):=by rw[take_snoc h,List.any_append];simp
   have hlen:(((p.mods.take i).filter fun m=>m.id==x).map (fun _=>x)).length≤1000000:=by
    rw[List.length_map];exact Nat.le_trans (List.length_filter_le _ _) (by rw[List.length_take];omega)
   generalize p.mods[i]=m at hg e1 e2
   rw[encMod] at hg
   have e3:((p.mods.take (i+1)).filter fun m=>m.id==x).map (fun _=>x)=((p.mods.take i).filter fun m=>m.id==x).map (fun _=>x)++(if m.id==x then [x] else []):=by
    rw[e1,List.map_append];cases (m.id==x)<;>rfl
   generalize ((p.mods.take (i+1)).filter fun m=>m.id==x).map (fun _=>x)=acc1 at e3
   generalize ((p.mods.take i).filter fun m=>m.id==x).map (fun _=>x)=acc at e3 h6 hlen
   cases hv:(m.id==x) with
   | true =>
    rw[hv] at e2 e3
    subst e3
    rcases h6 with ⟨hn,h6⟩|⟨hn,g6,h6⟩
    ·simp (disch:=omega) only[evO,↓reduceIte,Nat.reduceEqDiff,Nat.reduceBEq,Nat.reduceAdd,Nat.reduceMul,reduceCtorEq,Nat.reduceLeDiff,Int.reduceEq,Int.reduceLT,Int.reduceLE,Int.reduceBEq,Int.reduceBNe,Int.reduceAdd,Int.reduceNeg,Int.reduceSub,Int.reduceMul,h2,h3,h6,h7,h14,h15,h16,hg,g0,g1,storeAV,bin_flat,flat_id,hv,fits0]
     exact⟨h,holdL_one hn,by rw[e2];simp⟩
    ·simp (disch:=omega) only[evO,↓reduceIte,Nat.reduceEqDiff,Nat.reduceBEq,Nat.reduceAdd,Nat.reduceMul,reduceCtorEq,Nat.reduceLeDiff,Int.reduceEq,Int.reduceLT,Int.reduceLE,Int.reduceBEq,Int.reduceBNe,Int.reduceAdd,Int.reduceNeg,Int.reduceSub,Int.reduceMul,h2,h3,h6,h7,h14,h15,h16,hg,g0,g1,storeAV,bin_flat,flat_id,hv,fitsN,ids_snoc]
     exact⟨h,holdL_more,by rw[e2];simp⟩
   | false =>
    rw[hv] at e2 e3
    simp only[Bool.false_eq_true,if_false,List.append_nil] at e3
    subst e3
    simp (disch:=omega) only[evO,↓reduceIte,Nat.reduceEqDiff,Nat.reduceBEq,Nat.reduceAdd,Nat.reduceMul,reduceCtorEq,Nat.reduceLeDiff,Int.reduceEq,Int.reduceLT,Int.reduceLE,Int.reduceBEq,Int.reduceBNe,Int.reduceAdd,Int.reduceNeg,Int.reduceSub,Int.reduceMul,h2,h3,h7,h14,h15,h16,hg,g0,g1,storeAV,bin_flat,flat_id,hv]
    exact⟨h,h6,by rw[e2];simp⟩
  ·have:i=p.mods.length:=by omega
   subst this
   rw[List.take_length] at h6 h7
   simp (disch:=omega) only[evO,↓reduceIte,Nat.reduceEqDiff,Nat.reduceBEq,Nat.reduceAdd,Nat.reduceMul,reduceCtorEq,Nat.reduceLeDiff,Int.reduceEq,Int.reduceLT,Int.reduceLE,Int.reduceBEq,Int.reduceBNe,Int.reduceAdd,Int.reduceNeg,Int.reduceSub,Int.reduceMul,h2,h3,h7,h14,h15,h16]
   exact h6
 ·intro st hst
  obtain⟨T,g,rfl,h2,h3,h6,h7⟩:=hst.out
  simp (disch:=omega) only[evO,↓reduceIte,Nat.reduceEqDiff,Nat.reduceBEq,Nat.reduceAdd,Nat.reduceMul,reduceCtorEq,Nat.reduceLeDiff,Int.reduceEq,Int.reduceLT,Int.reduceLE,Int.reduceBEq,Int.reduceBNe,Int.reduceAdd,Int.reduceNeg,Int.reduceSub,Int.reduceMul,h2,h3,h7,g0,g1,defs_len]
  refine W_countx p.defs.length 2 (fun i=>HdG (fun T=>T 2=.ref H.length 0∧T 3=.ref (H.length+1) 0∧HoldL (T 6) ((p.mods.filter fun m=>m.id==x).map (fun _=>x)++((p.defs.take i).filter (inD x)).map (·.mod))∧T 7=.bool (p.mods.any (fun m=>m.id==x) || (p.defs.take i).any (ownD x))∧T 30=.slice (encDefs p.defs) false∧T 31=.int .i64 p.defs.length∧T 32=.int .i64 i) HH H.length)
   (HdG (fun T=>HoldL (T 6) (modsOf p x)∧T 7=.bool (isOf p x)) HH H.length) (fun _=>False) ?_ ?_ (fun _ h=>h.elim) 0 _ (by omega) ?_
  ·rintro i st hi hst
   obtain⟨T,g,rfl,h2,h3,h6,h7,h30,h31,h32⟩:=hst.out
   by_cases h:i<p.defs.length
   ·have hg:=defs_at (List.getElem?_eq_getElem h)
    have hmem:=List.getElem_mem h
    have e1:((p.defs.take (i+1)).filter (inD x))=((p.defs.take i).filter (inD x))++(if inD x p.defs[i] then [p.defs[i]] else []):=by
     rw[take_snoc h,List.filter_append];congr 1;simp[List.filter_cons]
    have e2:(p.defs.take (i+1)).any (ownD x)=((p.defs.take i).any (ownD x) || ownD x p.defs[i]):=by rw[take_snoc h,List.any_append];simp
    have hlen:((p.mods.filter fun m=>m.id==x).map (fun _=>x)++((p.defs.take i).filter (inD x)).map (·.mod)).length≤2000000:=by
     rw[List.length_append,List.length_map,List.length_map]
     have h1:=List.length_filter_le (fun m:Mod=>m.id==x) p.mods
     have h2:=List.length_filter_le (inD x) (p.defs.take i)
     rw[List.length_take] at h2;omega
    have hsl:=hs _ hmem
    have hbl:=hb _ hmem
    have hc:=containsS_D p.defs[i].slots (fun s=>s.id==x) 48 [.ref (H.length+1) 0] HH (by omega) (fun s _=>slotIs_D s x HH _ g1 gl)
    have hbd:=body_D p.defs[i] HH
    have hhs:=has_D _ p.defs[i].body x HH (Nat.lt_succ_self _) hbl
    generalize p.defs[i]=dd at hg e1 e2 hsl hbl hc hbd hhs
    rw[encDef] at hg hbd
    rw[encEx_eq,encId] at hhs
    have e3:ownD x dd=(dd.id==x || dd.slots.any fun s=>s.id==x):=rfl
    have e4:inD x dd=(ownD x dd || bodyD dd&&hasE x dd.body):=rfl
    have e5:(p.mods.any (fun m=>m.id==x) || (p.defs.take (i+1)).any (ownD x))=((p.mods.any (fun m=>m.id==x) || (p.defs.take i).any (ownD x)) || ownD x dd):=by rw[e2,Bool.or_assoc]
    have e6:(p.mods.filter fun m=>m.id==x).map (fun _=>x)++((p.defs.take (i+1)).filter (inD x)).map (·.mod)=((p.mods.filter fun m=>m.id==x).map (fun _=>x)++((p.defs.take i).filter (inD x)).map (·.mod))++(if inD x dd then [dd.mod] else []):=by
     rw[e1,List.map_append,List.append_assoc];cases (inD x dd)<;>rfl
    generalize (p.mods.filter fun m=>m.id==x).map (fun _=>x)++((p.defs.take (i+1)).filter (inD x)).map (·.mod)=acc1 at e6
    generalize (p.mods.filter fun m=>m.id==x).map (fun _=>x)++((p.defs.take i).filter (inD x)).map (·.mod)=acc at h6 hlen e6
    generalize (p.mods.any (fun m=>m.id==x) || (p.defs.take i).any (ownD x))=B at h7 e5
    cases b1:(dd.id==x) with
    | true =>
     rw[b1,Bool.true_or] at e3
     rw[e3,Bool.true_or] at e4
     rw[e3,Bool.or_true] at e5
     rw[e4] at e6
     subst e6
     rcases h6 with ⟨hn,h6⟩|⟨hn,g6,h6⟩<;>cases B <;>
     ·simp (disch:=omega) only[evO,↓reduceIte,Nat.reduceEqDiff,Nat.reduceBEq,Nat.reduceAdd,Nat.reduceMul,reduceCtorEq,Nat.reduceLeDiff,Int.reduceEq,Int.reduceLT,Int.reduceLE,Int.reduceBEq,Int.reduceBNe,Int.reduceAdd,Int.reduceNeg,Int.reduceSub,Int.reduceMul,h2,h3,h6,h7,h30,h31,h32,hg,g0,g1,storeAV,bin_flat,flat_id,b1,fits0,fitsN,ids_snoc]
      first|exact⟨h,holdL_one hn,by rw[e5]⟩|exact⟨h,holdL_more,by rw[e5]⟩
    | false =>
     rw[b1,Bool.false_or] at e3
     cases b2:(dd.slots.any fun s=>s.id==x) with
     | true =>
      rw[b2] at e3 hc
      rw[e3,Bool.true_or] at e4
      rw[e3,Bool.or_true] at e5
      rw[e4] at e6
      subst e6
      rcases h6 with ⟨hn,h6⟩|⟨hn,g6,h6⟩<;>cases B <;>
      ·simp (disch:=omega) only[evO,↓reduceIte,Nat.reduceEqDiff,Nat.reduceBEq,Nat.reduceAdd,Nat.reduceMul,reduceCtorEq,Nat.reduceLeDiff,Int.reduceEq,Int.reduceLT,Int.reduceLE,Int.reduceBEq,Int.reduceBNe,Int.reduceAdd,Int.reduceNeg,Int.reduceSub,Int.reduceMul,h2,h3,h6,h7,h30,h31,h32,hg,g0,g1,storeAV,bin_flat,flat_id,b1,hc,fits0,fitsN,ids_snoc]
       first|exact⟨h,holdL_one hn,by rw[e5]⟩|exact⟨h,holdL_more,by rw[e5]⟩
     | false =>
      rw[b2] at e3 hc
      rw[e3,Bool.false_or] at e4
      rw[e3,Bool.or_false] at e5
      cases b3:bodyD dd with
      | false =>
       rw[b3,Bool.false_and] at e4
       rw[b3] at hbd
       rw[e4] at e6
       simp only[Bool.false_eq_true,if_false,List.append_nil] at e6
       subst e6
       cases B <;>
       ·simp (disch:=omega) only[evO,↓reduceIte,Nat.reduceEqDiff,Nat.reduceBEq,Nat.reduceAdd,Nat.reduceMul,reduceCtorEq,Nat.reduceLeDiff,Int.reduceEq,Int.reduceLT,Int.reduceLE,Int.reduceBEq,Int.reduceBNe,Int.reduceAdd,Int.reduceNeg,Int.reduceSub,Int.reduceMul,h2,h3,h7,h30,h31,h32,hg,g0,g1,storeAV,bin_flat,flat_id,b1,hc,hbd]
        exact⟨h,h6,by rw[e5]⟩
      | true =>
       rw[b3,Bool.true_and] at e4
       rw[b3] at hbd
       rw[e4] at e6
       cases b4:hasE x dd.body with
       | true =>
        rw[b4] at hhs e6
        subst e6
        rcases h6 with ⟨hn,h6⟩|⟨hn,g6,h6⟩<;>cases B <;>
        ·simp (disch:=omega) only[evO,↓reduceIte,Nat.reduceEqDiff,Nat.reduceBEq,Nat.reduceAdd,Nat.reduceMul,reduceCtorEq,Nat.reduceLeDiff,Int.reduceEq,Int.reduceLT,Int.reduceLE,Int.reduceBEq,Int.reduceBNe,Int.reduceAdd,Int.reduceNeg,Int.reduceSub,Int.reduceMul,h2,h3,h6,h7,h30,h31,h32,hg,g0,g1,storeAV,bin_flat,flat_id,b1,hc,hbd,hhs,fits0,fitsN,ids_snoc]
         first|exact⟨h,holdL_one hn,by rw[e5]⟩|exact⟨h,holdL_more,by rw[e5]⟩
       | false =>
        rw[b4] at hhs e6
        simp only[Bool.false_eq_true,if_false,List.append_nil] at e6
        subst e6
        cases B <;>
        ·simp (disch:=omega) only[evO,↓reduceIte,Nat.reduceEqDiff,Nat.reduceBEq,Nat.reduceAdd,Nat.reduceMul,reduceCtorEq,Nat.reduceLeDiff,Int.reduceEq,Int.reduceLT,Int.reduceLE,Int.reduceBEq,Int.reduceBNe,Int.reduceAdd,Int.reduceNeg,Int.reduceSub,Int.reduceMul,h2,h3,h7,h30,h31,h32,hg,g0,g1,storeAV,bin_flat,flat_id,b1,hc,hbd,hhs]
         exact⟨h,h6,by rw[e5]⟩
   ·have:i=p.defs.length:=by omega
    subst this
    rw[List.take_length] at h6 h7
    simp (disch:=omega) only[evO,↓reduceIte,Nat.reduceEqDiff,Nat.reduceBEq,Nat.reduceAdd,Nat.reduceMul,reduceCtorEq,Nat.reduceLeDiff,Int.reduceEq,Int.reduceLT,Int.reduceLE,Int.reduceBEq,Int.reduceBNe,Int.reduceAdd,Int.reduceNeg,Int.reduceSub,Int.reduceMul,h2,h3,h7,h30,h31,h32]
    exact⟨h6,rfl⟩
  ·intro st hst
   obtain⟨T,g,rfl,h6,h7⟩:=hst.out
   rcases h6 with ⟨hn,h6⟩|⟨hn,g6,h6⟩
   ·simp (disch:=omega) only[evO,↓reduceIte,Nat.reduceEqDiff,Nat.reduceBEq,Nat.reduceAdd,Nat.reduceMul,reduceCtorEq,Nat.reduceLeDiff,Int.reduceEq,Int.reduceLT,Int.reduceLE,Int.reduceBEq,Int.reduceBNe,Int.reduceAdd,Int.reduceNeg,Int.reduceSub,Int.reduceMul,h6,h7,gt]
    refine⟨(.tuple [.nilsl,.bool (isOf p x)],none),fin_finish ?_,.nilsl,rfl,.inl ⟨hn,rfl,rfl⟩⟩
    simp (disch:=omega) only[evO,↓reduceIte,Nat.reduceEqDiff,Nat.reduceBEq,Nat.reduceAdd,Nat.reduceMul,reduceCtorEq,Nat.reduceLeDiff,Int.reduceEq,Int.reduceLT,Int.reduceLE,Int.reduceBEq,Int.reduceBNe,Int.reduceAdd,Int.reduceNeg,Int.reduceSub,Int.reduceMul,h6,h7,gt]
   ·simp (disch:=omega) only[evO,↓reduceIte,Nat.reduceEqDiff,Nat.reduceBEq,Nat.reduceAdd,Nat.reduceMul,reduceCtorEq,Nat.reduceLeDiff,Int.reduceEq,Int.reduceLT,Int.reduceLE,Int.reduceBEq,Int.reduceBNe,Int.reduceAdd,Int.reduceNeg,Int.reduceSub,Int.reduceMul,h6,h7,gt]
    refine⟨(.tuple [.sref H.length 0 (modsOf p x).length 3,.bool (isOf p x)],some ⟨H++[.box freeTy (encIds (modsOf p x)).flatten],H.length⟩),pub_finish ?_,.sref H.length 0 (modsOf p x).length 3,rfl,.inr ⟨hn,rfl,rfl⟩⟩
    have e1:(encIds (modsOf p x)).isEmpty=false:=by
     cases hq:modsOf p x with
     | nil=>exact absurd hq hn
     | cons a l=>rfl
    have e2:((encIds (modsOf p x)).all fun r=>r.all AV.plain)=true:=by simp[encIds,encId,AV.plain]
    have e3:rowW (encIds (modsOf p x))=3:=by
     cases hq:modsOf p x with
     | nil=>exact absurd hq hn
     | cons a l=>rfl
    simp (disch:=omega) only[evO,↓reduceIte,Nat.reduceEqDiff,Nat.reduceBEq,Nat.reduceAdd,Nat.reduceMul,reduceCtorEq,Nat.reduceLeDiff,Int.reduceEq,Int.reduceLT,Int.reduceLE,Int.reduceBEq,Int.reduceBNe,Int.reduceAdd,Int.reduceNeg,Int.reduceSub,Int.reduceMul,finPub,resPub,resRow,resOf,h6,h7,gt,Option.isNone_none,e1,e2,e3,ids_len]
  ·simp (disch:=omega) only[evO,↓reduceIte,Nat.reduceEqDiff,Nat.reduceBEq,Nat.reduceAdd,Nat.reduceMul,reduceCtorEq,Nat.reduceLeDiff,Int.reduceEq,Int.reduceLT,Int.reduceLE,Int.reduceBEq,Int.reduceBNe,Int.reduceAdd,Int.reduceNeg,Int.reduceSub,Int.reduceMul,Int.natCast_zero]
   simp[h2,h3,h6,h7]
 ·simp (disch:=omega) only[evO,↓reduceIte,Nat.reduceEqDiff,Nat.reduceBEq,Nat.reduceAdd,Nat.reduceMul,reduceCtorEq,Nat.reduceLeDiff,Int.reduceEq,Int.reduceLT,Int.reduceLE,Int.reduceBEq,Int.reduceBNe,Int.reduceAdd,Int.reduceNeg,Int.reduceSub,Int.reduceMul,Int.natCast_zero]
  simp[HoldL]
def ownedB (p:Prog) (x m:Id):Bool:=p.mods.any (fun d=>d.id==x&&x==m) || p.defs.any (fun d=>d.mod==m&&ownD x d)
def standsB (p:Prog) (x m:Id):Bool:=p.defs.any (fun d=>d.mod==m&&bodyD d&&hasE x d.body)
def existsB (p:Prog) (x:Id):Bool:=p.mods.any (fun d=>d.id==x) || p.defs.any (fun d=>ownedB p x d.mod)
theorem any_snoc {α:Type} {l:List α} {i:Nat} (q:α→Bool) (h:i<l.length):(l.take (i+1)).any q=((l.take i).any q || q l[i]):=by rw[take_snoc h,List.any_append];simp
theorem any_at {α:Type} {l:List α} {i:Nat} (q:α→Bool) (h:i<l.length) (hq:q l[i]=true):l.any q=true:=List.any_eq_true.2 ⟨_,List.getElem_mem h,hq⟩
theorem owned_D (p:Prog) (hp:ProgB p) (x m:Id) (H:AHeap):callD A 52 [.agg (encProg p),.agg (encId x),.agg (encId m)] H=some (.bool (ownedB p x m),none):=by
 obtain⟨hm,hd,hs,hb⟩:=hp
 refine callD_W (fn:=ir52) rfl rfl rfl ?_
 unfold ir52;dsimp only[oQ,oP,iR,oM,oT,oL,oG,oH,oI,oF,oX,oA,oN,oS,oB,oR,oK,oC,iT,iC,iZ,iE]
 rw[encProg,encId,encId]
 simp (disch:=omega) only[evO,↓reduceIte,Nat.reduceEqDiff,Nat.reduceBEq,Nat.reduceAdd,Nat.reduceMul,reduceCtorEq,Nat.reduceLeDiff,Int.reduceEq,Int.reduceLT,Int.reduceLE,Int.reduceBEq,Int.reduceBNe,Int.reduceAdd,Int.reduceNeg,Int.reduceSub,Int.reduceMul,mods_len]
 generalize hHH:H++[AObj.box 26 [AV.slice (encMods p.mods) false,AV.slice (encDefs p.defs) false],AObj.box 36 [AV.int IntKind.i64 x.shop,AV.int IntKind.i64 x.seq,AV.int IntKind.i64 x.index],AObj.box 36 [AV.int IntKind.i64 m.shop,AV.int IntKind.i64 m.seq,AV.int IntKind.i64 m.index]]=HH
 have g0:HH[H.length]?=some (AObj.box 26 [AV.slice (encMods p.mods) false,AV.slice (encDefs p.defs) false]):=by rw[← hHH];simp
 have g1:HH[H.length+1]?=some (AObj.box 36 [AV.int IntKind.i64 x.shop,AV.int IntKind.i64 x.seq,AV.int IntKind.i64 x.index]):=by rw[← hHH];simp
 have g2:HH[H.length+2]?=some (AObj.box 36 [AV.int IntKind.i64 m.shop,AV.int IntKind.i64 m.seq,AV.int IntKind.i64 m.index]):=by rw[← hHH];simp
 have gt:HH.take H.length=H:=by rw[← hHH];simp
 refine W_countx p.mods.length 0 (fun i=>HdG (fun T=>T 3=.ref H.length 0∧T 4=.ref (H.length+1) 0∧T 5=.ref (H.length+2) 0∧T 7=.int .i64 i∧(p.mods.take i).any (fun d=>d.id==x&&x==m)=false) HH H.length)
  (HdG (fun T=>T 3=.ref H.length 0∧T 4=.ref (H.length+1) 0∧T 5=.ref (H.length+2) 0∧p.mods.any (fun d=>d.id==x&&x==m)=false) HH H.length) (HdG (fun T=>T 6=.bool true∧ownedB p x m=true) HH H.length) ?_ ?_ ?_ 0 _ (by omega) ?_
 ·rintro i st hi hst
  obtain⟨T,g,rfl,h3,h4,h5,h7,hc⟩:=hst.out
  by_cases h:i<p.mods.length
  ·have hg:=mods_at (List.getElem?_eq_getElem h)
   have e1:=any_snoc (fun d:Mod=>d.id==x&&x==m) h
   have e2:=fun hq=>any_at (fun d:Mod=>d.id==x&&x==m) h hq
   generalize p.mods[i]=d at hg e1 e2
   rw[encMod] at hg
   cases b1:(d.id==x) with
   | false =>
    simp (disch:=omega) only[evO,↓reduceIte,Nat.reduceEqDiff,Nat.reduceBEq,Nat.reduceAdd,Nat.reduceMul,reduceCtorEq,Nat.reduceLeDiff,Int.reduceEq,Int.reduceLT,Int.reduceLE,Int.reduceBEq,Int.reduceBNe,Int.reduceAdd,Int.reduceNeg,Int.reduceSub,Int.reduceMul,h3,h4,h5,h7,mods_len,hg,g0,g1,g2,bin_flat,flat_id,b1]
    refine⟨h,?_⟩
    rw[e1,hc,b1];rfl
   | true =>
    cases b2:(x==m) with
    | false =>
     simp (disch:=omega) only[evO,↓reduceIte,Nat.reduceEqDiff,Nat.reduceBEq,Nat.reduceAdd,Nat.reduceMul,reduceCtorEq,Nat.reduceLeDiff,Int.reduceEq,Int.reduceLT,Int.reduceLE,Int.reduceBEq,Int.reduceBNe,Int.reduceAdd,Int.reduceNeg,Int.reduceSub,Int.reduceMul,h3,h4,h5,h7,mods_len,hg,g0,g1,g2,bin_flat,flat_id,b1,b2]
     refine⟨h,?_⟩
     first|(rw[e1,hc,b1,b2];rfl)|simp
    | true =>
     simp (disch:=omega) only[evO,↓reduceIte,Nat.reduceEqDiff,Nat.reduceBEq,Nat.reduceAdd,Nat.reduceMul,reduceCtorEq,Nat.reduceLeDiff,Int.reduceEq,Int.reduceLT,Int.reduceLE,Int.reduceBEq,Int.reduceBNe,Int.reduceAdd,Int.reduceNeg,Int.reduceSub,Int.reduceMul,h3,h4,h5,h7,mods_len,hg,g0,g1,g2,bin_flat,flat_id,b1,b2]
     rw[ownedB,e2 (by rw[b1,b2];rfl),Bool.true_or]
  ·have:i=p.mods.length:=by omega
   subst this
   rw[List.take_length] at hc
   simp (disch:=omega) only[evO,↓reduceIte,Nat.reduceEqDiff,Nat.reduceBEq,Nat.reduceAdd,Nat.reduceMul,reduceCtorEq,Nat.reduceLeDiff,Int.reduceEq,Int.reduceLT,Int.reduceLE,Int.reduceBEq,Int.reduceBNe,Int.reduceAdd,Int.reduceNeg,Int.reduceSub,Int.reduceMul,h3,h4,h5,h7,mods_len,g0,g1,g2]
   exact hc
 ·intro st hst
  obtain⟨T,g,rfl,h3,h4,h5,hc0⟩:=hst.out
  simp (disch:=omega) only[evO,↓reduceIte,Nat.reduceEqDiff,Nat.reduceBEq,Nat.reduceAdd,Nat.reduceMul,reduceCtorEq,Nat.reduceLeDiff,Int.reduceEq,Int.reduceLT,Int.reduceLE,Int.reduceBEq,Int.reduceBNe,Int.reduceAdd,Int.reduceNeg,Int.reduceSub,Int.reduceMul,h3,h4,h5]
  refine W_countx p.defs.length 2 (fun i=>HdG (fun T=>T 3=.ref H.length 0∧T 4=.ref (H.length+1) 0∧T 5=.ref (H.length+2) 0∧T 8=.int .i64 i∧(p.defs.take i).any (fun d=>d.mod==m&&ownD x d)=false) HH H.length)
   (HdG (fun T=>ownedB p x m=false) HH H.length) (HdG (fun T=>T 6=.bool true∧ownedB p x m=true) HH H.length) ?_ ?_ ?_ 0 _ (by omega) ?_
  ·rintro i st hi hst
   obtain⟨T,g,rfl,h3,h4,h5,h8,hc⟩:=hst.out
   by_cases h:i<p.defs.length
   ·have hg:=defs_at (List.getElem?_eq_getElem h)
    have e1:=any_snoc (fun d:Def=>d.mod==m&&ownD x d) h
    have e2:=fun hq=>any_at (fun d:Def=>d.mod==m&&ownD x d) h hq
    have hsl:=hs _ (List.getElem_mem h)
    have yes:(p.defs[i].mod==m&&ownD x p.defs[i])=true→ownedB p x m=true:=fun hq=>by rw[ownedB,e2 hq,Bool.or_true]
    generalize p.defs[i]=d at hg e1 hsl yes
    rw[encDef] at hg
    cases b1:(d.mod==m) with
    | false =>
     simp (disch:=omega) only[evO,↓reduceIte,Nat.reduceEqDiff,Nat.reduceBEq,Nat.reduceAdd,Nat.reduceMul,reduceCtorEq,Nat.reduceLeDiff,Int.reduceEq,Int.reduceLT,Int.reduceLE,Int.reduceBEq,Int.reduceBNe,Int.reduceAdd,Int.reduceNeg,Int.reduceSub,Int.reduceMul,h3,h4,h5,h8,defs_len,hg,g0,g1,g2,storeAV,bin_flat,flat_id,b1]
     refine⟨h,?_⟩
     rw[e1,hc,b1];rfl
    | true =>
     rw[b1,Bool.true_and] at e1 yes
     cases b2:(d.id==x) with
     | true =>
      simp (disch:=omega) only[evO,↓reduceIte,Nat.reduceEqDiff,Nat.reduceBEq,Nat.reduceAdd,Nat.reduceMul,reduceCtorEq,Nat.reduceLeDiff,Int.reduceEq,Int.reduceLT,Int.reduceLE,Int.reduceBEq,Int.reduceBNe,Int.reduceAdd,Int.reduceNeg,Int.reduceSub,Int.reduceMul,h3,h4,h5,h8,defs_len,hg,g0,g1,g2,storeAV,bin_flat,flat_id,b1,b2]
      exact yes (by rw[ownD,b2,Bool.true_or])
     | false =>
      simp (disch:=omega) only[evO,↓reduceIte,Nat.reduceEqDiff,Nat.reduceBEq,Nat.reduceAdd,Nat.reduceMul,reduceCtorEq,Nat.reduceLeDiff,Int.reduceEq,Int.reduceLT,Int.reduceLE,Int.reduceBEq,Int.reduceBNe,Int.reduceAdd,Int.reduceNeg,Int.reduceSub,Int.reduceMul,h3,h4,h5,h8,defs_len,hg,g0,g1,g2,storeAV,bin_flat,flat_id,b1,b2]
      have e3:ownD x d=d.slots.any (fun s=>s.id==x):=by rw[ownD,b2,Bool.false_or]
      rw[e3] at e1 yes
      refine W_countx d.slots.length 4 (fun k=>HdG (fun T=>∃ g,T 3=.ref H.length 0∧T 4=.ref (H.length+1) 0∧T 5=.ref (H.length+2) 0∧T 8=.int .i64 i∧T 9=.lbox g (encDef d)∧T 10=.int .i64 k∧(d.slots.take k).any (fun s=>s.id==x)=false) HH H.length)
       (HdG (fun T=>T 3=.ref H.length 0∧T 4=.ref (H.length+1) 0∧T 5=.ref (H.length+2) 0∧T 8=.int .i64 i∧d.slots.any (fun s=>s.id==x)=false) HH H.length) (HdG (fun T=>T 6=.bool true∧ownedB p x m=true) HH H.length) ?_ ?_ ?_ 0 _ (by omega) ?_
      ·rintro k st hk hst
       obtain⟨T,g',rfl,g,h3,h4,h5,h8,h9,h10,hck⟩:=hst.out
       rw[encDef] at h9
       by_cases hk' : k<d.slots.length
       ·have hgk:=slots_at (List.getElem?_eq_getElem hk')
        have f1:=any_snoc (fun s:Slot=>s.id==x) hk'
        have f2:=fun hq=>any_at (fun s:Slot=>s.id==x) hk' hq
        generalize d.slots[k]=s at hgk f1 f2
        rw[encSlot] at hgk
        cases b3:(s.id==x) with
        | true =>
         simp (disch:=omega) only[evO,↓reduceIte,Nat.reduceEqDiff,Nat.reduceBEq,Nat.reduceAdd,Nat.reduceMul,reduceCtorEq,Nat.reduceLeDiff,Int.reduceEq,Int.reduceLT,Int.reduceLE,Int.reduceBEq,Int.reduceBNe,Int.reduceAdd,Int.reduceNeg,Int.reduceSub,Int.reduceMul,h3,h4,h5,h8,h9,h10,slots_len,hgk,g0,g1,g2,bin_flat,flat_id,b3]
         exact yes (f2 b3)
        | false =>
         simp (disch:=omega) only[evO,↓reduceIte,Nat.reduceEqDiff,Nat.reduceBEq,Nat.reduceAdd,Nat.reduceMul,reduceCtorEq,Nat.reduceLeDiff,Int.reduceEq,Int.reduceLT,Int.reduceLE,Int.reduceBEq,Int.reduceBNe,Int.reduceAdd,Int.reduceNeg,Int.reduceSub,Int.reduceMul,h3,h4,h5,h8,h9,h10,slots_len,hgk,g0,g1,g2,bin_flat,flat_id,b3,encDef]
         refine⟨hk',g,rfl,?_⟩
         rw[f1,hck,b3];rfl
       ·have:k=d.slots.length:=by omega
        subst this
        rw[List.take_length] at hck
        simp (disch:=omega) only[evO,↓reduceIte,Nat.reduceEqDiff,Nat.reduceBEq,Nat.reduceAdd,Nat.reduceMul,reduceCtorEq,Nat.reduceLeDiff,Int.reduceEq,Int.reduceLT,Int.reduceLE,Int.reduceBEq,Int.reduceBNe,Int.reduceAdd,Int.reduceNeg,Int.reduceSub,Int.reduceMul,h3,h4,h5,h8,h9,h10,slots_len,g0,g1,g2]
        exact hck
      ·intro st hst
       obtain⟨T,g',rfl,h3,h4,h5,h8,hck⟩:=hst.out
       simp (disch:=omega) only[evO,↓reduceIte,Nat.reduceEqDiff,Nat.reduceBEq,Nat.reduceAdd,Nat.reduceMul,reduceCtorEq,Nat.reduceLeDiff,Int.reduceEq,Int.reduceLT,Int.reduceLE,Int.reduceBEq,Int.reduceBNe,Int.reduceAdd,Int.reduceNeg,Int.reduceSub,Int.reduceMul,h3,h4,h5,h8]
       refine⟨h,?_⟩
       rw[e1,hc,hck];rfl
      ·intro st hst
       obtain⟨T,g',rfl,h6,hck⟩:=hst.out
       simp (disch:=omega) only[evO,↓reduceIte,Nat.reduceEqDiff,Nat.reduceBEq,Nat.reduceAdd,Nat.reduceMul,reduceCtorEq,Nat.reduceLeDiff,Int.reduceEq,Int.reduceLT,Int.reduceLE,Int.reduceBEq,Int.reduceBNe,Int.reduceAdd,Int.reduceNeg,Int.reduceSub,Int.reduceMul,h6]
       exact hck
      ·simp (disch:=omega) only[evO,↓reduceIte,Nat.reduceEqDiff,Nat.reduceBEq,Nat.reduceAdd,Nat.reduceMul,reduceCtorEq,Nat.reduceLeDiff,Int.reduceEq,Int.reduceLT,Int.reduceLE,Int.reduceBEq,Int.reduceBNe,Int.reduceAdd,Int.reduceNeg,Int.reduceSub,Int.reduceMul,h3,h4,h5,h8,Int.natCast_zero,encDef]
       exact⟨g,rfl,by simp⟩
   ·have:i=p.defs.length:=by omega
    subst this
    rw[List.take_length] at hc
    simp (disch:=omega) only[evO,↓reduceIte,Nat.reduceEqDiff,Nat.reduceBEq,Nat.reduceAdd,Nat.reduceMul,reduceCtorEq,Nat.reduceLeDiff,Int.reduceEq,Int.reduceLT,Int.reduceLE,Int.reduceBEq,Int.reduceBNe,Int.reduceAdd,Int.reduceNeg,Int.reduceSub,Int.reduceMul,h3,h4,h5,h8,defs_len,g0,g1,g2]
    rw[ownedB,hc0,hc];rfl
  ·intro st hst
   obtain⟨T,g,rfl,hc⟩:=hst.out
   simp (disch:=omega) only[evO,↓reduceIte,Nat.reduceEqDiff,Nat.reduceBEq,Nat.reduceAdd,Nat.reduceMul,reduceCtorEq,Nat.reduceLeDiff,Int.reduceEq,Int.reduceLT,Int.reduceLE,Int.reduceBEq,Int.reduceBNe,Int.reduceAdd,Int.reduceNeg,Int.reduceSub,Int.reduceMul,hc,gt]
  ·intro st hst
   obtain⟨T,g,rfl,h6,hc⟩:=hst.out
   simp (disch:=omega) only[evO,↓reduceIte,Nat.reduceEqDiff,Nat.reduceBEq,Nat.reduceAdd,Nat.reduceMul,reduceCtorEq,Nat.reduceLeDiff,Int.reduceEq,Int.reduceLT,Int.reduceLE,Int.reduceBEq,Int.reduceBNe,Int.reduceAdd,Int.reduceNeg,Int.reduceSub,Int.reduceMul,hc,h6,gt]
  ·simp (disch:=omega) only[evO,↓reduceIte,Nat.reduceEqDiff,Nat.reduceBEq,Nat.reduceAdd,Nat.reduceMul,reduceCtorEq,Nat.reduceLeDiff,Int.reduceEq,Int.reduceLT,Int.reduceLE,Int.reduceBEq,Int.reduceBNe,Int.reduceAdd,Int.reduceNeg,Int.reduceSub,Int.reduceMul,h3,h4,h5,Int.natCast_zero]
   simp
 ·intro st hst
  obtain⟨T,g,rfl,h6,hc⟩:=hst.out
  simp (disch:=omega) only[evO,↓reduceIte,Nat.reduceEqDiff,Nat.reduceBEq,Nat.reduceAdd,Nat.reduceMul,reduceCtorEq,Nat.reduceLeDiff,Int.reduceEq,Int.reduceLT,Int.reduceLE,Int.reduceBEq,Int.reduceBNe,Int.reduceAdd,Int.reduceNeg,Int.reduceSub,Int.reduceMul,hc,h6,gt]
 ·simp (disch:=omega) only[evO,↓reduceIte,Nat.reduceEqDiff,Nat.reduceBEq,Nat.reduceAdd,Nat.reduceMul,reduceCtorEq,Nat.reduceLeDiff,Int.reduceEq,Int.reduceLT,Int.reduceLE,Int.reduceBEq,Int.reduceBNe,Int.reduceAdd,Int.reduceNeg,Int.reduceSub,Int.reduceMul,Int.natCast_zero]
  simp
end Go.Proofs.YtemfofdaemgjgaaGreatDoor
end
section
set_option linter.unusedSimpArgs false
set_option linter.unusedVariables false
set_option maxRecDepth 100000
namespace Go.Proofs.YtemfofdaemgjgaaGreatDoor
open Go Go.Abs Go.Proofs
theorem stands_D (p:Prog) (hp:ProgB p) (x m:Id) (H:AHeap):callD A 53 [.agg (encProg p),.agg (encId x),.agg (encId m)] H=some (.bool (standsB p x m),none):=by
 obtain⟨hm,hd,hs,hb⟩:=hp
 refine callD_W (fn:=ir53) rfl rfl rfl ?_
 unfold ir53;dsimp only[oQ,oP,iR,oM,oT,oL,oG,oH,oI,oF,oX,oA,oN,oS,oB,oR,oK,oC,iT,iC,iZ,iE]
 rw[encProg,encId,encId]
 simp (disch:=omega) only[evO,↓reduceIte,Nat.reduceEqDiff,Nat.reduceBEq,Nat.reduceAdd,Nat.reduceMul,reduceCtorEq,Nat.reduceLeDiff,Int.reduceEq,Int.reduceLT,Int.reduceLE,Int.reduceBEq,Int.reduceBNe,Int.reduceAdd,Int.reduceNeg,Int.reduceSub,Int.reduceMul,mods_len]
 generalize hHH:H++[AObj.box 26 [AV.slice (encMods p.mods) false,AV.slice (encDefs p.defs) false],AObj.box 36 [AV.int IntKind.i64 x.shop,AV.int IntKind.i64 x.seq,AV.int IntKind.i64 x.index],AObj.box 36 [AV.int IntKind.i64 m.shop,AV.int IntKind.i64 m.seq,AV.int IntKind.i64 m.index]]=HH
 have g0:HH[H.length]?=some (AObj.box 26 [AV.slice (encMods p.mods) false,AV.slice (encDefs p.defs) false]):=by rw[← hHH];simp
 have g1:HH[H.length+1]?=some (AObj.box 36 [AV.int IntKind.i64 x.shop,AV.int IntKind.i64 x.seq,AV.int IntKind.i64 x.index]):=by rw[← hHH];simp
 have g2:HH[H.length+2]?=some (AObj.box 36 [AV.int IntKind.i64 m.shop,AV.int IntKind.i64 m.seq,AV.int IntKind.i64 m.index]):=by rw[← hHH];simp
 have gt:HH.take H.length=H:=by rw[← hHH];simp
 refine W_countx p.defs.length 0 (fun i=>HdG (fun T=>T 3=.ref H.length 0∧T 4=.ref (H.length+1) 0∧T 5=.ref (H.length+2) 0∧T 7=.int .i64 i∧(p.defs.take i).any (fun d=>d.mod==m&&bodyD d&&hasE x d.body)=false) HH H.length)
  (HdG (fun T=>standsB p x m=false) HH H.length) (HdG (fun T=>T 6=.bool true∧standsB p x m=true) HH H.length) ?_ ?_ ?_ 0 _ (by omega) ?_
 ·rintro i st hi hst
  obtain⟨T,g,rfl,h3,h4,h5,h7,hc⟩:=hst.out
  by_cases h:i<p.defs.length
  ·have hg:=defs_at (List.getElem?_eq_getElem h)
   have hmem:=List.getElem_mem h
   have e1:=any_snoc (fun d:Def=>d.mod==m&&bodyD d&&hasE x d.body) h
   have yes:(p.defs[i].mod==m&&bodyD p.defs[i]&&hasE x p.defs[i].body)=true→standsB p x m=true:=fun hq=>any_at (fun d:Def=>d.mod==m&&bodyD d&&hasE x d.body) h hq
   have hin:=in_D _ p.defs[i].body x HH (Nat.lt_succ_self _) (hb _ hmem)
   generalize p.defs[i]=d at hg e1 yes hin
   rw[encDef] at hg
   rw[encEx_eq,encId] at hin
   cases b1:(d.mod==m) with
   | false =>
    simp (disch:=omega) only[evO,↓reduceIte,Nat.reduceEqDiff,Nat.reduceBEq,Nat.reduceAdd,Nat.reduceMul,reduceCtorEq,Nat.reduceLeDiff,Int.reduceEq,Int.reduceLT,Int.reduceLE,Int.reduceBEq,Int.reduceBNe,Int.reduceAdd,Int.reduceNeg,Int.reduceSub,Int.reduceMul,h3,h4,h5,h7,defs_len,hg,g0,g1,g2,storeAV,bin_flat,flat_id,b1]
    exact⟨h,by rw[e1,hc,b1];rfl⟩
   | true =>
    by_cases k0:d.kind=0
    ·have b2:bodyD d=false:=by rw[bodyD,k0];rfl
     simp (disch:=omega) only[evO,↓reduceIte,Nat.reduceEqDiff,Nat.reduceBEq,Nat.reduceAdd,Nat.reduceMul,reduceCtorEq,Nat.reduceLeDiff,Int.reduceEq,Int.reduceLT,Int.reduceLE,Int.reduceBEq,Int.reduceBNe,Int.reduceAdd,Int.reduceNeg,Int.reduceSub,Int.reduceMul,h3,h4,h5,h7,defs_len,hg,g0,g1,g2,storeAV,bin_flat,flat_id,b1,k0]
     exact⟨h,by rw[e1,hc,b1,b2];rfl⟩
    by_cases k1:d.kind=1
    ·have b2:bodyD d=false:=by rw[bodyD,k1];rfl
     simp (disch:=omega) only[evO,↓reduceIte,Nat.reduceEqDiff,Nat.reduceBEq,Nat.reduceAdd,Nat.reduceMul,reduceCtorEq,Nat.reduceLeDiff,Int.reduceEq,Int.reduceLT,Int.reduceLE,Int.reduceBEq,Int.reduceBNe,Int.reduceAdd,Int.reduceNeg,Int.reduceSub,Int.reduceMul,h3,h4,h5,h7,defs_len,hg,g0,g1,g2,storeAV,bin_flat,flat_id,b1,k1]
     exact⟨h,by rw[e1,hc,b1,b2];rfl⟩
    ·have b2:bodyD d=true:=by rw[bodyD];simp[k0,k1]
     rw[b1,b2,Bool.true_and,Bool.true_and] at e1 yes
     cases b3:hasE x d.body with
     | false =>
      rw[b3] at hin
      simp (disch:=omega) only[evO,↓reduceIte,Nat.reduceEqDiff,Nat.reduceBEq,Nat.reduceAdd,Nat.reduceMul,reduceCtorEq,Nat.reduceLeDiff,Int.reduceEq,Int.reduceLT,Int.reduceLE,Int.reduceBEq,Int.reduceBNe,Int.reduceAdd,Int.reduceNeg,Int.reduceSub,Int.reduceMul,h3,h4,h5,h7,defs_len,hg,g0,g1,g2,storeAV,bin_flat,flat_id,b1,k0,k1,hin]
      exact⟨h,by rw[e1,hc,b3];rfl⟩
     | true =>
      rw[b3] at hin
      simp (disch:=omega) only[evO,↓reduceIte,Nat.reduceEqDiff,Nat.reduceBEq,Nat.reduceAdd,Nat.reduceMul,reduceCtorEq,Nat.reduceLeDiff,Int.reduceEq,Int.reduceLT,Int.reduceLE,Int.reduceBEq,Int.reduceBNe,Int.reduceAdd,Int.reduceNeg,Int.reduceSub,Int.reduceMul,h3,h4,h5,h7,defs_len,hg,g0,g1,g2,storeAV,bin_flat,flat_id,b1,k0,k1,hin]
      exact yes b3
  ·have:i=p.defs.length:=by omega
   subst this
   rw[List.take_length] at hc
   simp (disch:=omega) only[evO,↓reduceIte,Nat.reduceEqDiff,Nat.reduceBEq,Nat.reduceAdd,Nat.reduceMul,reduceCtorEq,Nat.reduceLeDiff,Int.reduceEq,Int.reduceLT,Int.reduceLE,Int.reduceBEq,Int.reduceBNe,Int.reduceAdd,Int.reduceNeg,Int.reduceSub,Int.reduceMul,h3,h4,h5,h7,defs_len,g0,g1,g2]
   exact hc
 ·intro st hst
  obtain⟨T,g,rfl,hc⟩:=hst.out
  simp (disch:=omega) only[evO,↓reduceIte,Nat.reduceEqDiff,Nat.reduceBEq,Nat.reduceAdd,Nat.reduceMul,reduceCtorEq,Nat.reduceLeDiff,Int.reduceEq,Int.reduceLT,Int.reduceLE,Int.reduceBEq,Int.reduceBNe,Int.reduceAdd,Int.reduceNeg,Int.reduceSub,Int.reduceMul,hc,gt]
 ·intro st hst
  obtain⟨T,g,rfl,h6,hc⟩:=hst.out
  simp (disch:=omega) only[evO,↓reduceIte,Nat.reduceEqDiff,Nat.reduceBEq,Nat.reduceAdd,Nat.reduceMul,reduceCtorEq,Nat.reduceLeDiff,Int.reduceEq,Int.reduceLT,Int.reduceLE,Int.reduceBEq,Int.reduceBNe,Int.reduceAdd,Int.reduceNeg,Int.reduceSub,Int.reduceMul,hc,h6,gt]
 ·simp (disch:=omega) only[evO,↓reduceIte,Nat.reduceEqDiff,Nat.reduceBEq,Nat.reduceAdd,Nat.reduceMul,reduceCtorEq,Nat.reduceLeDiff,Int.reduceEq,Int.reduceLT,Int.reduceLE,Int.reduceBEq,Int.reduceBNe,Int.reduceAdd,Int.reduceNeg,Int.reduceSub,Int.reduceMul,Int.natCast_zero]
  simp
theorem exists_D (p:Prog) (hp:ProgB p) (x:Id) (H:AHeap):callD A 54 [.agg (encProg p),.agg (encId x)] H=some (.bool (existsB p x),none):=by
 have hp0:=hp
 obtain⟨hm,hd,hs,hb⟩:=hp
 refine callD_W (fn:=ir54) rfl rfl rfl ?_
 unfold ir54;dsimp only[oQ,oP,iR,oM,oT,oL,oG,oH,oI,oF,oX,oA,oN,oS,oB,oR,oK,oC,iT,iC,iZ,iE]
 have hown:=fun m HH=>owned_D p hp0 x m HH
 rw[encProg,encId] at *
 simp (disch:=omega) only[evO,↓reduceIte,Nat.reduceEqDiff,Nat.reduceBEq,Nat.reduceAdd,Nat.reduceMul,reduceCtorEq,Nat.reduceLeDiff,Int.reduceEq,Int.reduceLT,Int.reduceLE,Int.reduceBEq,Int.reduceBNe,Int.reduceAdd,Int.reduceNeg,Int.reduceSub,Int.reduceMul,mods_len]
 generalize hHH:H++[AObj.box 26 [AV.slice (encMods p.mods) false,AV.slice (encDefs p.defs) false],AObj.box 36 [AV.int IntKind.i64 x.shop,AV.int IntKind.i64 x.seq,AV.int IntKind.i64 x.index]]=HH
 have g0:HH[H.length]?=some (AObj.box 26 [AV.slice (encMods p.mods) false,AV.slice (encDefs p.defs) false]):=by rw[← hHH];simp
 have g1:HH[H.length+1]?=some (AObj.box 36 [AV.int IntKind.i64 x.shop,AV.int IntKind.i64 x.seq,AV.int IntKind.i64 x.index]):=by rw[← hHH];simp
 have gt:HH.take H.length=H:=by rw[← hHH];simp
 refine W_countx p.mods.length 0 (fun i=>HdG (fun T=>T 2=.ref H.length 0∧T 3=.ref (H.length+1) 0∧T 5=.int .i64 i∧(p.mods.take i).any (fun d=>d.id==x)=false) HH H.length)
  (HdG (fun T=>T 2=.ref H.length 0∧T 3=.ref (H.length+1) 0∧p.mods.any (fun d=>d.id==x)=false) HH H.length) (HdG (fun T=>T 4=.bool true∧existsB p x=true) HH H.length) ?_ ?_ ?_ 0 _ (by omega) ?_
 ·rintro i st hi hst
  obtain⟨T,g,rfl,h2,h3,h5,hc⟩:=hst.out
  by_cases h:i<p.mods.length
  ·have hg:=mods_at (List.getElem?_eq_getElem h)
   have e1:=any_snoc (fun d:Mod=>d.id==x) h
   have yes:(p.mods[i].id==x)=true→existsB p x=true:=fun hq=>by rw[existsB,any_at (fun d:Mod=>d.id==x) h hq,Bool.true_or]
   generalize p.mods[i]=d at hg e1 yes
   rw[encMod] at hg
   cases b1:(d.id==x) with
   | false =>
    simp (disch:=omega) only[evO,↓reduceIte,Nat.reduceEqDiff,Nat.reduceBEq,Nat.reduceAdd,Nat.reduceMul,reduceCtorEq,Nat.reduceLeDiff,Int.reduceEq,Int.reduceLT,Int.reduceLE,Int.reduceBEq,Int.reduceBNe,Int.reduceAdd,Int.reduceNeg,Int.reduceSub,Int.reduceMul,h2,h3,h5,mods_len,hg,g0,g1,bin_flat,flat_id,b1]
    exact⟨h,by rw[e1,hc,b1];rfl⟩
   | true =>
    simp (disch:=omega) only[evO,↓reduceIte,Nat.reduceEqDiff,Nat.reduceBEq,Nat.reduceAdd,Nat.reduceMul,reduceCtorEq,Nat.reduceLeDiff,Int.reduceEq,Int.reduceLT,Int.reduceLE,Int.reduceBEq,Int.reduceBNe,Int.reduceAdd,Int.reduceNeg,Int.reduceSub,Int.reduceMul,h2,h3,h5,mods_len,hg,g0,g1,bin_flat,flat_id,b1]
    exact yes b1
  ·have:i=p.mods.length:=by omega
   subst this
   rw[List.take_length] at hc
   simp (disch:=omega) only[evO,↓reduceIte,Nat.reduceEqDiff,Nat.reduceBEq,Nat.reduceAdd,Nat.reduceMul,reduceCtorEq,Nat.reduceLeDiff,Int.reduceEq,Int.reduceLT,Int.reduceLE,Int.reduceBEq,Int.reduceBNe,Int.reduceAdd,Int.reduceNeg,Int.reduceSub,Int.reduceMul,h2,h3,h5,mods_len,g0,g1]
   exact hc
 ·intro st hst
  obtain⟨T,g,rfl,h2,h3,hc0⟩:=hst.out
  simp (disch:=omega) only[evO,↓reduceIte,Nat.reduceEqDiff,Nat.reduceBEq,Nat.reduceAdd,Nat.reduceMul,reduceCtorEq,Nat.reduceLeDiff,Int.reduceEq,Int.reduceLT,Int.reduceLE,Int.reduceBEq,Int.reduceBNe,Int.reduceAdd,Int.reduceNeg,Int.reduceSub,Int.reduceMul,h2,h3]
  refine W_countx p.defs.length 2 (fun i=>HdG (fun T=>T 2=.ref H.length 0∧T 3=.ref (H.length+1) 0∧T 6=.int .i64 i∧(p.defs.take i).any (fun d=>ownedB p x d.mod)=false) HH H.length)
   (HdG (fun T=>existsB p x=false) HH H.length) (HdG (fun T=>T 4=.bool true∧existsB p x=true) HH H.length) ?_ ?_ ?_ 0 _ (by omega) ?_
  ·rintro i st hi hst
   obtain⟨T,g,rfl,h2,h3,h6,hc⟩:=hst.out
   by_cases h:i<p.defs.length
   ·have hg:=defs_at (List.getElem?_eq_getElem h)
    have e1:=any_snoc (fun d:Def=>ownedB p x d.mod) h
    have yes:ownedB p x p.defs[i].mod=true→existsB p x=true:=fun hq=>by rw[existsB,any_at (fun d:Def=>ownedB p x d.mod) h hq,Bool.or_true]
    have ho:=hown p.defs[i].mod HH
    generalize p.defs[i]=d at hg e1 yes ho
    rw[encDef] at hg
    rw[encId] at ho
    cases b1:ownedB p x d.mod with
    | false =>
     rw[b1] at ho
     simp (disch:=omega) only[evO,↓reduceIte,Nat.reduceEqDiff,Nat.reduceBEq,Nat.reduceAdd,Nat.reduceMul,reduceCtorEq,Nat.reduceLeDiff,Int.reduceEq,Int.reduceLT,Int.reduceLE,Int.reduceBEq,Int.reduceBNe,Int.reduceAdd,Int.reduceNeg,Int.reduceSub,Int.reduceMul,h2,h3,h6,defs_len,hg,g0,g1,ho]
     exact⟨h,by rw[e1,hc,b1];rfl⟩
    | true =>
     rw[b1] at ho
     simp (disch:=omega) only[evO,↓reduceIte,Nat.reduceEqDiff,Nat.reduceBEq,Nat.reduceAdd,Nat.reduceMul,reduceCtorEq,Nat.reduceLeDiff,Int.reduceEq,Int.reduceLT,Int.reduceLE,Int.reduceBEq,Int.reduceBNe,Int.reduceAdd,Int.reduceNeg,Int.reduceSub,Int.reduceMul,h2,h3,h6,defs_len,hg,g0,g1,ho]
     exact yes b1
   ·have:i=p.defs.length:=by omega
    subst this
    rw[List.take_length] at hc
    simp (disch:=omega) only[evO,↓reduceIte,Nat.reduceEqDiff,Nat.reduceBEq,Nat.reduceAdd,Nat.reduceMul,reduceCtorEq,Nat.reduceLeDiff,Int.reduceEq,Int.reduceLT,Int.reduceLE,Int.reduceBEq,Int.reduceBNe,Int.reduceAdd,Int.reduceNeg,Int.reduceSub,Int.reduceMul,h2,h3,h6,defs_len,g0,g1]
    rw[existsB,hc0,hc];rfl
  ·intro st hst
   obtain⟨T,g,rfl,hc⟩:=hst.out
   simp (disch:=omega) only[evO,↓reduceIte,Nat.reduceEqDiff,Nat.reduceBEq,Nat.reduceAdd,Nat.reduceMul,reduceCtorEq,Nat.reduceLeDiff,Int.reduceEq,Int.reduceLT,Int.reduceLE,Int.reduceBEq,Int.reduceBNe,Int.reduceAdd,Int.reduceNeg,Int.reduceSub,Int.reduceMul,hc,gt]
  ·intro st hst
   obtain⟨T,g,rfl,h6,hc⟩:=hst.out
   simp (disch:=omega) only[evO,↓reduceIte,Nat.reduceEqDiff,Nat.reduceBEq,Nat.reduceAdd,Nat.reduceMul,reduceCtorEq,Nat.reduceLeDiff,Int.reduceEq,Int.reduceLT,Int.reduceLE,Int.reduceBEq,Int.reduceBNe,Int.reduceAdd,Int.reduceNeg,Int.reduceSub,Int.reduceMul,hc,h6,gt]
  ·simp (disch:=omega) only[evO,↓reduceIte,Nat.reduceEqDiff,Nat.reduceBEq,Nat.reduceAdd,Nat.reduceMul,reduceCtorEq,Nat.reduceLeDiff,Int.reduceEq,Int.reduceLT,Int.reduceLE,Int.reduceBEq,Int.reduceBNe,Int.reduceAdd,Int.reduceNeg,Int.reduceSub,Int.reduceMul,h2,h3,Int.natCast_zero]
   simp
 ·intro st hst
  obtain⟨T,g,rfl,h6,hc⟩:=hst.out
  simp (disch:=omega) only[evO,↓reduceIte,Nat.reduceEqDiff,Nat.reduceBEq,Nat.reduceAdd,Nat.reduceMul,reduceCtorEq,Nat.reduceLeDiff,Int.reduceEq,Int.reduceLT,Int.reduceLE,Int.reduceBEq,Int.reduceBNe,Int.reduceAdd,Int.reduceNeg,Int.reduceSub,Int.reduceMul,hc,h6,gt]
 ·simp (disch:=omega) only[evO,↓reduceIte,Nat.reduceEqDiff,Nat.reduceBEq,Nat.reduceAdd,Nat.reduceMul,reduceCtorEq,Nat.reduceLeDiff,Int.reduceEq,Int.reduceLT,Int.reduceLE,Int.reduceBEq,Int.reduceBNe,Int.reduceAdd,Int.reduceNeg,Int.reduceSub,Int.reduceMul,Int.natCast_zero]
  simp
def encOp (k:Int) (on to:Id) (n:Int):List AV:=[.int .i64 k,.int .i64 on.shop,.int .i64 on.seq,.int .i64 on.index,.int .i64 to.shop,.int .i64 to.seq,.int .i64 to.index,.int .i64 n,.int .i64 0,.str [],
 .int .i64 0,.int .i64 0,.int .i64 0,.int .i64 0,.slice [] false,
 .int .i64 0,.int .i64 0,.int .i64 0,.int .i64 0,.int .i64 0,.int .i64 0,.int .i64 0,.int .i64 0,.int .i64 0,.slice [] false,.slice [] false,.slice [] false,.slice [] false]
def whatOf (k:Int):Str:=if 0≤k∧k<14 then kindsS.getD k.toNat [] else []
theorem kind_cases {k:Int} (h:0≤k∧k<14):k=0∨k=1∨k=2∨k=3∨k=4∨k=5∨k=6∨k=7∨k=8∨k=9∨k=10∨k=11∨k=12∨k=13:=by omega
theorem what_D (k:Int) (on to:Id) (n:Int) (H:AHeap):callD A 10 [.agg (encOp k on to n)] H=some (.str (whatOf k),none):=by
 refine callD_W (fn:=ir10) rfl rfl rfl ?_
 unfold ir10;dsimp only[oQ,oP,iR,oM,oT,oL,oG,oH,oI,oF,oX,oA,oN,oS,oB,oR,oK,oC,iT,iC,iZ,iE]
 rw[encOp]
 by_cases h:0≤k∧k<14
 ·rcases kind_cases h with rfl|rfl|rfl|rfl|rfl|rfl|rfl|rfl|rfl|rfl|rfl|rfl|rfl|rfl <;>
  (simp (disch:=omega) only[evO,↓reduceIte,Nat.reduceEqDiff,Nat.reduceBEq,Nat.reduceAdd,Nat.reduceMul,reduceCtorEq,Nat.reduceLeDiff,Int.reduceEq,Int.reduceLT,Int.reduceLE,Int.reduceBEq,Int.reduceBNe,Int.reduceAdd,Int.reduceNeg,Int.reduceSub,Int.reduceMul,show A.glob 0=kindsS.map .str from rfl,kindsS];rfl)
 ·have e:whatOf k=[]:=by rw[whatOf,if_neg h]
  rw[e]
  by_cases h0:k<0
  ·simp (disch:=omega) only[evO,↓reduceIte,Nat.reduceEqDiff,Nat.reduceBEq,Nat.reduceAdd,Nat.reduceMul,reduceCtorEq,Nat.reduceLeDiff,Int.reduceEq,Int.reduceLT,Int.reduceLE,Int.reduceBEq,Int.reduceBNe,Int.reduceAdd,Int.reduceNeg,Int.reduceSub,Int.reduceMul]
  ·simp (disch:=omega) only[evO,↓reduceIte,Nat.reduceEqDiff,Nat.reduceBEq,Nat.reduceAdd,Nat.reduceMul,reduceCtorEq,Nat.reduceLeDiff,Int.reduceEq,Int.reduceLT,Int.reduceLE,Int.reduceBEq,Int.reduceBNe,Int.reduceAdd,Int.reduceNeg,Int.reduceSub,Int.reduceMul]
theorem whatR_D (k:Int) (on to:Id) (n:Int) (H:AHeap):callD A 11 [.agg (encOp k on to n)] H=some (.str (whatOf k),none):=by
 refine callD_W (fn:=ir11) rfl rfl rfl ?_
 unfold ir11;dsimp only[oQ,oP,iR,oM,oT,oL,oG,oH,oI,oF,oX,oA,oN,oS,oB,oR,oK,oC,iT,iC,iZ,iE]
 rw[encOp]
 by_cases h:0≤k∧k<14
 ·rcases kind_cases h with rfl|rfl|rfl|rfl|rfl|rfl|rfl|rfl|rfl|rfl|rfl|rfl|rfl|rfl <;>
  (simp (disch:=omega) only[evO,↓reduceIte,Nat.reduceEqDiff,Nat.reduceBEq,Nat.reduceAdd,Nat.reduceMul,reduceCtorEq,Nat.reduceLeDiff,Int.reduceEq,Int.reduceLT,Int.reduceLE,Int.reduceBEq,Int.reduceBNe,Int.reduceAdd,Int.reduceNeg,Int.reduceSub,Int.reduceMul];rfl)
 ·have e:whatOf k=[]:=by rw[whatOf,if_neg h]
  rw[e]
  simp (disch:=omega) only[evO,↓reduceIte,Nat.reduceEqDiff,Nat.reduceBEq,Nat.reduceAdd,Nat.reduceMul,reduceCtorEq,Nat.reduceLeDiff,Int.reduceEq,Int.reduceLT,Int.reduceLE,Int.reduceBEq,Int.reduceBNe,Int.reduceAdd,Int.reduceNeg,Int.reduceSub,Int.reduceMul]
end Go.Proofs.YtemfofdaemgjgaaGreatDoor
end
section
set_option linter.unusedSimpArgs false
set_option linter.unusedVariables false
set_option maxRecDepth 100000
namespace Go.Proofs.YtemfofdaemgjgaaGreatDoor
open Go Go.Abs Go.Proofs
def xOf (k:Int) (on id:Id):Id:=if k=0∨k=2∨k=3∨k=4 then id else on
def concernsB (p:Prog) (k:Int) (on to id m:Id):Bool:=ownedB p (xOf k on id) m || standsB p (xOf k on id) m || (decide (k=6)&&to==m) || (decide (k=8)&&!existsB p (xOf k on id))
theorem concerns_D (p:Prog) (hp:ProgB p) (k:Int) (on to id m:Id) (n:Int) (H:AHeap) :
  callD A 28 [.agg (encProg p),.agg (encOp k on to n),.agg (encId id),.agg (encId m)] H=some (.bool (concernsB p k on to id m),none):=by
 refine callD_W (fn:=ir28) rfl rfl rfl ?_
 unfold ir28;dsimp only[oQ,oP,iR,oM,oT,oL,oG,oH,oI,oF,oX,oA,oN,oS,oB,oR,oK,oC,iT,iC,iZ,iE]
 have ho:=fun HH=>owned_D p hp (xOf k on id) m HH
 have hs:=fun HH=>stands_D p hp (xOf k on id) m HH
 have he:=fun HH=>exists_D p hp (xOf k on id) HH
 rw[concernsB]
 rw[encProg,encId] at ho hs he
 rw[encProg,encOp,encId,encId]
 by_cases hk:k=0∨k=2∨k=3∨k=4
 ·have hx:xOf k on id=id:=by rw[xOf,if_pos hk]
  rw[hx] at ho hs he ⊢
  rw[encId] at ho hs
  have h6:decide (k=6)=false:=by simp;omega
  have h8:decide (k=8)=false:=by simp;omega
  rw[h6,h8,Bool.false_and,Bool.or_false,Bool.false_and,Bool.or_false]
  rcases hk with rfl|rfl|rfl|rfl <;>
  ·cases b1:ownedB p id m with
   | true =>
    rw[b1] at ho
    simp (disch:=omega) only[evO,↓reduceIte,Nat.reduceEqDiff,Nat.reduceBEq,Nat.reduceAdd,Nat.reduceMul,reduceCtorEq,Nat.reduceLeDiff,Int.reduceEq,Int.reduceLT,Int.reduceLE,Int.reduceBEq,Int.reduceBNe,Int.reduceAdd,Int.reduceNeg,Int.reduceSub,Int.reduceMul,storeAV,ho]
   | false =>
    rw[b1] at ho
    cases b2:standsB p id m<;>rw[b2] at hs<;>simp (disch:=omega) only[evO,↓reduceIte,Nat.reduceEqDiff,Nat.reduceBEq,Nat.reduceAdd,Nat.reduceMul,reduceCtorEq,Nat.reduceLeDiff,Int.reduceEq,Int.reduceLT,Int.reduceLE,Int.reduceBEq,Int.reduceBNe,Int.reduceAdd,Int.reduceNeg,Int.reduceSub,Int.reduceMul,storeAV,ho,hs]
 ·have hx:xOf k on id=on:=by rw[xOf,if_neg hk]
  rw[hx] at ho hs he ⊢
  rw[encId] at ho hs
  have k0:k≠0:=fun e=>hk (.inl e)
  have k2:k≠2:=fun e=>hk (.inr (.inl e))
  have k3:k≠3:=fun e=>hk (.inr (.inr (.inl e)))
  have k4:k≠4:=fun e=>hk (.inr (.inr (.inr e)))
  cases b1:ownedB p on m with
  | true =>
   rw[b1] at ho
   simp (disch:=omega) only[evO,↓reduceIte,Nat.reduceEqDiff,Nat.reduceBEq,Nat.reduceAdd,Nat.reduceMul,reduceCtorEq,Nat.reduceLeDiff,Int.reduceEq,Int.reduceLT,Int.reduceLE,Int.reduceBEq,Int.reduceBNe,Int.reduceAdd,Int.reduceNeg,Int.reduceSub,Int.reduceMul,storeAV,ho]
  | false =>
   rw[b1] at ho
   cases b2:standsB p on m with
   | true =>
    rw[b2] at hs
    simp (disch:=omega) only[evO,↓reduceIte,Nat.reduceEqDiff,Nat.reduceBEq,Nat.reduceAdd,Nat.reduceMul,reduceCtorEq,Nat.reduceLeDiff,Int.reduceEq,Int.reduceLT,Int.reduceLE,Int.reduceBEq,Int.reduceBNe,Int.reduceAdd,Int.reduceNeg,Int.reduceSub,Int.reduceMul,storeAV,ho,hs]
   | false =>
    rw[b2] at hs
    by_cases h6:k=6
    ·subst h6
     cases b3:(to==m)<;>simp (disch:=omega) only[evO,↓reduceIte,Nat.reduceEqDiff,Nat.reduceBEq,Nat.reduceAdd,Nat.reduceMul,reduceCtorEq,Nat.reduceLeDiff,Int.reduceEq,Int.reduceLT,Int.reduceLE,Int.reduceBEq,Int.reduceBNe,Int.reduceAdd,Int.reduceNeg,Int.reduceSub,Int.reduceMul,storeAV,ho,hs,bin_flat,flat_id,b3]<;>rfl
    by_cases h8:k=8
    ·subst h8
     cases b4:existsB p on<;>rw[b4] at he<;>simp (disch:=omega) only[evO,↓reduceIte,Nat.reduceEqDiff,Nat.reduceBEq,Nat.reduceAdd,Nat.reduceMul,reduceCtorEq,Nat.reduceLeDiff,Int.reduceEq,Int.reduceLT,Int.reduceLE,Int.reduceBEq,Int.reduceBNe,Int.reduceAdd,Int.reduceNeg,Int.reduceSub,Int.reduceMul,storeAV,ho,hs,he,bin_flat,flat_id]<;>rfl
    ·have e6:decide (k=6)=false:=by simp[h6]
     have e8:decide (k=8)=false:=by simp[h8]
     rw[e6,e8]
     simp (disch:=omega) only[evO,↓reduceIte,Nat.reduceEqDiff,Nat.reduceBEq,Nat.reduceAdd,Nat.reduceMul,reduceCtorEq,Nat.reduceLeDiff,Int.reduceEq,Int.reduceLT,Int.reduceLE,Int.reduceBEq,Int.reduceBNe,Int.reduceAdd,Int.reduceNeg,Int.reduceSub,Int.reduceMul,storeAV,ho,hs,he,bin_flat,flat_id]
def anyS:Str:=[97,110,121]
def fitsB (p:Prog) (k:Int) (on to id:Id) (r:Rule):Bool:=r.mod==[] || p.mods.any fun m=>m.name==r.mod&&concernsB p k on to id m.id
def okR (p:Prog) (k:Int) (on to id:Id) (r:Rule):Bool:=fitsB p k on to id r&&(r.what==whatOf k || r.what==anyS)
def ofB (l:List Rule) (p:Prog) (k:Int) (on to id:Id):List Rule:=if whatOf k=[] then [] else l.filter (okR p k on to id)
theorem filter_snoc {α:Type} {l:List α} {i:Nat} (q:α→Bool) (h:i<l.length):(l.take (i+1)).filter q=(l.take i).filter q++(if q l[i] then [l[i]] else []):=by
 rw[take_snoc h,List.filter_append];congr 1;simp[List.filter_cons]
theorem ofR_D (l:List Rule) (hl:l.length≤1000000) (p:Prog) (hp:ProgB p) (k:Int) (on to id:Id) (n:Int) (H:AHeap) :
  callD A 14 [.slice (encRules l) false,.agg (encProg p),.agg (encOp k on to n),.agg (encId id)] H=some (.slice (encRules (ofB l p k on to id)) false,none):=by
 refine callD_W (fn:=ir14) rfl rfl rfl ?_
 unfold ir14;dsimp only[oQ,oP,iR,oM,oT,oL,oG,oH,oI,oF,oX,oA,oN,oS,oB,oR,oK,oC,iT,iC,iZ,iE]
 obtain⟨HH,hHH⟩:∃ HH,HH=H++[AObj.box 26 (encProg p),AObj.box 44 (encOp k on to n),AObj.box 36 (encId id)]:=⟨_,rfl⟩
 have g0:HH[H.length]?=some (.box 26 (encProg p)):=by rw[hHH];simp
 have g1:HH[H.length+1]?=some (.box 44 (encOp k on to n)):=by rw[hHH];simp
 have g2:HH[H.length+2]?=some (.box 36 (encId id)):=by rw[hHH];simp
 have gt:HH.take H.length=H:=by rw[hHH];simp
 have hw:=whatR_D k on to n HH
 have hcn:=fun m=>concerns_D p hp k on to id m n HH
 obtain⟨hm,hd,hs,hb⟩:=hp
 rw[encProg,encOp,encId] at *
 have hlen:∀ i,((l.take i).filter (okR p k on to id)).length≤1000000:=fun i=>Nat.le_trans (List.length_filter_le _ _) (by rw[List.length_take];omega)
 simp (disch:=omega) only[evO,↓reduceIte,Nat.reduceEqDiff,Nat.reduceBEq,Nat.reduceAdd,Nat.reduceMul,reduceCtorEq,Nat.reduceLeDiff,Int.reduceEq,Int.reduceLT,Int.reduceLE,Int.reduceBEq,Int.reduceBNe,Int.reduceAdd,Int.reduceNeg,Int.reduceSub,Int.reduceMul,← hHH,g1,hw,rules_len]
 by_cases hk:whatOf k=[]
 ·rw[ofB,if_pos hk]
  rw[hk]
  refine W_countx 0 0 (fun i=>HdG (fun T=>T 0=.slice (encRules l) false∧T 9=.str []∧T 10=.slice [] true∧T 11=.int .i64 0) HH H.length)
   (HdG (fun T=>T 10=.slice [] true) HH H.length) (fun _=>False) ?_ ?_ (fun _ h=>h.elim) 0 _ (by omega) ?_
  ·rintro i st hi hst
   obtain⟨T,g,rfl,h0,h9,h10,h11⟩:=hst.out
   by_cases hz:(0:Int)<l.length
   ·simp (disch:=omega) only[evO,↓reduceIte,Nat.reduceEqDiff,Nat.reduceBEq,Nat.reduceAdd,Nat.reduceMul,reduceCtorEq,Nat.reduceLeDiff,Int.reduceEq,Int.reduceLT,Int.reduceLE,Int.reduceBEq,Int.reduceBNe,Int.reduceAdd,Int.reduceNeg,Int.reduceSub,Int.reduceMul,h0,h9,h10,h11,rules_len]
   ·simp (disch:=omega) only[evO,↓reduceIte,Nat.reduceEqDiff,Nat.reduceBEq,Nat.reduceAdd,Nat.reduceMul,reduceCtorEq,Nat.reduceLeDiff,Int.reduceEq,Int.reduceLT,Int.reduceLE,Int.reduceBEq,Int.reduceBNe,Int.reduceAdd,Int.reduceNeg,Int.reduceSub,Int.reduceMul,h0,h9,h10,h11,rules_len]
  ·intro st hst
   obtain⟨T,g,rfl,h10⟩:=hst.out
   simp (disch:=omega) only[evO,↓reduceIte,Nat.reduceEqDiff,Nat.reduceBEq,Nat.reduceAdd,Nat.reduceMul,reduceCtorEq,Nat.reduceLeDiff,Int.reduceEq,Int.reduceLT,Int.reduceLE,Int.reduceBEq,Int.reduceBNe,Int.reduceAdd,Int.reduceNeg,Int.reduceSub,Int.reduceMul,h10,gt]
   first|rfl|exact⟨rfl,rfl⟩|simp[encRules]
  ·simp (disch:=omega) only[evO,↓reduceIte,Nat.reduceEqDiff,Nat.reduceBEq,Nat.reduceAdd,Nat.reduceMul,reduceCtorEq,Nat.reduceLeDiff,Int.reduceEq,Int.reduceLT,Int.reduceLE,Int.reduceBEq,Int.reduceBNe,Int.reduceAdd,Int.reduceNeg,Int.reduceSub,Int.reduceMul]
 ·rw[ofB,if_neg hk]
  have hkb:(whatOf k==[])=false:=by simpa using hk
  generalize hkd:whatOf k=kd at hkb hw
  try rw[hkd]
  refine W_countx l.length 0 (fun i=>HdG (fun T=>T 0=.slice (encRules l) false∧T 5=.ref H.length 0∧T 6=.ref (H.length+1) 0∧T 7=.ref (H.length+2) 0∧T 9=.str kd∧T 10=.slice (encRules ((l.take i).filter (okR p k on to id))) true∧T 11=.int .i64 i) HH H.length)
   (HdG (fun T=>T 10=.slice (encRules (l.filter (okR p k on to id))) true) HH H.length) (fun _=>False) ?_ ?_ (fun _ h=>h.elim) 0 _ (by omega) ?_
  ·rintro i st hi hst
   obtain⟨T,g,rfl,h0,h5,h6,h7,h9,h10,h11⟩:=hst.out
   by_cases h:i<l.length
   ·have hg:=rules_at (List.getElem?_eq_getElem h)
    have e1:=filter_snoc (okR p k on to id) h
    have hln:=hlen i
    generalize (l.take i).filter (okR p k on to id)=acc at h10 e1 hln
    generalize l[i]=r at hg e1
    rw[encRule] at hg
    simp (disch:=omega) only[evO,↓reduceIte,Nat.reduceEqDiff,Nat.reduceBEq,Nat.reduceAdd,Nat.reduceMul,reduceCtorEq,Nat.reduceLeDiff,Int.reduceEq,Int.reduceLT,Int.reduceLE,Int.reduceBEq,Int.reduceBNe,Int.reduceAdd,Int.reduceNeg,Int.reduceSub,Int.reduceMul,h0,h5,h6,h7,h9,h10,h11,rules_len,hkb,hg,storeAV]
    refine W_countx p.mods.length 2 (fun j=>HdG (fun T=>∃ g,T 0=.slice (encRules l) false∧T 5=.ref H.length 0∧T 6=.ref (H.length+1) 0∧T 7=.ref (H.length+2) 0∧T 9=.str kd∧T 10=.slice (encRules acc) true∧T 11=.int .i64 i ∧
      T 12=.lbox g [.str r.what,.str r.mod,.int .i64 r.n,.slice (ints r.who) false]∧T 13=.bool (r.mod==[] || (p.mods.take j).any fun m=>m.name==r.mod&&concernsB p k on to id m.id)∧T 14=.int .i64 j) HH H.length)
     (HdG (fun T=>∃ g,T 0=.slice (encRules l) false∧T 5=.ref H.length 0∧T 6=.ref (H.length+1) 0∧T 7=.ref (H.length+2) 0∧T 9=.str kd∧T 10=.slice (encRules acc) true∧T 11=.int .i64 i ∧
      T 12=.lbox g [.str r.what,.str r.mod,.int .i64 r.n,.slice (ints r.who) false]∧T 13=.bool (fitsB p k on to id r)) HH H.length) (fun _=>False) ?_ ?_ (fun _ h=>h.elim) 0 _ (by omega) ?_
    ·rintro j st hj hst
     obtain⟨T,g',rfl,g,h0,h5,h6,h7,h9,h10,h11,h12,h13,h14⟩:=hst.out
     by_cases hj' : j<p.mods.length
     ·have hgm:=mods_at (List.getElem?_eq_getElem hj')
      have f1:=any_snoc (fun m:Mod=>m.name==r.mod&&concernsB p k on to id m.id) hj'
      have hcm:=hcn p.mods[j].id
      generalize p.mods[j]=m at hgm f1 hcm
      rw[encMod] at hgm
      rw[encId] at hcm
      have f2:(r.mod==[] || (p.mods.take (j+1)).any fun m=>m.name==r.mod&&concernsB p k on to id m.id)=((r.mod==[] || (p.mods.take j).any fun m=>m.name==r.mod&&concernsB p k on to id m.id) || (m.name==r.mod&&concernsB p k on to id m.id)):=by rw[f1,Bool.or_assoc]
      generalize (r.mod==[] || (p.mods.take j).any fun m=>m.name==r.mod&&concernsB p k on to id m.id)=B at h13 f2
      cases B with
      | true =>
       simp (disch:=omega) only[evO,↓reduceIte,Nat.reduceEqDiff,Nat.reduceBEq,Nat.reduceAdd,Nat.reduceMul,reduceCtorEq,Nat.reduceLeDiff,Int.reduceEq,Int.reduceLT,Int.reduceLE,Int.reduceBEq,Int.reduceBNe,Int.reduceAdd,Int.reduceNeg,Int.reduceSub,Int.reduceMul,h0,h5,h6,h7,h9,h10,h11,h12,h13,h14,mods_len,g0,g1,g2]
       exact⟨hj',g,rfl,by rw[f2,Bool.true_or]⟩
      | false =>
       rw[Bool.false_or] at f2
       cases b1:(m.name==r.mod) with
       | false =>
        rw[b1,Bool.false_and] at f2
        simp (disch:=omega) only[evO,↓reduceIte,Nat.reduceEqDiff,Nat.reduceBEq,Nat.reduceAdd,Nat.reduceMul,reduceCtorEq,Nat.reduceLeDiff,Int.reduceEq,Int.reduceLT,Int.reduceLE,Int.reduceBEq,Int.reduceBNe,Int.reduceAdd,Int.reduceNeg,Int.reduceSub,Int.reduceMul,h0,h5,h6,h7,h9,h10,h11,h12,h13,h14,mods_len,g0,g1,g2,hgm,b1]
        exact⟨hj',g,rfl,by rw[f2]⟩
       | true =>
        rw[b1,Bool.true_and] at f2
        simp (disch:=omega) only[evO,↓reduceIte,Nat.reduceEqDiff,Nat.reduceBEq,Nat.reduceAdd,Nat.reduceMul,reduceCtorEq,Nat.reduceLeDiff,Int.reduceEq,Int.reduceLT,Int.reduceLE,Int.reduceBEq,Int.reduceBNe,Int.reduceAdd,Int.reduceNeg,Int.reduceSub,Int.reduceMul,h0,h5,h6,h7,h9,h10,h11,h12,h13,h14,mods_len,g0,g1,g2,hgm,b1,hcm]
        exact⟨hj',g,rfl,by rw[f2]⟩
     ·have:j=p.mods.length:=by omega
      subst this
      rw[List.take_length] at h13
      simp (disch:=omega) only[evO,↓reduceIte,Nat.reduceEqDiff,Nat.reduceBEq,Nat.reduceAdd,Nat.reduceMul,reduceCtorEq,Nat.reduceLeDiff,Int.reduceEq,Int.reduceLT,Int.reduceLE,Int.reduceBEq,Int.reduceBNe,Int.reduceAdd,Int.reduceNeg,Int.reduceSub,Int.reduceMul,h0,h5,h6,h7,h9,h10,h11,h12,h13,h14,mods_len,g0,g1,g2]
      exact⟨g,rfl,rfl⟩
    ·intro st hst
     obtain⟨T,g',rfl,g,h0,h5,h6,h7,h9,h10,h11,h12,h13⟩:=hst.out
     have e2:okR p k on to id r=(fitsB p k on to id r&&(r.what==kd || r.what==anyS)):=by rw[okR,hkd]
     generalize fitsB p k on to id r=B at h13 e2
     cases B with
     | false =>
      rw[Bool.false_and] at e2
      rw[e2] at e1
      simp (disch:=omega) only[evO,↓reduceIte,Nat.reduceEqDiff,Nat.reduceBEq,Nat.reduceAdd,Nat.reduceMul,reduceCtorEq,Nat.reduceLeDiff,Int.reduceEq,Int.reduceLT,Int.reduceLE,Int.reduceBEq,Int.reduceBNe,Int.reduceAdd,Int.reduceNeg,Int.reduceSub,Int.reduceMul,h0,h5,h6,h7,h9,h10,h11,h12,h13]
      exact⟨h,by rw[e1];simp⟩
     | true =>
      rw[Bool.true_and] at e2
      cases b1:(r.what==kd) with
      | true =>
       rw[b1,Bool.true_or] at e2
       rw[e2] at e1
       simp (disch:=omega) only[evO,↓reduceIte,Nat.reduceEqDiff,Nat.reduceBEq,Nat.reduceAdd,Nat.reduceMul,reduceCtorEq,Nat.reduceLeDiff,Int.reduceEq,Int.reduceLT,Int.reduceLE,Int.reduceBEq,Int.reduceBNe,Int.reduceAdd,Int.reduceNeg,Int.reduceSub,Int.reduceMul,h0,h5,h6,h7,h9,h10,h11,h12,h13,b1,app_rule]
       exact⟨h,by rw[e1];simp⟩
      | false =>
       rw[b1,Bool.false_or] at e2
       cases b2:(r.what==anyS) with
       | true =>
        rw[b2] at e2
        rw[e2] at e1
        rw[anyS] at b2
        simp (disch:=omega) only[evO,↓reduceIte,Nat.reduceEqDiff,Nat.reduceBEq,Nat.reduceAdd,Nat.reduceMul,reduceCtorEq,Nat.reduceLeDiff,Int.reduceEq,Int.reduceLT,Int.reduceLE,Int.reduceBEq,Int.reduceBNe,Int.reduceAdd,Int.reduceNeg,Int.reduceSub,Int.reduceMul,h0,h5,h6,h7,h9,h10,h11,h12,h13,b1,b2,app_rule]
        exact⟨h,by rw[e1];simp⟩
       | false =>
        rw[b2] at e2
        rw[e2] at e1
        rw[anyS] at b2
        simp (disch:=omega) only[evO,↓reduceIte,Nat.reduceEqDiff,Nat.reduceBEq,Nat.reduceAdd,Nat.reduceMul,reduceCtorEq,Nat.reduceLeDiff,Int.reduceEq,Int.reduceLT,Int.reduceLE,Int.reduceBEq,Int.reduceBNe,Int.reduceAdd,Int.reduceNeg,Int.reduceSub,Int.reduceMul,h0,h5,h6,h7,h9,h10,h11,h12,h13,b1,b2]
        exact⟨h,by rw[e1];simp⟩
    ·simp (disch:=omega) only[evO,↓reduceIte,Nat.reduceEqDiff,Nat.reduceBEq,Nat.reduceAdd,Nat.reduceMul,reduceCtorEq,Nat.reduceLeDiff,Int.reduceEq,Int.reduceLT,Int.reduceLE,Int.reduceBEq,Int.reduceBNe,Int.reduceAdd,Int.reduceNeg,Int.reduceSub,Int.reduceMul,h0,h5,h6,h7,h9,h10,h11,Int.natCast_zero]
     exact⟨g,rfl,by simp⟩
   ·have:i=l.length:=by omega
    subst this
    rw[List.take_length] at h10
    simp (disch:=omega) only[evO,↓reduceIte,Nat.reduceEqDiff,Nat.reduceBEq,Nat.reduceAdd,Nat.reduceMul,reduceCtorEq,Nat.reduceLeDiff,Int.reduceEq,Int.reduceLT,Int.reduceLE,Int.reduceBEq,Int.reduceBNe,Int.reduceAdd,Int.reduceNeg,Int.reduceSub,Int.reduceMul,h0,h5,h6,h7,h9,h10,h11,rules_len]
  ·intro st hst
   obtain⟨T,g,rfl,h10⟩:=hst.out
   simp (disch:=omega) only[evO,↓reduceIte,Nat.reduceEqDiff,Nat.reduceBEq,Nat.reduceAdd,Nat.reduceMul,reduceCtorEq,Nat.reduceLeDiff,Int.reduceEq,Int.reduceLT,Int.reduceLE,Int.reduceBEq,Int.reduceBNe,Int.reduceAdd,Int.reduceNeg,Int.reduceSub,Int.reduceMul,h10,gt]
  ·simp (disch:=omega) only[evO,↓reduceIte,Nat.reduceEqDiff,Nat.reduceBEq,Nat.reduceAdd,Nat.reduceMul,reduceCtorEq,Nat.reduceLeDiff,Int.reduceEq,Int.reduceLT,Int.reduceLE,Int.reduceBEq,Int.reduceBNe,Int.reduceAdd,Int.reduceNeg,Int.reduceSub,Int.reduceMul,Int.natCast_zero]
   simp[encRules]
end Go.Proofs.YtemfofdaemgjgaaGreatDoor
end
