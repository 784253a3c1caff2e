/-
  A part of the proof of PrintKept: K2, K3, K4.
-/
import Derived.Test.YtaedakihpnghjaaGreatDoorP17
set_option linter.unusedSimpArgs false
set_option linter.unusedVariables false
section
set_option linter.unusedSimpArgs false
set_option linter.unusedVariables false
set_option maxRecDepth 100000
namespace Go.Proofs.YtaedakihpnghjaaGreatDoor
open Go Go.Abs Go.Proofs
theorem heap_last {H:AHeap} {o:AObj} : (H++[o])[H.length]?=some o:=by simp
theorem heap_set {H:AHeap} {o o' : AObj} : (H++[o]).set H.length o'=H++[o']:=by simp
theorem heap_take {H:AHeap} {o:AObj} : (H++[o]).take H.length=H:=by simp
theorem blt_self {n:Nat} : Nat.blt n n=false:=by simp[← Bool.not_eq_true,Nat.blt_eq]
theorem getD_at {α:Type} {l:List α} {i:Nat} {d:α} (h:i<l.length):l.getD i d=l[i]:=by simp[List.getD,List.getElem?_eq_getElem h]
theorem finArr_done {base t l off n z:Nat} {fn:IFunc} {s:AS} {ty:TypeId} {cs:List AV} (hr:fn.results=[.tmp t]) (hm:fn.muts.elem 888888=true) (hT:s.T t=.sref l off n z) (hH:s.H[l]?=some (.box ty cs)) (hl:base≤l) (hp:cs.all AV.plain=true) (hlo:s.lo=base) :
  finish base fn s=some (.sref base off n z,some ⟨s.H.take base++[.obox cs],s.lo⟩):=by
 have h1:openOK base s=true:=by simp[openOK,hlo]
 have h2:Nat.ble base l=true:=by simpa [Nat.ble_eq] using hl
 unfold finish finish1 finArrF
 rw[h1,hm,hr]
 simp only[cond_true,finArr,resOf,hT,frameCell,Option.bind_some,hH,h2,hp,Bool.and_self]
theorem strs_plain {l:List Str} : (l.map AV.str).all AV.plain=true:=by simp[AV.plain]
theorem usual_D (l:List Str) (H:AHeap) (hl:l.length≤1000000) :
  callD B 9 [.slice (strs l) false] H=some (.sref H.length 0 (l.length+1) 1,some ⟨H++[.obox ((usual l).map .str)],H.length⟩):=by
 have key:∃ r,callD B 9 [.slice (strs l) false] H=some r∧r=(.sref H.length 0 (l.length+1) 1,some ⟨H++[.obox ((usual l).map .str)],H.length⟩):=by
  refine callD_Pub (fn:=ir9) rfl rfl rfl ?_
  unfold ir9
  simp (disch:=omega) only[evA,argsV,argsOK,partsV,elemsV,optV,evOper,evOp,evAppend,IArg.eval,AS.putD,↓reduceIte,Nat.reduceEqDiff,Option.isSome,Option.isNone,cond_true,cond_false,Nat.reduceBEq,Nat.reduceAdd,Nat.reduceMul,binInt,binStr,eq_self,reduceCtorEq,unAV,lenAV,convAV,sliceAV,bound,isCon,AS.spent,liveAddr,offAddr,elemsOf,Nat.reduceLeDiff,nilCmp,putAt,Int.reduceEq,Int.reduceLT,Int.reduceLE,Int.reduceBEq,Int.reduceBNe,Int.reduceAdd,Int.reduceNeg,Int.reduceSub,Int.reduceMul,ilt_t,ilt_f,ile_t,ile_f,ieq_t,ieq_f,ine_t,ine_f,storeAV,asNat_of,Int.toNat_natCast,Nat.add_zero,strs_len,part_zero]
  refine W_countx (l.length+1) 0 (fun i s=>1≤i∧HdG (fun T=>T 0=.slice (strs l) false∧T 3=.sref H.length 0 (l.length+1) 1∧T 4=.int .i64 i) (H++[.box freeTy (part l i)]) H.length s)
   (HdG (fun T=>T 3=.sref H.length 0 (l.length+1) 1) (H++[.box freeTy ((usual l).map .str)]) H.length) (fun _=>False) ?_ ?_ ?_ 1 _ (by omega) ?_
  ·rintro i s hi ⟨h1i,hs⟩
   obtain⟨T,g,rfl,h0,h3,h4⟩:=hs.out
   simp (disch:=omega) only[evA,argsV,argsOK,partsV,elemsV,optV,evOper,evOp,evAppend,IArg.eval,AS.putD,↓reduceIte,Nat.reduceEqDiff,Option.isSome,Option.isNone,cond_true,cond_false,Nat.reduceBEq,Nat.reduceAdd,Nat.reduceMul,binInt,binStr,eq_self,reduceCtorEq,unAV,lenAV,convAV,sliceAV,bound,isCon,AS.spent,liveAddr,offAddr,elemsOf,Nat.reduceLeDiff,nilCmp,putAt,Int.reduceEq,Int.reduceLT,Int.reduceLE,Int.reduceBEq,Int.reduceBNe,Int.reduceAdd,Int.reduceNeg,Int.reduceSub,Int.reduceMul,ilt_t,ilt_f,ile_t,ile_f,ieq_t,ieq_f,ine_t,ine_f,storeAV,asNat_of,Int.toNat_natCast,Nat.add_zero,h0,h3,h4,strs_len]
   refine condW_dec ?_ ?_<;>intro h
   ·have hi' : i<l.length:=by omega
    have e1:=List.getElem?_eq_getElem hi'
    have e2:=List.getElem?_eq_getElem (show i-1<l.length by omega)
    have en:asNat (.int .i64 ((i:Int)-1))=some (i-1):=by rw[asNat_of (by omega)];congr 1;omega
    simp (disch:=omega) only[evA,argsV,argsOK,partsV,elemsV,optV,evOper,evOp,evAppend,IArg.eval,AS.putD,↓reduceIte,Nat.reduceEqDiff,Option.isSome,Option.isNone,cond_true,cond_false,Nat.reduceBEq,Nat.reduceAdd,Nat.reduceMul,binInt,binStr,eq_self,reduceCtorEq,unAV,lenAV,convAV,sliceAV,bound,isCon,AS.spent,liveAddr,offAddr,elemsOf,Nat.reduceLeDiff,nilCmp,putAt,Int.reduceEq,Int.reduceLT,Int.reduceLE,Int.reduceBEq,Int.reduceBNe,Int.reduceAdd,Int.reduceNeg,Int.reduceSub,Int.reduceMul,ilt_t,ilt_f,ile_t,ile_f,ieq_t,ieq_f,ine_t,ine_f,storeAV,asNat_of,Int.toNat_natCast,Nat.add_zero,h0,h3,h4,en,strs_at e1,strs_at e2,tight_D]
    cases ht:tightB l[i-1] l[i] with
    | true =>
     have hu:usualAt l i=[]:=by
      rw[usualAt,if_neg]
      rintro ⟨_,_,h⟩
      rw[getD_at hi',getD_at (show i-1<l.length by omega),ht] at h
      cases h
     simp (disch:=omega) only[evA,argsV,argsOK,partsV,elemsV,optV,evOper,evOp,evAppend,IArg.eval,AS.putD,↓reduceIte,Nat.reduceEqDiff,Option.isSome,Option.isNone,cond_true,cond_false,Nat.reduceBEq,Nat.reduceAdd,Nat.reduceMul,binInt,binStr,eq_self,reduceCtorEq,unAV,lenAV,convAV,sliceAV,bound,isCon,AS.spent,liveAddr,offAddr,elemsOf,Nat.reduceLeDiff,nilCmp,putAt,Int.reduceEq,Int.reduceLT,Int.reduceLE,Int.reduceBEq,Int.reduceBNe,Int.reduceAdd,Int.reduceNeg,Int.reduceSub,Int.reduceMul,ilt_t,ilt_f,ile_t,ile_f,ieq_t,ieq_f,ine_t,ine_f,storeAV,asNat_of,Int.toNat_natCast,Nat.add_zero,h0,h3,h4]
     exact⟨by omega,by rw[part_skip l i hu]⟩
    | false =>
     have hu:tightB (l.getD (i-1) []) (l.getD i [])=false:=by rw[getD_at hi',getD_at (show i-1<l.length by omega),ht]
     simp (disch:=omega) only[evA,argsV,argsOK,partsV,elemsV,optV,evOper,evOp,evAppend,IArg.eval,AS.putD,↓reduceIte,Nat.reduceEqDiff,Option.isSome,Option.isNone,cond_true,cond_false,Nat.reduceBEq,Nat.reduceAdd,Nat.reduceMul,binInt,binStr,eq_self,reduceCtorEq,unAV,lenAV,convAV,sliceAV,bound,isCon,AS.spent,liveAddr,offAddr,elemsOf,Nat.reduceLeDiff,nilCmp,putAt,Int.reduceEq,Int.reduceLT,Int.reduceLE,Int.reduceBEq,Int.reduceBNe,Int.reduceAdd,Int.reduceNeg,Int.reduceSub,Int.reduceMul,ilt_t,ilt_f,ile_t,ile_f,ieq_t,ieq_f,ine_t,ine_f,storeAV,asNat_of,Int.toNat_natCast,Nat.add_zero,h0,h3,h4,heap_last,heap_set,part_len,blt_self]
     exact⟨by omega,by rw[Nat.mul_one,List.append_assoc,part_put l i h1i hi' hu]⟩
   ·simp (disch:=omega) only[evA,argsV,argsOK,partsV,elemsV,optV,evOper,evOp,evAppend,IArg.eval,AS.putD,↓reduceIte,Nat.reduceEqDiff,Option.isSome,Option.isNone,cond_true,cond_false,Nat.reduceBEq,Nat.reduceAdd,Nat.reduceMul,binInt,binStr,eq_self,reduceCtorEq,unAV,lenAV,convAV,sliceAV,bound,isCon,AS.spent,liveAddr,offAddr,elemsOf,Nat.reduceLeDiff,nilCmp,putAt,Int.reduceEq,Int.reduceLT,Int.reduceLE,Int.reduceBEq,Int.reduceBNe,Int.reduceAdd,Int.reduceNeg,Int.reduceSub,Int.reduceMul,ilt_t,ilt_f,ile_t,ile_f,ieq_t,ieq_f,ine_t,ine_f,storeAV,asNat_of,Int.toNat_natCast,Nat.add_zero,h3]
    rw[part_end l i (by omega)]
  ·intro s hs
   obtain⟨T,g,rfl,h3⟩:=hs.out
   simp (disch:=omega) only[evA,argsV,argsOK,partsV,elemsV,optV,evOper,evOp,evAppend,IArg.eval,AS.putD,↓reduceIte,Nat.reduceEqDiff,Option.isSome,Option.isNone,cond_true,cond_false,Nat.reduceBEq,Nat.reduceAdd,Nat.reduceMul,binInt,binStr,eq_self,reduceCtorEq,unAV,lenAV,convAV,sliceAV,bound,isCon,AS.spent,liveAddr,offAddr,elemsOf,Nat.reduceLeDiff,nilCmp,putAt,Int.reduceEq,Int.reduceLT,Int.reduceLE,Int.reduceBEq,Int.reduceBNe,Int.reduceAdd,Int.reduceNeg,Int.reduceSub,Int.reduceMul,ilt_t,ilt_f,ile_t,ile_f,ieq_t,ieq_f,ine_t,ine_f,storeAV,asNat_of,Int.toNat_natCast,Nat.add_zero,h3]
   exact⟨_,finArr_done (t:=2) (off:=0) (n:=l.length+1) (z:=1) rfl (by decide) (by simp[AFrame.put]) heap_last (Nat.le_refl _) strs_plain rfl,by simp[heap_take]⟩
  ·intro s hs;exact hs.elim
  ·simp (disch:=omega) only[evA,argsV,argsOK,partsV,elemsV,optV,evOper,evOp,evAppend,IArg.eval,AS.putD,↓reduceIte,Nat.reduceEqDiff,Option.isSome,Option.isNone,cond_true,cond_false,Nat.reduceBEq,Nat.reduceAdd,Nat.reduceMul,binInt,binStr,eq_self,reduceCtorEq,unAV,lenAV,convAV,sliceAV,bound,isCon,AS.spent,liveAddr,offAddr,elemsOf,Nat.reduceLeDiff,nilCmp,putAt,Int.reduceEq,Int.reduceLT,Int.reduceLE,Int.reduceBEq,Int.reduceBNe,Int.reduceAdd,Int.reduceNeg,Int.reduceSub,Int.reduceMul,ilt_t,ilt_f,ile_t,ile_f,ieq_t,ieq_f,ine_t,ine_f,storeAV,asNat_of,Int.toNat_natCast,Nat.add_zero]
   rw[show ((l.length:Int)+1).toNat=l.length+1 by omega,part_zero];exact⟨rfl,rfl⟩
 obtain⟨r,h,rfl⟩:=key
 exact h
theorem usual_get {l:List Str} {i:Nat} (h:i<l.length+1):(usual l)[i]?=some (usualAt l i):=by simp[usual,List.getElem?_range h]
theorem usual_len {l:List Str} : (usual l).length=l.length+1:=by simp[usual]
theorem usual_take {l:List Str} {i:Nat} (h:i<l.length+1):(usual l).take (i+1)=(usual l).take i++[usualAt l i]:=by
 rw[List.take_add_one,usual_get h];rfl
theorem usualAt_eq {l:List Str} {i:Nat} (h1:1≤i) (h:i≤l.length):usualAt l i=if i=l.length∨l.getD (i-1) []=[40]∨l.getD (i-1) []=[91]∨l.getD (i-1) []=[46]∨l.getD i []=[41]∨l.getD i []=[93]∨l.getD i []=[44]∨l.getD i []=[46] then [] else [32]:=by
 unfold usualAt tightB
 by_cases hi:i=l.length
 ·rw[if_neg (by omega),if_pos (.inl hi)]
 ·have hlt:i<l.length:=by omega
  generalize l.getD (i-1) []=a
  generalize l.getD i []=b
  by_cases c1:a=[40]
  ·simp[c1,hi]
  by_cases c2:a=[91]
  ·simp[c2,hi]
  by_cases c3:a=[46]
  ·simp[c3,hi]
  by_cases c4:b=[41]
  ·simp[c4,hi]
  by_cases c5:b=[93]
  ·simp[c5,hi]
  by_cases c6:b=[44]
  ·simp[c6,hi]
  by_cases c7:b=[46]
  ·simp[c7,hi]
  simp[c1,c2,c3,c4,c5,c6,c7,hi,h1,hlt]
theorem usualR_D (l:List Str) (H:AHeap) (hl:l.length≤1000000):callD B 11 [.slice (strs l) false] H=some (.slice (strs (usual l)) false,none):=by
 refine callD_W (fn:=ir11) rfl rfl rfl ?_
 unfold ir11
 simp only[x_seq,x_region,r_movc,so_slice,x_nil,x_normal,r_mkslice]
 refine so_of (.slice (strs [[]]) true) (by kernel_rfl) rfl ?_
 simp (disch:=omega) only[evA,argsV,argsOK,partsV,elemsV,optV,evOper,evOp,evAppend,IArg.eval,AS.putD,↓reduceIte,Nat.reduceEqDiff,Option.isSome,Option.isNone,cond_true,cond_false,Nat.reduceBEq,Nat.reduceAdd,Nat.reduceMul,binInt,binStr,eq_self,reduceCtorEq,unAV,lenAV,convAV,sliceAV,bound,isCon,AS.spent,liveAddr,offAddr,elemsOf,Nat.reduceLeDiff,nilCmp,putAt,Int.reduceEq,Int.reduceLT,Int.reduceLE,Int.reduceBEq,Int.reduceBNe,Int.reduceAdd,Int.reduceNeg,Int.reduceSub,Int.reduceMul,ilt_t,ilt_f,ile_t,ile_f,ieq_t,ieq_f,ine_t,ine_f,storeAV,asNat_of,Int.toNat_natCast,Nat.add_zero,strs_len]
 refine W_countx (l.length+1) 0 (fun i s=>1≤i∧Hd (fun T=>T 0=.slice (strs l) false∧T 3=.slice (strs ((usual l).take i)) true∧T 4=.int .i64 i) H H.length 0 s)
  (Hd (fun T=>T 3=.slice (strs (usual l)) true) H H.length 0) (fun _=>False) ?_ ?_ ?_ 1 _ (by omega) ?_
 ·rintro i s hi ⟨h1i,hs⟩
  obtain⟨T,rfl,h0,h3,h4⟩:=hs.out
  simp (disch:=omega) only[evA,argsV,argsOK,partsV,elemsV,optV,evOper,evOp,evAppend,IArg.eval,AS.putD,↓reduceIte,Nat.reduceEqDiff,Option.isSome,Option.isNone,cond_true,cond_false,Nat.reduceBEq,Nat.reduceAdd,Nat.reduceMul,binInt,binStr,eq_self,reduceCtorEq,unAV,lenAV,convAV,sliceAV,bound,isCon,AS.spent,liveAddr,offAddr,elemsOf,Nat.reduceLeDiff,nilCmp,putAt,Int.reduceEq,Int.reduceLT,Int.reduceLE,Int.reduceBEq,Int.reduceBNe,Int.reduceAdd,Int.reduceNeg,Int.reduceSub,Int.reduceMul,ilt_t,ilt_f,ile_t,ile_f,ieq_t,ieq_f,ine_t,ine_f,storeAV,asNat_of,Int.toNat_natCast,Nat.add_zero,h0,h4,strs_len]
  refine condW_dec ?_ ?_<;>intro h
  ·have hi' : i≤l.length:=by omega
   have e2:=List.getElem?_eq_getElem (show i-1<l.length by omega)
   have en:asNat (.int .i64 ((i:Int)-1))=some (i-1):=by rw[asNat_of (by omega)];congr 1;omega
   have hu:=usualAt_eq h1i hi'
   have ht:=usual_take (l:=l) (i:=i) (by omega)
   have hlen:((usual l).take i).length≤1000001:=by rw[List.length_take,usual_len];omega
   rw[getD_at (show i-1<l.length by omega)] at hu
   have mk0:=fun h=>hu.trans (if_pos h)
   have mk1:=fun h=>hu.trans (if_neg h)
   cases c0:((i:Int)==(l.length:Int)) with
   | true =>
    rw[mk0 (.inl (by have:=beq_iff_eq.1 c0;omega))] at ht
    simp (disch:=omega) only[evA,argsV,argsOK,partsV,elemsV,optV,evOper,evOp,evAppend,IArg.eval,AS.putD,↓reduceIte,Nat.reduceEqDiff,Option.isSome,Option.isNone,cond_true,cond_false,Nat.reduceBEq,Nat.reduceAdd,Nat.reduceMul,binInt,binStr,eq_self,reduceCtorEq,unAV,lenAV,convAV,sliceAV,bound,isCon,AS.spent,liveAddr,offAddr,elemsOf,Nat.reduceLeDiff,nilCmp,putAt,Int.reduceEq,Int.reduceLT,Int.reduceLE,Int.reduceBEq,Int.reduceBNe,Int.reduceAdd,Int.reduceNeg,Int.reduceSub,Int.reduceMul,ilt_t,ilt_f,ile_t,ile_f,ieq_t,ieq_f,ine_t,ine_f,storeAV,asNat_of,Int.toNat_natCast,Nat.add_zero,h0,h3,h4,en,strs_at e2,strs_len,c0]
    exact⟨by omega,by rw[ht]⟩
   | false =>
   cases c1:(l[i-1]==[40]) with
   | true =>
    rw[mk0 (.inr (.inl (beq_iff_eq.1 c1)))] at ht
    simp (disch:=omega) only[evA,argsV,argsOK,partsV,elemsV,optV,evOper,evOp,evAppend,IArg.eval,AS.putD,↓reduceIte,Nat.reduceEqDiff,Option.isSome,Option.isNone,cond_true,cond_false,Nat.reduceBEq,Nat.reduceAdd,Nat.reduceMul,binInt,binStr,eq_self,reduceCtorEq,unAV,lenAV,convAV,sliceAV,bound,isCon,AS.spent,liveAddr,offAddr,elemsOf,Nat.reduceLeDiff,nilCmp,putAt,Int.reduceEq,Int.reduceLT,Int.reduceLE,Int.reduceBEq,Int.reduceBNe,Int.reduceAdd,Int.reduceNeg,Int.reduceSub,Int.reduceMul,ilt_t,ilt_f,ile_t,ile_f,ieq_t,ieq_f,ine_t,ine_f,storeAV,asNat_of,Int.toNat_natCast,Nat.add_zero,h0,h3,h4,en,strs_at e2,strs_len,c0,c1]
    exact⟨by omega,by rw[ht]⟩
   | false =>
   cases c2:(l[i-1]==[91]) with
   | true =>
    rw[mk0 (.inr (.inr (.inl (beq_iff_eq.1 c2))))] at ht
    simp (disch:=omega) only[evA,argsV,argsOK,partsV,elemsV,optV,evOper,evOp,evAppend,IArg.eval,AS.putD,↓reduceIte,Nat.reduceEqDiff,Option.isSome,Option.isNone,cond_true,cond_false,Nat.reduceBEq,Nat.reduceAdd,Nat.reduceMul,binInt,binStr,eq_self,reduceCtorEq,unAV,lenAV,convAV,sliceAV,bound,isCon,AS.spent,liveAddr,offAddr,elemsOf,Nat.reduceLeDiff,nilCmp,putAt,Int.reduceEq,Int.reduceLT,Int.reduceLE,Int.reduceBEq,Int.reduceBNe,Int.reduceAdd,Int.reduceNeg,Int.reduceSub,Int.reduceMul,ilt_t,ilt_f,ile_t,ile_f,ieq_t,ieq_f,ine_t,ine_f,storeAV,asNat_of,Int.toNat_natCast,Nat.add_zero,h0,h3,h4,en,strs_at e2,strs_len,c0,c1,c2]
    exact⟨by omega,by rw[ht]⟩
   | false =>
   cases c3:(l[i-1]==[46]) with
   | true =>
    rw[mk0 (.inr (.inr (.inr (.inl (beq_iff_eq.1 c3)))))] at ht
    simp (disch:=omega) only[evA,argsV,argsOK,partsV,elemsV,optV,evOper,evOp,evAppend,IArg.eval,AS.putD,↓reduceIte,Nat.reduceEqDiff,Option.isSome,Option.isNone,cond_true,cond_false,Nat.reduceBEq,Nat.reduceAdd,Nat.reduceMul,binInt,binStr,eq_self,reduceCtorEq,unAV,lenAV,convAV,sliceAV,bound,isCon,AS.spent,liveAddr,offAddr,elemsOf,Nat.reduceLeDiff,nilCmp,putAt,Int.reduceEq,Int.reduceLT,Int.reduceLE,Int.reduceBEq,Int.reduceBNe,Int.reduceAdd,Int.reduceNeg,Int.reduceSub,Int.reduceMul,ilt_t,ilt_f,ile_t,ile_f,ieq_t,ieq_f,ine_t,ine_f,storeAV,asNat_of,Int.toNat_natCast,Nat.add_zero,h0,h3,h4,en,strs_at e2,strs_len,c0,c1,c2,c3]
    exact⟨by omega,by rw[ht]⟩
   | false =>
   have hne:¬ (i:Int)=l.length:=by
    intro e;rw[e] at c0;simp at c0
   have hlt:i<l.length:=by omega
   have e1:=List.getElem?_eq_getElem hlt
   have eb:=getD_at (d:=([]:Str)) hlt
   cases c4:(l[i]==[41]) with
   | true =>
    rw[mk0 (.inr (.inr (.inr (.inr (.inl (eb.trans (beq_iff_eq.1 c4)))))))] at ht
    simp (disch:=omega) only[evA,argsV,argsOK,partsV,elemsV,optV,evOper,evOp,evAppend,IArg.eval,AS.putD,↓reduceIte,Nat.reduceEqDiff,Option.isSome,Option.isNone,cond_true,cond_false,Nat.reduceBEq,Nat.reduceAdd,Nat.reduceMul,binInt,binStr,eq_self,reduceCtorEq,unAV,lenAV,convAV,sliceAV,bound,isCon,AS.spent,liveAddr,offAddr,elemsOf,Nat.reduceLeDiff,nilCmp,putAt,Int.reduceEq,Int.reduceLT,Int.reduceLE,Int.reduceBEq,Int.reduceBNe,Int.reduceAdd,Int.reduceNeg,Int.reduceSub,Int.reduceMul,ilt_t,ilt_f,ile_t,ile_f,ieq_t,ieq_f,ine_t,ine_f,storeAV,asNat_of,Int.toNat_natCast,Nat.add_zero,h0,h3,h4,en,strs_at e2,strs_len,strs_at e1,c0,c1,c2,c3,c4]
    exact⟨by omega,by rw[ht]⟩
   | false =>
   cases c5:(l[i]==[93]) with
   | true =>
    rw[mk0 (.inr (.inr (.inr (.inr (.inr (.inl (eb.trans (beq_iff_eq.1 c5))))))))] at ht
    simp (disch:=omega) only[evA,argsV,argsOK,partsV,elemsV,optV,evOper,evOp,evAppend,IArg.eval,AS.putD,↓reduceIte,Nat.reduceEqDiff,Option.isSome,Option.isNone,cond_true,cond_false,Nat.reduceBEq,Nat.reduceAdd,Nat.reduceMul,binInt,binStr,eq_self,reduceCtorEq,unAV,lenAV,convAV,sliceAV,bound,isCon,AS.spent,liveAddr,offAddr,elemsOf,Nat.reduceLeDiff,nilCmp,putAt,Int.reduceEq,Int.reduceLT,Int.reduceLE,Int.reduceBEq,Int.reduceBNe,Int.reduceAdd,Int.reduceNeg,Int.reduceSub,Int.reduceMul,ilt_t,ilt_f,ile_t,ile_f,ieq_t,ieq_f,ine_t,ine_f,storeAV,asNat_of,Int.toNat_natCast,Nat.add_zero,h0,h3,h4,en,strs_at e2,strs_len,strs_at e1,c0,c1,c2,c3,c4,c5]
    exact⟨by omega,by rw[ht]⟩
   | false =>
   cases c6:(l[i]==[44]) with
   | true =>
    rw[mk0 (.inr (.inr (.inr (.inr (.inr (.inr (.inl (eb.trans (beq_iff_eq.1 c6)))))))))] at ht
    simp (disch:=omega) only[evA,argsV,argsOK,partsV,elemsV,optV,evOper,evOp,evAppend,IArg.eval,AS.putD,↓reduceIte,Nat.reduceEqDiff,Option.isSome,Option.isNone,cond_true,cond_false,Nat.reduceBEq,Nat.reduceAdd,Nat.reduceMul,binInt,binStr,eq_self,reduceCtorEq,unAV,lenAV,convAV,sliceAV,bound,isCon,AS.spent,liveAddr,offAddr,elemsOf,Nat.reduceLeDiff,nilCmp,putAt,Int.reduceEq,Int.reduceLT,Int.reduceLE,Int.reduceBEq,Int.reduceBNe,Int.reduceAdd,Int.reduceNeg,Int.reduceSub,Int.reduceMul,ilt_t,ilt_f,ile_t,ile_f,ieq_t,ieq_f,ine_t,ine_f,storeAV,asNat_of,Int.toNat_natCast,Nat.add_zero,h0,h3,h4,en,strs_at e2,strs_len,strs_at e1,c0,c1,c2,c3,c4,c5,c6]
    exact⟨by omega,by rw[ht]⟩
   | false =>
   cases c7:(l[i]==[46]) with
   | true =>
    rw[mk0 (.inr (.inr (.inr (.inr (.inr (.inr (.inr (eb.trans (beq_iff_eq.1 c7)))))))))] at ht
    simp (disch:=omega) only[evA,argsV,argsOK,partsV,elemsV,optV,evOper,evOp,evAppend,IArg.eval,AS.putD,↓reduceIte,Nat.reduceEqDiff,Option.isSome,Option.isNone,cond_true,cond_false,Nat.reduceBEq,Nat.reduceAdd,Nat.reduceMul,binInt,binStr,eq_self,reduceCtorEq,unAV,lenAV,convAV,sliceAV,bound,isCon,AS.spent,liveAddr,offAddr,elemsOf,Nat.reduceLeDiff,nilCmp,putAt,Int.reduceEq,Int.reduceLT,Int.reduceLE,Int.reduceBEq,Int.reduceBNe,Int.reduceAdd,Int.reduceNeg,Int.reduceSub,Int.reduceMul,ilt_t,ilt_f,ile_t,ile_f,ieq_t,ieq_f,ine_t,ine_f,storeAV,asNat_of,Int.toNat_natCast,Nat.add_zero,h0,h3,h4,en,strs_at e2,strs_len,strs_at e1,c0,c1,c2,c3,c4,c5,c6,c7]
    exact⟨by omega,by rw[ht]⟩
   | false =>
   have c1':=beq_eq_false_iff_ne.1 c1;have c2':=beq_eq_false_iff_ne.1 c2;have c3':=beq_eq_false_iff_ne.1 c3;have c4':=beq_eq_false_iff_ne.1 c4;have c5':=beq_eq_false_iff_ne.1 c5;have c6':=beq_eq_false_iff_ne.1 c6;have c7':=beq_eq_false_iff_ne.1 c7
   rw[mk1 (by rw[eb];simp[show ¬ i=l.length by omega,c1',c2',c3',c4',c5',c6',c7'])] at ht
   simp (disch:=omega) only[evA,argsV,argsOK,partsV,elemsV,optV,evOper,evOp,evAppend,IArg.eval,AS.putD,↓reduceIte,Nat.reduceEqDiff,Option.isSome,Option.isNone,cond_true,cond_false,Nat.reduceBEq,Nat.reduceAdd,Nat.reduceMul,binInt,binStr,eq_self,reduceCtorEq,unAV,lenAV,convAV,sliceAV,bound,isCon,AS.spent,liveAddr,offAddr,elemsOf,Nat.reduceLeDiff,nilCmp,putAt,Int.reduceEq,Int.reduceLT,Int.reduceLE,Int.reduceBEq,Int.reduceBNe,Int.reduceAdd,Int.reduceNeg,Int.reduceSub,Int.reduceMul,ilt_t,ilt_f,ile_t,ile_f,ieq_t,ieq_f,ine_t,ine_f,storeAV,asNat_of,Int.toNat_natCast,Nat.add_zero,h0,h3,h4,en,strs_at e2,strs_len,strs_at e1,c0,c1,c2,c3,c4,c5,c6,c7]
   exact⟨by omega,by rw[ht]⟩
  ·simp (disch:=omega) only[evA,argsV,argsOK,partsV,elemsV,optV,evOper,evOp,evAppend,IArg.eval,AS.putD,↓reduceIte,Nat.reduceEqDiff,Option.isSome,Option.isNone,cond_true,cond_false,Nat.reduceBEq,Nat.reduceAdd,Nat.reduceMul,binInt,binStr,eq_self,reduceCtorEq,unAV,lenAV,convAV,sliceAV,bound,isCon,AS.spent,liveAddr,offAddr,elemsOf,Nat.reduceLeDiff,nilCmp,putAt,Int.reduceEq,Int.reduceLT,Int.reduceLE,Int.reduceBEq,Int.reduceBNe,Int.reduceAdd,Int.reduceNeg,Int.reduceSub,Int.reduceMul,ilt_t,ilt_f,ile_t,ile_f,ieq_t,ieq_f,ine_t,ine_f,storeAV,asNat_of,Int.toNat_natCast,Nat.add_zero,h3]
   rw[List.take_of_length_le (by rw[usual_len];omega)]
 ·intro s hs
  obtain⟨T,rfl,h3⟩:=hs.out
  simp (disch:=omega) only[evA,argsV,argsOK,partsV,elemsV,optV,evOper,evOp,evAppend,IArg.eval,AS.putD,↓reduceIte,Nat.reduceEqDiff,Option.isSome,Option.isNone,cond_true,cond_false,Nat.reduceBEq,Nat.reduceAdd,Nat.reduceMul,binInt,binStr,eq_self,reduceCtorEq,unAV,lenAV,convAV,sliceAV,bound,isCon,AS.spent,liveAddr,offAddr,elemsOf,Nat.reduceLeDiff,nilCmp,putAt,Int.reduceEq,Int.reduceLT,Int.reduceLE,Int.reduceBEq,Int.reduceBNe,Int.reduceAdd,Int.reduceNeg,Int.reduceSub,Int.reduceMul,ilt_t,ilt_f,ile_t,ile_f,ieq_t,ieq_f,ine_t,ine_f,storeAV,asNat_of,Int.toNat_natCast,Nat.add_zero,h3]
 ·intro s hs;exact hs.elim
 ·simp (disch:=omega) only[evA,argsV,argsOK,partsV,elemsV,optV,evOper,evOp,evAppend,IArg.eval,AS.putD,↓reduceIte,Nat.reduceEqDiff,Option.isSome,Option.isNone,cond_true,cond_false,Nat.reduceBEq,Nat.reduceAdd,Nat.reduceMul,binInt,binStr,eq_self,reduceCtorEq,unAV,lenAV,convAV,sliceAV,bound,isCon,AS.spent,liveAddr,offAddr,elemsOf,Nat.reduceLeDiff,nilCmp,putAt,Int.reduceEq,Int.reduceLT,Int.reduceLE,Int.reduceBEq,Int.reduceBNe,Int.reduceAdd,Int.reduceNeg,Int.reduceSub,Int.reduceMul,ilt_t,ilt_f,ile_t,ile_f,ieq_t,ieq_f,ine_t,ine_f,storeAV,asNat_of,Int.toNat_natCast,Nat.add_zero]
  rw[show (1:Nat)=0+1 from rfl,usual_take (by omega)]
  simp[usualAt]
def cnt (p:Nat→Bool):Nat→Nat
 | 0=>0
 | n+1=>if cnt p n=n∧p n=true then n+1 else cnt p n
theorem cnt_le (p:Nat→Bool):∀ n,cnt p n≤n
 | 0=>Nat.le_refl _
 | n+1=>by
  unfold cnt
  split
  ·exact Nat.le_refl _
  ·have:=cnt_le p n;omega
theorem cnt_all (p:Nat→Bool):∀ n j,j<cnt p n→p j=true
 | 0,j,h=>by simp[cnt] at h
 | n+1,j,h=>by
  unfold cnt at h
  split at h
  ·rename_i hc
   by_cases hj:j=n
   ·rw[hj];exact hc.2
   ·exact cnt_all p n j (by omega)
  ·exact cnt_all p n j h
theorem cnt_stop (p:Nat→Bool):∀ n,cnt p n<n→p (cnt p n)=false
 | 0,h=>by omega
 | n+1,h=>by
  unfold cnt at h ⊢
  split at h
  ·omega
  ·rename_i hc
   rw[if_neg hc]
   by_cases hn:cnt p n=n
   ·rw[hn]
    cases hp:p n with
    | false=>rfl
    | true=>exact absurd ⟨hn,hp⟩ hc
   ·exact cnt_stop p n (by have:=cnt_le p n;omega)
theorem cnt_eq (p:Nat→Bool) {n i:Nat} (h1:i≤n) (h2:∀ j,j<i→p j=true) (h3:i<n→p i=false):cnt p n=i:=by
 rcases Nat.lt_trichotomy (cnt p n) i with h|h|h
 ·have:=cnt_stop p n (by omega)
  rw[h2 _ h] at this;cases this
 ·exact h
 ·have:=cnt_all p n i h
  rw[h3 (by have:=cnt_le p n;omega)] at this;cases this
def firstN (old now:List Str):Nat:=cnt (fun i=>old.getD i []==now.getD i []) (min old.length now.length)
def lastN (old now:List Str):Nat:=cnt (fun i=>old.getD (old.length-1-i) []==now.getD (now.length-1-i) []) (min old.length now.length-firstN old now)
theorem first_le (old now:List Str):firstN old now≤min old.length now.length:=cnt_le _ _
theorem last_le (old now:List Str):lastN old now≤min old.length now.length-firstN old now:=cnt_le _ _
theorem ends_D (old now:List Str) (H:AHeap) (ho:old.length≤1000000) (hn:now.length≤1000000) :
  callD B 10 [.slice (strs old) false,.slice (strs now) false] H=some (.tuple [.int .i64 (firstN old now:Nat),.int .i64 (lastN old now:Nat)],none):=by
 refine callD_W (fn:=ir10) rfl rfl rfl ?_
 unfold ir10
 simp (disch:=omega) only[evA,argsV,argsOK,partsV,elemsV,optV,evOper,evOp,evAppend,IArg.eval,AS.putD,↓reduceIte,Nat.reduceEqDiff,Option.isSome,Option.isNone,cond_true,cond_false,Nat.reduceBEq,Nat.reduceAdd,Nat.reduceMul,binInt,binStr,eq_self,reduceCtorEq,unAV,lenAV,convAV,sliceAV,bound,isCon,AS.spent,liveAddr,offAddr,elemsOf,Nat.reduceLeDiff,nilCmp,putAt,Int.reduceEq,Int.reduceLT,Int.reduceLE,Int.reduceBEq,Int.reduceBNe,Int.reduceAdd,Int.reduceNeg,Int.reduceSub,Int.reduceMul,ilt_t,ilt_f,ile_t,ile_f,ieq_t,ieq_f,ine_t,ine_f,storeAV,asNat_of,Int.toNat_natCast,Nat.add_zero]
 have hle:=first_le old now
 refine W_countx (min old.length now.length) 0 (fun i=>Hd (fun T=>T 0=.slice (strs old) false∧T 1=.slice (strs now) false∧T 6=.int .i64 i∧∀ j,j<i→(old.getD j []==now.getD j [])=true) H H.length 0)
  (Hd (fun T=>T 0=.slice (strs old) false∧T 1=.slice (strs now) false∧T 6=.int .i64 (firstN old now:Nat)) H H.length 0) (fun _=>False) ?_ ?_ ?_ 0 _ (by omega) ?_
 ·rintro i s hi hs
  obtain⟨T,rfl,h0,h1,h6,hj⟩:=hs.out
  by_cases ho' : (i:Int)<old.length
  ·by_cases hn' : (i:Int)<now.length
   ·have e1:=List.getElem?_eq_getElem (show i<old.length by omega)
    have e2:=List.getElem?_eq_getElem (show i<now.length by omega)
    have d1:=getD_at (d:=([]:Str)) (show i<old.length by omega)
    have d2:=getD_at (d:=([]:Str)) (show i<now.length by omega)
    cases he:(old[i]==now[i]) with
    | true =>
     simp (disch:=omega) only[evA,argsV,argsOK,partsV,elemsV,optV,evOper,evOp,evAppend,IArg.eval,AS.putD,↓reduceIte,Nat.reduceEqDiff,Option.isSome,Option.isNone,cond_true,cond_false,Nat.reduceBEq,Nat.reduceAdd,Nat.reduceMul,binInt,binStr,eq_self,reduceCtorEq,unAV,lenAV,convAV,sliceAV,bound,isCon,AS.spent,liveAddr,offAddr,elemsOf,Nat.reduceLeDiff,nilCmp,putAt,Int.reduceEq,Int.reduceLT,Int.reduceLE,Int.reduceBEq,Int.reduceBNe,Int.reduceAdd,Int.reduceNeg,Int.reduceSub,Int.reduceMul,ilt_t,ilt_f,ile_t,ile_f,ieq_t,ieq_f,ine_t,ine_f,storeAV,asNat_of,Int.toNat_natCast,Nat.add_zero,h0,h1,h6,strs_len,ho',hn',strs_at e1,strs_at e2,he]
     refine⟨by omega,fun j hji=>?_⟩
     rcases (show j<i∨j=i by omega) with h|rfl
     ·exact hj j h
     ·rw[d1,d2];exact he
    | false =>
     simp (disch:=omega) only[evA,argsV,argsOK,partsV,elemsV,optV,evOper,evOp,evAppend,IArg.eval,AS.putD,↓reduceIte,Nat.reduceEqDiff,Option.isSome,Option.isNone,cond_true,cond_false,Nat.reduceBEq,Nat.reduceAdd,Nat.reduceMul,binInt,binStr,eq_self,reduceCtorEq,unAV,lenAV,convAV,sliceAV,bound,isCon,AS.spent,liveAddr,offAddr,elemsOf,Nat.reduceLeDiff,nilCmp,putAt,Int.reduceEq,Int.reduceLT,Int.reduceLE,Int.reduceBEq,Int.reduceBNe,Int.reduceAdd,Int.reduceNeg,Int.reduceSub,Int.reduceMul,ilt_t,ilt_f,ile_t,ile_f,ieq_t,ieq_f,ine_t,ine_f,storeAV,asNat_of,Int.toNat_natCast,Nat.add_zero,h0,h1,h6,strs_len,ho',hn',strs_at e1,strs_at e2,he]
     have:firstN old now=i:=cnt_eq _ hi hj (fun _=>by simp only[d1,d2];exact he)
     rw[this]
   ·simp (disch:=omega) only[evA,argsV,argsOK,partsV,elemsV,optV,evOper,evOp,evAppend,IArg.eval,AS.putD,↓reduceIte,Nat.reduceEqDiff,Option.isSome,Option.isNone,cond_true,cond_false,Nat.reduceBEq,Nat.reduceAdd,Nat.reduceMul,binInt,binStr,eq_self,reduceCtorEq,unAV,lenAV,convAV,sliceAV,bound,isCon,AS.spent,liveAddr,offAddr,elemsOf,Nat.reduceLeDiff,nilCmp,putAt,Int.reduceEq,Int.reduceLT,Int.reduceLE,Int.reduceBEq,Int.reduceBNe,Int.reduceAdd,Int.reduceNeg,Int.reduceSub,Int.reduceMul,ilt_t,ilt_f,ile_t,ile_f,ieq_t,ieq_f,ine_t,ine_f,storeAV,asNat_of,Int.toNat_natCast,Nat.add_zero,h0,h1,h6,strs_len,ho',hn']
    have:firstN old now=i:=cnt_eq _ hi hj (fun h=>by omega)
    rw[this]
  ·simp (disch:=omega) only[evA,argsV,argsOK,partsV,elemsV,optV,evOper,evOp,evAppend,IArg.eval,AS.putD,↓reduceIte,Nat.reduceEqDiff,Option.isSome,Option.isNone,cond_true,cond_false,Nat.reduceBEq,Nat.reduceAdd,Nat.reduceMul,binInt,binStr,eq_self,reduceCtorEq,unAV,lenAV,convAV,sliceAV,bound,isCon,AS.spent,liveAddr,offAddr,elemsOf,Nat.reduceLeDiff,nilCmp,putAt,Int.reduceEq,Int.reduceLT,Int.reduceLE,Int.reduceBEq,Int.reduceBNe,Int.reduceAdd,Int.reduceNeg,Int.reduceSub,Int.reduceMul,ilt_t,ilt_f,ile_t,ile_f,ieq_t,ieq_f,ine_t,ine_f,storeAV,asNat_of,Int.toNat_natCast,Nat.add_zero,h0,h1,h6,strs_len,ho']
   have:firstN old now=i:=cnt_eq _ hi hj (fun h=>by omega)
   rw[this]
 ·intro s hs
  obtain⟨T,rfl,h0,h1,h6⟩:=hs.out
  simp (disch:=omega) only[evA,argsV,argsOK,partsV,elemsV,optV,evOper,evOp,evAppend,IArg.eval,AS.putD,↓reduceIte,Nat.reduceEqDiff,Option.isSome,Option.isNone,cond_true,cond_false,Nat.reduceBEq,Nat.reduceAdd,Nat.reduceMul,binInt,binStr,eq_self,reduceCtorEq,unAV,lenAV,convAV,sliceAV,bound,isCon,AS.spent,liveAddr,offAddr,elemsOf,Nat.reduceLeDiff,nilCmp,putAt,Int.reduceEq,Int.reduceLT,Int.reduceLE,Int.reduceBEq,Int.reduceBNe,Int.reduceAdd,Int.reduceNeg,Int.reduceSub,Int.reduceMul,ilt_t,ilt_f,ile_t,ile_f,ieq_t,ieq_f,ine_t,ine_f,storeAV,asNat_of,Int.toNat_natCast,Nat.add_zero,h0,h1,h6]
  refine W_countx (min old.length now.length-firstN old now) 2 (fun i=>Hd (fun T=>T 0=.slice (strs old) false∧T 1=.slice (strs now) false∧T 6=.int .i64 (firstN old now:Nat)∧T 7=.int .i64 i∧∀ j,j<i→(old.getD (old.length-1-j) []==now.getD (now.length-1-j) [])=true) H H.length 0)
   (Hd (fun T=>T 6=.int .i64 (firstN old now:Nat)∧T 7=.int .i64 (lastN old now:Nat)) H H.length 0) (fun _=>False) ?_ ?_ ?_ 0 _ (by omega) ?_
  ·rintro i s hi hs
   obtain⟨T,rfl,h0,h1,h6,h7,hj⟩:=hs.out
   have hl2:=last_le old now
   have hlast:∀ (h:i<min old.length now.length-firstN old now→(old.getD (old.length-1-i) []==now.getD (now.length-1-i) [])=false),lastN old now=i:=fun h=>cnt_eq _ hi hj h
   generalize firstN old now=a at *
   by_cases ho' : (i:Int)<(old.length:Int)-a
   ·by_cases hn' : (i:Int)<(now.length:Int)-a
    ·have e1:=List.getElem?_eq_getElem (show old.length-1-i<old.length by omega)
     have e2:=List.getElem?_eq_getElem (show now.length-1-i<now.length by omega)
     have d1:=getD_at (d:=([]:Str)) (show old.length-1-i<old.length by omega)
     have d2:=getD_at (d:=([]:Str)) (show now.length-1-i<now.length by omega)
     have n1:asNat (.int .i64 ((old.length:Int)-1-i))=some (old.length-1-i):=by rw[asNat_of (by omega)];congr 1;omega
     have n2:asNat (.int .i64 ((now.length:Int)-1-i))=some (now.length-1-i):=by rw[asNat_of (by omega)];congr 1;omega
     cases he:(old[old.length-1-i]==now[now.length-1-i]) with
     | true =>
      simp (disch:=omega) only[evA,argsV,argsOK,partsV,elemsV,optV,evOper,evOp,evAppend,IArg.eval,AS.putD,↓reduceIte,Nat.reduceEqDiff,Option.isSome,Option.isNone,cond_true,cond_false,Nat.reduceBEq,Nat.reduceAdd,Nat.reduceMul,binInt,binStr,eq_self,reduceCtorEq,unAV,lenAV,convAV,sliceAV,bound,isCon,AS.spent,liveAddr,offAddr,elemsOf,Nat.reduceLeDiff,nilCmp,putAt,Int.reduceEq,Int.reduceLT,Int.reduceLE,Int.reduceBEq,Int.reduceBNe,Int.reduceAdd,Int.reduceNeg,Int.reduceSub,Int.reduceMul,ilt_t,ilt_f,ile_t,ile_f,ieq_t,ieq_f,ine_t,ine_f,storeAV,asNat_of,Int.toNat_natCast,Nat.add_zero,h0,h1,h6,h7,strs_len,ho',hn',n1,n2,strs_at e1,strs_at e2,he]
      refine⟨by omega,fun j hji=>?_⟩
      rcases (show j<i∨j=i by omega) with h|rfl
      ·exact hj j h
      ·rw[d1,d2];exact he
     | false =>
      simp (disch:=omega) only[evA,argsV,argsOK,partsV,elemsV,optV,evOper,evOp,evAppend,IArg.eval,AS.putD,↓reduceIte,Nat.reduceEqDiff,Option.isSome,Option.isNone,cond_true,cond_false,Nat.reduceBEq,Nat.reduceAdd,Nat.reduceMul,binInt,binStr,eq_self,reduceCtorEq,unAV,lenAV,convAV,sliceAV,bound,isCon,AS.spent,liveAddr,offAddr,elemsOf,Nat.reduceLeDiff,nilCmp,putAt,Int.reduceEq,Int.reduceLT,Int.reduceLE,Int.reduceBEq,Int.reduceBNe,Int.reduceAdd,Int.reduceNeg,Int.reduceSub,Int.reduceMul,ilt_t,ilt_f,ile_t,ile_f,ieq_t,ieq_f,ine_t,ine_f,storeAV,asNat_of,Int.toNat_natCast,Nat.add_zero,h0,h1,h6,h7,strs_len,ho',hn',n1,n2,strs_at e1,strs_at e2,he]
      rw[hlast (fun _=>by rw[d1,d2];exact he)]
    ·simp (disch:=omega) only[evA,argsV,argsOK,partsV,elemsV,optV,evOper,evOp,evAppend,IArg.eval,AS.putD,↓reduceIte,Nat.reduceEqDiff,Option.isSome,Option.isNone,cond_true,cond_false,Nat.reduceBEq,Nat.reduceAdd,Nat.reduceMul,binInt,binStr,eq_self,reduceCtorEq,unAV,lenAV,convAV,sliceAV,bound,isCon,AS.spent,liveAddr,offAddr,elemsOf,Nat.reduceLeDiff,nilCmp,putAt,Int.reduceEq,Int.reduceLT,Int.reduceLE,Int.reduceBEq,Int.reduceBNe,Int.reduceAdd,Int.reduceNeg,Int.reduceSub,Int.reduceMul,ilt_t,ilt_f,ile_t,ile_f,ieq_t,ieq_f,ine_t,ine_f,storeAV,asNat_of,Int.toNat_natCast,Nat.add_zero,h0,h1,h6,h7,strs_len,ho',hn']
     rw[hlast (fun h=>by omega)]
   ·simp (disch:=omega) only[evA,argsV,argsOK,partsV,elemsV,optV,evOper,evOp,evAppend,IArg.eval,AS.putD,↓reduceIte,Nat.reduceEqDiff,Option.isSome,Option.isNone,cond_true,cond_false,Nat.reduceBEq,Nat.reduceAdd,Nat.reduceMul,binInt,binStr,eq_self,reduceCtorEq,unAV,lenAV,convAV,sliceAV,bound,isCon,AS.spent,liveAddr,offAddr,elemsOf,Nat.reduceLeDiff,nilCmp,putAt,Int.reduceEq,Int.reduceLT,Int.reduceLE,Int.reduceBEq,Int.reduceBNe,Int.reduceAdd,Int.reduceNeg,Int.reduceSub,Int.reduceMul,ilt_t,ilt_f,ile_t,ile_f,ieq_t,ieq_f,ine_t,ine_f,storeAV,asNat_of,Int.toNat_natCast,Nat.add_zero,h0,h1,h6,h7,strs_len,ho']
    rw[hlast (fun h=>by omega)]
  ·intro s hs
   obtain⟨T,rfl,h6,h7⟩:=hs.out
   simp (disch:=omega) only[evA,argsV,argsOK,partsV,elemsV,optV,evOper,evOp,evAppend,IArg.eval,AS.putD,↓reduceIte,Nat.reduceEqDiff,Option.isSome,Option.isNone,cond_true,cond_false,Nat.reduceBEq,Nat.reduceAdd,Nat.reduceMul,binInt,binStr,eq_self,reduceCtorEq,unAV,lenAV,convAV,sliceAV,bound,isCon,AS.spent,liveAddr,offAddr,elemsOf,Nat.reduceLeDiff,nilCmp,putAt,Int.reduceEq,Int.reduceLT,Int.reduceLE,Int.reduceBEq,Int.reduceBNe,Int.reduceAdd,Int.reduceNeg,Int.reduceSub,Int.reduceMul,ilt_t,ilt_f,ile_t,ile_f,ieq_t,ieq_f,ine_t,ine_f,storeAV,asNat_of,Int.toNat_natCast,Nat.add_zero,h6,h7]
  ·intro s hs;exact hs.elim
  ·simp (disch:=omega) only[evA,argsV,argsOK,partsV,elemsV,optV,evOper,evOp,evAppend,IArg.eval,AS.putD,↓reduceIte,Nat.reduceEqDiff,Option.isSome,Option.isNone,cond_true,cond_false,Nat.reduceBEq,Nat.reduceAdd,Nat.reduceMul,binInt,binStr,eq_self,reduceCtorEq,unAV,lenAV,convAV,sliceAV,bound,isCon,AS.spent,liveAddr,offAddr,elemsOf,Nat.reduceLeDiff,nilCmp,putAt,Int.reduceEq,Int.reduceLT,Int.reduceLE,Int.reduceBEq,Int.reduceBNe,Int.reduceAdd,Int.reduceNeg,Int.reduceSub,Int.reduceMul,ilt_t,ilt_f,ile_t,ile_f,ieq_t,ieq_f,ine_t,ine_f,storeAV,asNat_of,Int.toNat_natCast,Nat.add_zero,h0,h1,h6,Int.natCast_zero]
   exact fun j h=>absurd h (Nat.not_lt_zero j)
 ·intro s hs;exact hs.elim
 ·simp (disch:=omega) only[evA,argsV,argsOK,partsV,elemsV,optV,evOper,evOp,evAppend,IArg.eval,AS.putD,↓reduceIte,Nat.reduceEqDiff,Option.isSome,Option.isNone,cond_true,cond_false,Nat.reduceBEq,Nat.reduceAdd,Nat.reduceMul,binInt,binStr,eq_self,reduceCtorEq,unAV,lenAV,convAV,sliceAV,bound,isCon,AS.spent,liveAddr,offAddr,elemsOf,Nat.reduceLeDiff,nilCmp,putAt,Int.reduceEq,Int.reduceLT,Int.reduceLE,Int.reduceBEq,Int.reduceBNe,Int.reduceAdd,Int.reduceNeg,Int.reduceSub,Int.reduceMul,ilt_t,ilt_f,ile_t,ile_f,ieq_t,ieq_f,ine_t,ine_f,storeAV,asNat_of,Int.toNat_natCast,Nat.add_zero,Int.natCast_zero]
  exact fun j h=>absurd h (Nat.not_lt_zero j)
end Go.Proofs.YtaedakihpnghjaaGreatDoor
end
section
set_option linter.unusedSimpArgs false
set_option linter.unusedVariables false
set_option maxRecDepth 100000
namespace Go.Proofs.YtaedakihpnghjaaGreatDoor
open Go Go.Abs Go.Proofs
def keptAt (layout old now:List Str) (i:Nat):Str :=
 if i<firstN old now then layout.getD i []
 else if now.length-lastN old now≤i∧(now.length-lastN old now<i∨layout.getD (i+old.length-now.length) []≠[]) then layout.getD (i+old.length-now.length) []
 else usualAt now i
def kept (layout old now:List Str):List Str:=if layout.length=old.length+1 then (List.range (now.length+1)).map (keptAt layout old now) else []
theorem kept_len {layout old now:List Str} (h:layout.length=old.length+1):(kept layout old now).length=now.length+1:=by simp[kept,h]
theorem kept_get {layout old now:List Str} (h:layout.length=old.length+1) {i:Nat} (hi:i<now.length+1):(kept layout old now)[i]?=some (keptAt layout old now i):=by simp[kept,h,List.getElem?_range hi]
theorem kept_take {layout old now:List Str} (h:layout.length=old.length+1) {i:Nat} (hi:i<now.length+1):(kept layout old now).take (i+1)=(kept layout old now).take i++[keptAt layout old now i]:=by
 rw[List.take_add_one,kept_get h hi];rfl
theorem keptR_D (layout old now:List Str) (H:AHeap) (hl:layout.length≤1000000) (ho:old.length≤1000000) (hn:now.length≤1000000) :
  ∃ o,callD B 6 [.slice (strs layout) false,.slice (strs old) false,.slice (strs now) false] H=some (.slice (strs (kept layout old now)) o,none):=by
 by_cases hlen:layout.length=old.length+1
 ·refine⟨false,callD_W (fn:=ir6) rfl rfl rfl ?_⟩
  unfold ir6
  have hne:((layout.length:Int) != (old.length:Int)+1)=false:=by simp;omega
  simp (disch:=omega) only[evA,argsV,argsOK,partsV,elemsV,optV,evOper,evOp,evAppend,IArg.eval,AS.putD,↓reduceIte,Nat.reduceEqDiff,Option.isSome,Option.isNone,cond_true,cond_false,Nat.reduceBEq,Nat.reduceAdd,Nat.reduceMul,binInt,binStr,eq_self,reduceCtorEq,unAV,lenAV,convAV,sliceAV,bound,isCon,AS.spent,liveAddr,offAddr,elemsOf,Nat.reduceLeDiff,nilCmp,putAt,Int.reduceEq,Int.reduceLT,Int.reduceLE,Int.reduceBEq,Int.reduceBNe,Int.reduceAdd,Int.reduceNeg,Int.reduceSub,Int.reduceMul,ilt_t,ilt_f,ile_t,ile_f,ieq_t,ieq_f,ine_t,ine_f,storeAV,asNat_of,Int.toNat_natCast,Nat.add_zero,strs_len,hne,ends_D old now H ho hn,usualR_D now H hn]
  have hf:=first_le old now
  have hl2:=last_le old now
  refine W_countx (now.length+1) 0 (fun i=>Hd (fun T=>T 0=.slice (strs layout) false∧T 1=.slice (strs old) false∧T 2=.slice (strs now) false∧T 7=.int .i64 (firstN old now:Nat)∧T 8=.int .i64 (lastN old now:Nat)∧T 9=.slice (strs (usual now)) false ∧
    T 10=.slice (strs ((kept layout old now).take i)) true∧T 11=.int .i64 i) H H.length 0)
   (Hd (fun T=>T 10=.slice (strs (kept layout old now)) true) H H.length 0) (fun _=>False) ?_ ?_ ?_ 0 _ (by omega) ?_
  ·rintro i s hi hs
   obtain⟨T,rfl,h0,h1,h2,h7,h8,h9,h10,h11⟩:=hs.out
   simp (disch:=omega) only[evA,argsV,argsOK,partsV,elemsV,optV,evOper,evOp,evAppend,IArg.eval,AS.putD,↓reduceIte,Nat.reduceEqDiff,Option.isSome,Option.isNone,cond_true,cond_false,Nat.reduceBEq,Nat.reduceAdd,Nat.reduceMul,binInt,binStr,eq_self,reduceCtorEq,unAV,lenAV,convAV,sliceAV,bound,isCon,AS.spent,liveAddr,offAddr,elemsOf,Nat.reduceLeDiff,nilCmp,putAt,Int.reduceEq,Int.reduceLT,Int.reduceLE,Int.reduceBEq,Int.reduceBNe,Int.reduceAdd,Int.reduceNeg,Int.reduceSub,Int.reduceMul,ilt_t,ilt_f,ile_t,ile_f,ieq_t,ieq_f,ine_t,ine_f,storeAV,asNat_of,Int.toNat_natCast,Nat.add_zero,h2,h11,strs_len]
   refine condW_dec ?_ ?_<;>intro h
   ·have hi' : i<now.length+1:=by omega
    have hk:=kept_take hlen hi'
    have hkl:((kept layout old now).take i).length≤1000001:=by rw[List.length_take,kept_len hlen];omega
    have eu:=usual_get hi'
    have hat:keptAt layout old now i=if i<firstN old now then layout.getD i [] else if now.length-lastN old now≤i∧(now.length-lastN old now<i∨layout.getD (i+old.length-now.length) []≠[]) then layout.getD (i+old.length-now.length) [] else usualAt now i:=rfl
    generalize firstN old now=a at *
    generalize lastN old now=b at *
    by_cases ha:(i:Int)<a
    ·have e1:=List.getElem?_eq_getElem (show i<layout.length by omega)
     rw[hat,if_pos (by omega),getD_at (show i<layout.length by omega)] at hk
     simp (disch:=omega) only[evA,argsV,argsOK,partsV,elemsV,optV,evOper,evOp,evAppend,IArg.eval,AS.putD,↓reduceIte,Nat.reduceEqDiff,Option.isSome,Option.isNone,cond_true,cond_false,Nat.reduceBEq,Nat.reduceAdd,Nat.reduceMul,binInt,binStr,eq_self,reduceCtorEq,unAV,lenAV,convAV,sliceAV,bound,isCon,AS.spent,liveAddr,offAddr,elemsOf,Nat.reduceLeDiff,nilCmp,putAt,Int.reduceEq,Int.reduceLT,Int.reduceLE,Int.reduceBEq,Int.reduceBNe,Int.reduceAdd,Int.reduceNeg,Int.reduceSub,Int.reduceMul,ilt_t,ilt_f,ile_t,ile_f,ieq_t,ieq_f,ine_t,ine_f,storeAV,asNat_of,Int.toNat_natCast,Nat.add_zero,h0,h1,h2,h7,h8,h9,h10,h11,strs_at eu,ha,strs_at e1]
     exact⟨by omega,by rw[hk]⟩
    ·rw[if_neg (show ¬ i<a by omega)] at hat
     by_cases hb:(now.length:Int)-b≤i
     ·have hlt:i+old.length-now.length<layout.length:=by omega
      have e1:=List.getElem?_eq_getElem hlt
      have d1:=getD_at (d:=([]:Str)) hlt
      have n1:asNat (.int .i64 ((i:Int)+old.length-now.length))=some (i+old.length-now.length):=by rw[asNat_of (by omega)];congr 1;omega
      rw[d1] at hat
      by_cases hb2:(now.length:Int)-b<i
      ·rw[if_pos ⟨by omega,.inl (by omega)⟩] at hat
       rw[hat] at hk
       simp (disch:=omega) only[evA,argsV,argsOK,partsV,elemsV,optV,evOper,evOp,evAppend,IArg.eval,AS.putD,↓reduceIte,Nat.reduceEqDiff,Option.isSome,Option.isNone,cond_true,cond_false,Nat.reduceBEq,Nat.reduceAdd,Nat.reduceMul,binInt,binStr,eq_self,reduceCtorEq,unAV,lenAV,convAV,sliceAV,bound,isCon,AS.spent,liveAddr,offAddr,elemsOf,Nat.reduceLeDiff,nilCmp,putAt,Int.reduceEq,Int.reduceLT,Int.reduceLE,Int.reduceBEq,Int.reduceBNe,Int.reduceAdd,Int.reduceNeg,Int.reduceSub,Int.reduceMul,ilt_t,ilt_f,ile_t,ile_f,ieq_t,ieq_f,ine_t,ine_f,storeAV,asNat_of,Int.toNat_natCast,Nat.add_zero,h0,h1,h2,h7,h8,h9,h10,h11,strs_len,strs_at eu,ha,ge_iff_le,gt_iff_lt,hb,hb2,n1,strs_at e1]
       exact⟨by omega,by rw[hk]⟩
      ·cases hy:(layout[i+old.length-now.length]==[]) with
       | true =>
        rw[if_neg (by rintro ⟨_,h|h⟩;omega;exact h (beq_iff_eq.1 hy))] at hat
        rw[hat] at hk
        simp (disch:=omega) only[evA,argsV,argsOK,partsV,elemsV,optV,evOper,evOp,evAppend,IArg.eval,AS.putD,↓reduceIte,Nat.reduceEqDiff,Option.isSome,Option.isNone,cond_true,cond_false,Nat.reduceBEq,Nat.reduceAdd,Nat.reduceMul,binInt,binStr,eq_self,reduceCtorEq,unAV,lenAV,convAV,sliceAV,bound,isCon,AS.spent,liveAddr,offAddr,elemsOf,Nat.reduceLeDiff,nilCmp,putAt,Int.reduceEq,Int.reduceLT,Int.reduceLE,Int.reduceBEq,Int.reduceBNe,Int.reduceAdd,Int.reduceNeg,Int.reduceSub,Int.reduceMul,ilt_t,ilt_f,ile_t,ile_f,ieq_t,ieq_f,ine_t,ine_f,storeAV,asNat_of,Int.toNat_natCast,Nat.add_zero,h0,h1,h2,h7,h8,h9,h10,h11,strs_len,strs_at eu,ha,ge_iff_le,gt_iff_lt,hb,hb2,n1,strs_at e1,hy]
        exact⟨by omega,by rw[hk]⟩
       | false =>
        rw[if_pos ⟨by omega,.inr (beq_eq_false_iff_ne.1 hy)⟩] at hat
        rw[hat] at hk
        simp (disch:=omega) only[evA,argsV,argsOK,partsV,elemsV,optV,evOper,evOp,evAppend,IArg.eval,AS.putD,↓reduceIte,Nat.reduceEqDiff,Option.isSome,Option.isNone,cond_true,cond_false,Nat.reduceBEq,Nat.reduceAdd,Nat.reduceMul,binInt,binStr,eq_self,reduceCtorEq,unAV,lenAV,convAV,sliceAV,bound,isCon,AS.spent,liveAddr,offAddr,elemsOf,Nat.reduceLeDiff,nilCmp,putAt,Int.reduceEq,Int.reduceLT,Int.reduceLE,Int.reduceBEq,Int.reduceBNe,Int.reduceAdd,Int.reduceNeg,Int.reduceSub,Int.reduceMul,ilt_t,ilt_f,ile_t,ile_f,ieq_t,ieq_f,ine_t,ine_f,storeAV,asNat_of,Int.toNat_natCast,Nat.add_zero,h0,h1,h2,h7,h8,h9,h10,h11,strs_len,strs_at eu,ha,ge_iff_le,gt_iff_lt,hb,hb2,n1,strs_at e1,hy]
        exact⟨by omega,by rw[hk]⟩
     ·rw[if_neg (by omega)] at hat
      rw[hat] at hk
      simp (disch:=omega) only[evA,argsV,argsOK,partsV,elemsV,optV,evOper,evOp,evAppend,IArg.eval,AS.putD,↓reduceIte,Nat.reduceEqDiff,Option.isSome,Option.isNone,cond_true,cond_false,Nat.reduceBEq,Nat.reduceAdd,Nat.reduceMul,binInt,binStr,eq_self,reduceCtorEq,unAV,lenAV,convAV,sliceAV,bound,isCon,AS.spent,liveAddr,offAddr,elemsOf,Nat.reduceLeDiff,nilCmp,putAt,Int.reduceEq,Int.reduceLT,Int.reduceLE,Int.reduceBEq,Int.reduceBNe,Int.reduceAdd,Int.reduceNeg,Int.reduceSub,Int.reduceMul,ilt_t,ilt_f,ile_t,ile_f,ieq_t,ieq_f,ine_t,ine_f,storeAV,asNat_of,Int.toNat_natCast,Nat.add_zero,h0,h1,h2,h7,h8,h9,h10,h11,strs_len,strs_at eu,ha,ge_iff_le,gt_iff_lt,hb]
      exact⟨by omega,by rw[hk]⟩
   ·simp (disch:=omega) only[evA,argsV,argsOK,partsV,elemsV,optV,evOper,evOp,evAppend,IArg.eval,AS.putD,↓reduceIte,Nat.reduceEqDiff,Option.isSome,Option.isNone,cond_true,cond_false,Nat.reduceBEq,Nat.reduceAdd,Nat.reduceMul,binInt,binStr,eq_self,reduceCtorEq,unAV,lenAV,convAV,sliceAV,bound,isCon,AS.spent,liveAddr,offAddr,elemsOf,Nat.reduceLeDiff,nilCmp,putAt,Int.reduceEq,Int.reduceLT,Int.reduceLE,Int.reduceBEq,Int.reduceBNe,Int.reduceAdd,Int.reduceNeg,Int.reduceSub,Int.reduceMul,ilt_t,ilt_f,ile_t,ile_f,ieq_t,ieq_f,ine_t,ine_f,storeAV,asNat_of,Int.toNat_natCast,Nat.add_zero,h10]
    rw[List.take_of_length_le (by rw[kept_len hlen];omega)]
  ·intro s hs
   obtain⟨T,rfl,h10⟩:=hs.out
   simp (disch:=omega) only[evA,argsV,argsOK,partsV,elemsV,optV,evOper,evOp,evAppend,IArg.eval,AS.putD,↓reduceIte,Nat.reduceEqDiff,Option.isSome,Option.isNone,cond_true,cond_false,Nat.reduceBEq,Nat.reduceAdd,Nat.reduceMul,binInt,binStr,eq_self,reduceCtorEq,unAV,lenAV,convAV,sliceAV,bound,isCon,AS.spent,liveAddr,offAddr,elemsOf,Nat.reduceLeDiff,nilCmp,putAt,Int.reduceEq,Int.reduceLT,Int.reduceLE,Int.reduceBEq,Int.reduceBNe,Int.reduceAdd,Int.reduceNeg,Int.reduceSub,Int.reduceMul,ilt_t,ilt_f,ile_t,ile_f,ieq_t,ieq_f,ine_t,ine_f,storeAV,asNat_of,Int.toNat_natCast,Nat.add_zero,h10]
  ·intro s hs;exact hs.elim
  ·simp (disch:=omega) only[evA,argsV,argsOK,partsV,elemsV,optV,evOper,evOp,evAppend,IArg.eval,AS.putD,↓reduceIte,Nat.reduceEqDiff,Option.isSome,Option.isNone,cond_true,cond_false,Nat.reduceBEq,Nat.reduceAdd,Nat.reduceMul,binInt,binStr,eq_self,reduceCtorEq,unAV,lenAV,convAV,sliceAV,bound,isCon,AS.spent,liveAddr,offAddr,elemsOf,Nat.reduceLeDiff,nilCmp,putAt,Int.reduceEq,Int.reduceLT,Int.reduceLE,Int.reduceBEq,Int.reduceBNe,Int.reduceAdd,Int.reduceNeg,Int.reduceSub,Int.reduceMul,ilt_t,ilt_f,ile_t,ile_f,ieq_t,ieq_f,ine_t,ine_f,storeAV,asNat_of,Int.toNat_natCast,Nat.add_zero,Int.natCast_zero]
   rfl
 ·refine⟨true,callD_W (fn:=ir6) rfl rfl rfl ?_⟩
  unfold ir6
  have hne:((layout.length:Int) != (old.length:Int)+1)=true:=by simp;omega
  have hk:kept layout old now=[]:=by simp[kept,hlen]
  simp (disch:=omega) only[evA,argsV,argsOK,partsV,elemsV,optV,evOper,evOp,evAppend,IArg.eval,AS.putD,↓reduceIte,Nat.reduceEqDiff,Option.isSome,Option.isNone,cond_true,cond_false,Nat.reduceBEq,Nat.reduceAdd,Nat.reduceMul,binInt,binStr,eq_self,reduceCtorEq,unAV,lenAV,convAV,sliceAV,bound,isCon,AS.spent,liveAddr,offAddr,elemsOf,Nat.reduceLeDiff,nilCmp,putAt,Int.reduceEq,Int.reduceLT,Int.reduceLE,Int.reduceBEq,Int.reduceBNe,Int.reduceAdd,Int.reduceNeg,Int.reduceSub,Int.reduceMul,ilt_t,ilt_f,ile_t,ile_f,ieq_t,ieq_f,ine_t,ine_f,storeAV,asNat_of,Int.toNat_natCast,Nat.add_zero,strs_len,hne,hk,strs_nil]
end Go.Proofs.YtaedakihpnghjaaGreatDoor
end
section
set_option linter.unusedSimpArgs false
set_option linter.unusedVariables false
set_option maxRecDepth 100000
namespace Go.Proofs.YtaedakihpnghjaaGreatDoor
open Go Go.Abs Go.Proofs
section
variable {T:AFrame} {H:AHeap} {lo gen t:Nat} {os:List IOper} {K:AS→Prop}
def copyK (x y:AV) (t:Nat) (os:List IOper) (T:AFrame) (H:AHeap) (lo gen:Nat) (K:AS→Prop):Prop :=
 bindW (evCopyO ⟨T,H,lo,gen⟩ x y) fun r=>match r.2 with
  | some s'=>WO B false os (s'.setT t r.1) K
  | none=>WO B false os ⟨T.put t r.1,H,lo,gen⟩ K
theorem r_copyO {x y:IArg} : WO B false (⟨some t,none,.copyO x y⟩ :: os) ⟨T,H,lo,gen⟩ K=copyK (x.addr B.glob T) (y.eval B.glob T) t os T H lo gen K:=state_op rfl
theorem copy_nil {o own:Bool} {f:List (List AV)} : copyK (.slice [] o) (.slice f own) t os T H lo gen K=WO B false os ⟨T.put t (.int .i64 0),H,lo,gen⟩ K:=by
 simp only[copyK,evCopyO,bindW_some]
theorem copy_sref {l o n:Nat} {own:Bool} {L:List Str} {cs:List AV} (hH:H[l]?=some (.obox cs)) (hb:o+n≤cs.length) :
  copyK (.sref l o n 1) (.slice (strs L) own) t os T H lo gen K =
   WO B false os ⟨T.put t (.int .i64 (Nat.min L.length n:Nat)),H.set l (.obox (cs.take o++(L.take (Nat.min L.length n)).map AV.str++cs.drop (o+(L.take (Nat.min L.length n)).length))),cond (Nat.blt l lo) l lo,gen⟩ K:=by
 have h1:headOk 1 (strs L)=true:=by cases L<;>rfl
 have h2:plainRows (strs L)=true:=by simp[plainRows,strs,AV.plain]
 have h3:Nat.ble (o+n) cs.length=true:=by simpa [Nat.ble_eq] using hb
 have h4:((strs L).take (Nat.min L.length n)).flatten=(L.take (Nat.min L.length n)).map AV.str:=by
  generalize Nat.min L.length n=k
  rw[strs,← List.map_take]
  generalize L.take k=M
  induction M with
  | nil=>rfl
  | cons a M ih=>simp only[List.map_cons,List.flatten_cons,ih];rfl
 simp only[copyK,evCopyO,hH,h1,h2,h3,Bool.and_self,cond_true,bindW_some,Nat.beq_refl,strs_len,h4,putAt,AS.chg,AS.setT,List.length_map]
end
theorem frz_done {base t l n:Nat} {fn:IFunc} {s:AS} {L:List Str} (hr:fn.results=[.tmp t]) (hm:fn.muts.elem 888888=false) (hT:s.T t=.sref l 0 n 1) (hH:s.H[l]?=some (.obox (L.map AV.str))) (hl:base≤l) (hn:L.length=n) (hlo:s.lo=base) :
  finish base fn s=some (.slice (strs L) false,none):=by
 have h1:openOK base s=true:=by simp[openOK,hlo]
 have h2:Nat.ble base l=true:=by simpa [Nat.ble_eq] using hl
 have h3:Nat.blt l base=false:=by simp[← Bool.not_eq_true,Nat.blt_eq];omega
 have h4:((L.map AV.str).all fun x=>(frzC s.H base 2 x.drop).plain&&noByteV x)=true:=by
  simp[frzC,AV.drop,AV.plain,noByteV]
 have h5:((L.map AV.str).map fun x=>frzC s.H base 2 x.drop)=L.map AV.str:=by
  simp[frzC,AV.drop]
 have h6:∀ (M:List Str),chunks 1 M.length (M.map AV.str)=strs M:=by
  intro M
  induction M with
  | nil=>rfl
  | cons a M ih=>simp only[List.map_cons,List.length_cons,chunks,List.take_succ_cons,List.take_zero,List.drop_succ_cons,List.drop_zero,ih];rfl
 subst hn
 have h7:Nat.ble (0+L.length*1) (L.map AV.str).length=true:=by simp[Nat.ble_eq]
 have h8:resOf s (.tmp t)=some (.sref l 0 L.length 1):=by simp[resOf,hT,frameCell]
 have h9:resRow s (.tmp t)=none:=by simp[resRow,hT]
 have hz:frzC s.H base frzD (.sref l 0 L.length 1)=.slice (strs L) false:=by
  show frzC s.H base (2+1) (.sref l 0 L.length 1)=_
  unfold frzC
  simp only[h2,cond_true,hH,Option.bind_some,objCells,h4,h5,h7,show Nat.blt 0 1=true from rfl,Bool.and_self,List.drop_zero,h6]
 have hb:Nat.beq s.lo base=true:=by rw[hlo];exact Nat.beq_refl base
 have hf:finFrz base [.tmp t] s=some (.slice (strs L) false,none):=by
  simp only[finFrz,resVal2,h8,Option.map_some,AV.dropAll,AV.drop,frzP,hz,Option.bind_some,AV.leaves,hb,cond_true]
 have h0:finish0 base [.tmp t] s=none:=by
  simp only[finish0,resVal,h9,h8,Option.bind_some,AV.leaves,AV.partOut,AV.cellOut,h3,cond_false]
 have hp:finPub base [.tmp t] s=none:=rfl
 unfold finish finish1 finArrF
 rw[h1,hm,hr]
 simp only[cond_true,cond_false,h0,hp,hf]
theorem copy_strs {l o n:Nat} {own:Bool} {L O:List Str} {H:AHeap} {T:AFrame} {lo gen t:Nat} {os:List IOper} {K:AS→Prop} (hH:H[l]?=some (.obox (O.map AV.str))) (hb:o+n≤O.length) (hn:L.length≤n) :
  copyK (.sref l o n 1) (.slice (strs L) own) t os T H lo gen K =
   WO B false os ⟨T.put t (.int .i64 (L.length:Nat)),H.set l (.obox ((O.take o++L++O.drop (o+L.length)).map AV.str)),cond (Nat.blt l lo) l lo,gen⟩ K:=by
 have e:Nat.min L.length n=L.length:=Nat.min_eq_left hn
 rw[copy_sref hH (by simpa using hb),e,List.take_length]
 simp only[List.map_append,List.map_take,List.map_drop]
theorem put_strs {O:List Str} {i:Nat} {x:Str} (h:i<O.length):(O.map AV.str).take i++[AV.str x]++(O.map AV.str).drop (i+1)=(O.set i x).map AV.str:=by
 rw[List.set_eq_take_append_cons_drop,if_pos h]
 simp[List.map_take,List.map_drop]
theorem strs_take' {l:List Str} {i:Nat} : (strs l).take i=strs (l.take i):=by simp[strs,List.map_take]
theorem strs_drop' {l:List Str} {i:Nat} : (strs l).drop i=strs (l.drop i):=by simp[strs,List.map_drop]
theorem kept_cells {layout old now O1 O2:List Str} (hlen:layout.length=old.length+1) (hO:(usual now).take 0++layout.take (firstN old now)++(usual now).drop (0+(layout.take (firstN old now)).length)=O1)
  (h2:O2=if layout.getD (old.length-lastN old now) []=[] then O1 else O1.set (now.length-lastN old now) (layout.getD (old.length-lastN old now) [])) :
  O1.length=now.length+1∧O2.length=now.length+1∧O2.take (now.length-lastN old now+1)++layout.drop (old.length-lastN old now+1)=kept layout old now:=by
 have hf:=first_le old now
 have hl2:=last_le old now
 have hk:∀ j,keptAt layout old now j=if j<firstN old now then layout.getD j [] else if now.length-lastN old now≤j∧(now.length-lastN old now<j∨layout.getD (j+old.length-now.length) []≠[]) then layout.getD (j+old.length-now.length) [] else usualAt now j:=fun _=>rfl
 have hkg:=fun {i:Nat} (hi:i<now.length+1)=>kept_get (layout:=layout) (old:=old) (now:=now) hlen hi
 have hkl:=kept_len (layout:=layout) (old:=old) (now:=now) hlen
 generalize firstN old now=a at *
 generalize lastN old now=b at *
 have ha:(layout.take a).length=a:=by rw[List.length_take];omega
 have l1:O1.length=now.length+1:=by
  rw[← hO];simp[usual_len];omega
 have g1:∀ j,j<now.length+1→O1[j]?=some (if j<a then layout.getD j [] else usualAt now j):=by
  intro j hj
  rw[← hO,List.take_zero,List.nil_append,List.getElem?_append,ha,Nat.zero_add]
  by_cases hja:j<a
  ·rw[if_pos hja,if_pos hja,List.getElem?_take,if_pos hja,getD_at (show j<layout.length by omega),List.getElem?_eq_getElem (show j<layout.length by omega)]
  ·rw[if_neg hja,if_neg hja,List.getElem?_drop,show a+(j-a)=j by omega,usual_get hj]
 have l2:O2.length=now.length+1:=by
  rw[h2];split
  ·exact l1
  ·rw[List.length_set];exact l1
 refine⟨l1,l2,?_⟩
 have g2:∀ j,j<now.length+1→O2[j]?=some (if j=now.length-b∧layout.getD (old.length-b) []≠[] then layout.getD (old.length-b) [] else if j<a then layout.getD j [] else usualAt now j):=by
  intro j hj
  rw[h2]
  by_cases hx:layout.getD (old.length-b) []=[]
  ·rw[if_pos hx,if_neg (fun h=>h.2 hx)];exact g1 j hj
  ·rw[if_neg hx]
   by_cases hjf:j=now.length-b
   ·rw[if_pos ⟨hjf,hx⟩,hjf,List.getElem?_set_self (by omega)]
   ·rw[if_neg (fun h=>hjf h.1),List.getElem?_set_ne (fun h=>hjf h.symm)];exact g1 j hj
 refine List.ext_getElem? fun j=>?_
 by_cases hj:j<now.length+1
 ·rw[hkg hj,List.getElem?_append,List.length_take,l2,show min (now.length-b+1) (now.length+1)=now.length-b+1 by omega]
  by_cases hjf:j<now.length-b+1
  ·rw[if_pos hjf,List.getElem?_take,if_pos hjf,g2 j hj,hk]
   congr 1
   by_cases hje:j=now.length-b
   ·have e:j+old.length-now.length=old.length-b:=by omega
    have hja:¬ j<a:=by omega
    rw[e]
    by_cases hx:layout.getD (old.length-b) []=[]
    ·rw[if_neg (show ¬ (j=now.length-b∧layout.getD (old.length-b) []≠[]) from fun h=>h.2 hx),if_neg (show ¬ (now.length-b≤j∧(now.length-b<j∨layout.getD (old.length-b) []≠[])) by rintro ⟨_,h|h⟩;omega;exact h hx)]
    ·rw[if_pos (show j=now.length-b∧layout.getD (old.length-b) []≠[] from ⟨hje,hx⟩),if_neg hja,if_pos (show now.length-b≤j∧(now.length-b<j∨layout.getD (old.length-b) []≠[]) from ⟨by omega,.inr hx⟩)]
   ·rw[if_neg (fun h=>hje h.1)]
    by_cases hja:j<a
    ·rw[if_pos hja,if_pos hja]
    ·rw[if_neg hja,if_neg hja,if_neg (by omega)]
  ·rw[if_neg hjf,List.getElem?_drop,hk,if_neg (show ¬ j<a by omega),if_pos ⟨by omega,.inl (by omega)⟩]
   have e:old.length-b+1+(j-(now.length-b+1))=j+old.length-now.length:=by omega
   rw[e,getD_at (show j+old.length-now.length<layout.length by omega),List.getElem?_eq_getElem (show j+old.length-now.length<layout.length by omega)]
 ·rw[List.getElem?_eq_none (by simp[l2];omega),List.getElem?_eq_none (by rw[hkl];omega)]
theorem kept_D (layout old now:List Str) (H:AHeap) (hl:layout.length≤1000000) (ho:old.length≤1000000) (hn:now.length≤1000000) :
  ∃ o,callD B 5 [.slice (strs layout) false,.slice (strs old) false,.slice (strs now) false] H=some (.slice (strs (kept layout old now)) o,none):=by
 by_cases hlen:layout.length=old.length+1
 ·refine⟨false,?_⟩
  have hne:((layout.length:Int) != (old.length:Int)+1)=false:=by simp;omega
  have hf:=first_le old now
  have hl2:=last_le old now
  have key:∃ r,callD B 5 [.slice (strs layout) false,.slice (strs old) false,.slice (strs now) false] H=some r∧r=(.slice (strs (kept layout old now)) false,none):=by
   refine callD_Pub (fn:=ir5) rfl rfl rfl ?_
   unfold ir5
   simp (disch:=omega) only[evA,argsV,argsOK,partsV,elemsV,optV,evOper,evOp,evAppend,IArg.eval,AS.putD,↓reduceIte,Nat.reduceEqDiff,Option.isSome,Option.isNone,cond_true,cond_false,Nat.reduceBEq,Nat.reduceAdd,Nat.reduceMul,binInt,binStr,eq_self,reduceCtorEq,unAV,lenAV,convAV,sliceAV,bound,isCon,AS.spent,liveAddr,offAddr,elemsOf,Nat.reduceLeDiff,nilCmp,putAt,Int.reduceEq,Int.reduceLT,Int.reduceLE,Int.reduceBEq,Int.reduceBNe,Int.reduceAdd,Int.reduceNeg,Int.reduceSub,Int.reduceMul,ilt_t,ilt_f,ile_t,ile_f,ieq_t,ieq_f,ine_t,ine_f,storeAV,asNat_of,Int.toNat_natCast,Nat.add_zero,strs_len,hne]
   have hmin:(if (now.length:Int)<old.length then (now.length:Int) else old.length)=((min old.length now.length:Nat):Int):=by
    rw[Nat.min_def];split<;>split<;>omega
   simp (disch:=omega) only[hmin]
   refine W_countx (min old.length now.length) 0 (fun i=>HdG (fun T=>T 0=.slice (strs layout) false∧T 1=.slice (strs old) false∧T 2=.slice (strs now) false∧T 7=.int .i64 (min old.length now.length:Nat)∧T 8=.int .i64 i∧∀ j,j<i→(old.getD j []==now.getD j [])=true) H H.length)
    (HdG (fun T=>T 0=.slice (strs layout) false∧T 1=.slice (strs old) false∧T 2=.slice (strs now) false∧T 7=.int .i64 (min old.length now.length:Nat)∧T 8=.int .i64 (firstN old now:Nat)) H H.length) (fun _=>False) ?_ ?_ ?_ 0 _ (by omega) ?_
   ·rintro i s hi hs
    obtain⟨T,g,rfl,h0,h1,h2,h7,h8,hj⟩:=hs.out
    have hfirst:∀ (h:i<min old.length now.length→(old.getD i []==now.getD i [])=false),firstN old now=i:=fun h=>cnt_eq _ hi hj h
    by_cases hm' : (i:Int)<((min old.length now.length:Nat):Int)
    ·have e1:=List.getElem?_eq_getElem (show i<old.length by omega)
     have e2:=List.getElem?_eq_getElem (show i<now.length by omega)
     have d1:=getD_at (d:=([]:Str)) (show i<old.length by omega)
     have d2:=getD_at (d:=([]:Str)) (show i<now.length by omega)
     cases he:(old[i]==now[i]) with
     | true =>
      simp (disch:=omega) only[evA,argsV,argsOK,partsV,elemsV,optV,evOper,evOp,evAppend,IArg.eval,AS.putD,↓reduceIte,Nat.reduceEqDiff,Option.isSome,Option.isNone,cond_true,cond_false,Nat.reduceBEq,Nat.reduceAdd,Nat.reduceMul,binInt,binStr,eq_self,reduceCtorEq,unAV,lenAV,convAV,sliceAV,bound,isCon,AS.spent,liveAddr,offAddr,elemsOf,Nat.reduceLeDiff,nilCmp,putAt,Int.reduceEq,Int.reduceLT,Int.reduceLE,Int.reduceBEq,Int.reduceBNe,Int.reduceAdd,Int.reduceNeg,Int.reduceSub,Int.reduceMul,ilt_t,ilt_f,ile_t,ile_f,ieq_t,ieq_f,ine_t,ine_f,storeAV,asNat_of,Int.toNat_natCast,Nat.add_zero,h0,h1,h2,h7,h8,strs_len,hm',strs_at e1,strs_at e2,he]
      refine⟨by omega,fun j hji=>?_⟩
      rcases (show j<i∨j=i by omega) with h|rfl
      ·exact hj j h
      ·rw[d1,d2];exact he
     | false =>
      simp (disch:=omega) only[evA,argsV,argsOK,partsV,elemsV,optV,evOper,evOp,evAppend,IArg.eval,AS.putD,↓reduceIte,Nat.reduceEqDiff,Option.isSome,Option.isNone,cond_true,cond_false,Nat.reduceBEq,Nat.reduceAdd,Nat.reduceMul,binInt,binStr,eq_self,reduceCtorEq,unAV,lenAV,convAV,sliceAV,bound,isCon,AS.spent,liveAddr,offAddr,elemsOf,Nat.reduceLeDiff,nilCmp,putAt,Int.reduceEq,Int.reduceLT,Int.reduceLE,Int.reduceBEq,Int.reduceBNe,Int.reduceAdd,Int.reduceNeg,Int.reduceSub,Int.reduceMul,ilt_t,ilt_f,ile_t,ile_f,ieq_t,ieq_f,ine_t,ine_f,storeAV,asNat_of,Int.toNat_natCast,Nat.add_zero,h0,h1,h2,h7,h8,strs_len,hm',strs_at e1,strs_at e2,he]
      rw[hfirst (fun _=>by rw[d1,d2];exact he)]
    ·simp (disch:=omega) only[evA,argsV,argsOK,partsV,elemsV,optV,evOper,evOp,evAppend,IArg.eval,AS.putD,↓reduceIte,Nat.reduceEqDiff,Option.isSome,Option.isNone,cond_true,cond_false,Nat.reduceBEq,Nat.reduceAdd,Nat.reduceMul,binInt,binStr,eq_self,reduceCtorEq,unAV,lenAV,convAV,sliceAV,bound,isCon,AS.spent,liveAddr,offAddr,elemsOf,Nat.reduceLeDiff,nilCmp,putAt,Int.reduceEq,Int.reduceLT,Int.reduceLE,Int.reduceBEq,Int.reduceBNe,Int.reduceAdd,Int.reduceNeg,Int.reduceSub,Int.reduceMul,ilt_t,ilt_f,ile_t,ile_f,ieq_t,ieq_f,ine_t,ine_f,storeAV,asNat_of,Int.toNat_natCast,Nat.add_zero,h0,h1,h2,h7,h8,strs_len,hm']
     rw[hfirst (fun h=>by omega)]
   ·intro s hs
    obtain⟨T,g,rfl,h0,h1,h2,h7,h8⟩:=hs.out
    simp (disch:=omega) only[evA,argsV,argsOK,partsV,elemsV,optV,evOper,evOp,evAppend,IArg.eval,AS.putD,↓reduceIte,Nat.reduceEqDiff,Option.isSome,Option.isNone,cond_true,cond_false,Nat.reduceBEq,Nat.reduceAdd,Nat.reduceMul,binInt,binStr,eq_self,reduceCtorEq,unAV,lenAV,convAV,sliceAV,bound,isCon,AS.spent,liveAddr,offAddr,elemsOf,Nat.reduceLeDiff,nilCmp,putAt,Int.reduceEq,Int.reduceLT,Int.reduceLE,Int.reduceBEq,Int.reduceBNe,Int.reduceAdd,Int.reduceNeg,Int.reduceSub,Int.reduceMul,ilt_t,ilt_f,ile_t,ile_f,ieq_t,ieq_f,ine_t,ine_f,storeAV,asNat_of,Int.toNat_natCast,Nat.add_zero,h0,h1,h2,h7,h8]
    refine W_countx (min old.length now.length-firstN old now) 2 (fun i=>HdG (fun T=>T 0=.slice (strs layout) false∧T 1=.slice (strs old) false∧T 2=.slice (strs now) false∧T 7=.int .i64 (min old.length now.length:Nat)∧T 8=.int .i64 (firstN old now:Nat)∧T 9=.int .i64 i∧∀ j,j<i→(old.getD (old.length-1-j) []==now.getD (now.length-1-j) [])=true) H H.length)
     (HdG (fun T=>T 0=.slice (strs layout) false∧T 1=.slice (strs old) false∧T 2=.slice (strs now) false∧T 8=.int .i64 (firstN old now:Nat)∧T 9=.int .i64 (lastN old now:Nat)) H H.length) (fun _=>False) ?_ ?_ ?_ 0 _ (by omega) ?_
    ·rintro i s hi hs
     obtain⟨T,g,rfl,h0,h1,h2,h7,h8,h9,hj⟩:=hs.out
     have hlast:∀ (h:i<min old.length now.length-firstN old now→(old.getD (old.length-1-i) []==now.getD (now.length-1-i) [])=false),lastN old now=i:=fun h=>cnt_eq _ hi hj h
     generalize firstN old now=a at *
     by_cases hm' : (i:Int)<((min old.length now.length:Nat):Int)-a
     ·have e1:=List.getElem?_eq_getElem (show old.length-1-i<old.length by omega)
      have e2:=List.getElem?_eq_getElem (show now.length-1-i<now.length by omega)
      have d1:=getD_at (d:=([]:Str)) (show old.length-1-i<old.length by omega)
      have d2:=getD_at (d:=([]:Str)) (show now.length-1-i<now.length by omega)
      have n1:asNat (.int .i64 ((old.length:Int)-1-i))=some (old.length-1-i):=by rw[asNat_of (by omega)];congr 1;omega
      have n2:asNat (.int .i64 ((now.length:Int)-1-i))=some (now.length-1-i):=by rw[asNat_of (by omega)];congr 1;omega
      cases he:(old[old.length-1-i]==now[now.length-1-i]) with
      | true =>
       simp (disch:=omega) only[evA,argsV,argsOK,partsV,elemsV,optV,evOper,evOp,evAppend,IArg.eval,AS.putD,↓reduceIte,Nat.reduceEqDiff,Option.isSome,Option.isNone,cond_true,cond_false,Nat.reduceBEq,Nat.reduceAdd,Nat.reduceMul,binInt,binStr,eq_self,reduceCtorEq,unAV,lenAV,convAV,sliceAV,bound,isCon,AS.spent,liveAddr,offAddr,elemsOf,Nat.reduceLeDiff,nilCmp,putAt,Int.reduceEq,Int.reduceLT,Int.reduceLE,Int.reduceBEq,Int.reduceBNe,Int.reduceAdd,Int.reduceNeg,Int.reduceSub,Int.reduceMul,ilt_t,ilt_f,ile_t,ile_f,ieq_t,ieq_f,ine_t,ine_f,storeAV,asNat_of,Int.toNat_natCast,Nat.add_zero,h0,h1,h2,h7,h8,h9,strs_len,hm',n1,n2,strs_at e1,strs_at e2,he]
       refine⟨by omega,fun j hji=>?_⟩
       rcases (show j<i∨j=i by omega) with h|rfl
       ·exact hj j h
       ·rw[d1,d2];exact he
      | false =>
       simp (disch:=omega) only[evA,argsV,argsOK,partsV,elemsV,optV,evOper,evOp,evAppend,IArg.eval,AS.putD,↓reduceIte,Nat.reduceEqDiff,Option.isSome,Option.isNone,cond_true,cond_false,Nat.reduceBEq,Nat.reduceAdd,Nat.reduceMul,binInt,binStr,eq_self,reduceCtorEq,unAV,lenAV,convAV,sliceAV,bound,isCon,AS.spent,liveAddr,offAddr,elemsOf,Nat.reduceLeDiff,nilCmp,putAt,Int.reduceEq,Int.reduceLT,Int.reduceLE,Int.reduceBEq,Int.reduceBNe,Int.reduceAdd,Int.reduceNeg,Int.reduceSub,Int.reduceMul,ilt_t,ilt_f,ile_t,ile_f,ieq_t,ieq_f,ine_t,ine_f,storeAV,asNat_of,Int.toNat_natCast,Nat.add_zero,h0,h1,h2,h7,h8,h9,strs_len,hm',n1,n2,strs_at e1,strs_at e2,he]
       rw[hlast (fun _=>by rw[d1,d2];exact he)]
     ·simp (disch:=omega) only[evA,argsV,argsOK,partsV,elemsV,optV,evOper,evOp,evAppend,IArg.eval,AS.putD,↓reduceIte,Nat.reduceEqDiff,Option.isSome,Option.isNone,cond_true,cond_false,Nat.reduceBEq,Nat.reduceAdd,Nat.reduceMul,binInt,binStr,eq_self,reduceCtorEq,unAV,lenAV,convAV,sliceAV,bound,isCon,AS.spent,liveAddr,offAddr,elemsOf,Nat.reduceLeDiff,nilCmp,putAt,Int.reduceEq,Int.reduceLT,Int.reduceLE,Int.reduceBEq,Int.reduceBNe,Int.reduceAdd,Int.reduceNeg,Int.reduceSub,Int.reduceMul,ilt_t,ilt_f,ile_t,ile_f,ieq_t,ieq_f,ine_t,ine_f,storeAV,asNat_of,Int.toNat_natCast,Nat.add_zero,h0,h1,h2,h7,h8,h9,strs_len,hm']
      rw[hlast (fun h=>by omega)]
    ·intro s hs
     obtain⟨T,g,rfl,h0,h1,h2,h8,h9⟩:=hs.out
     simp (disch:=omega) only[evA,argsV,argsOK,partsV,elemsV,optV,evOper,evOp,evAppend,IArg.eval,AS.putD,↓reduceIte,Nat.reduceEqDiff,Option.isSome,Option.isNone,cond_true,cond_false,Nat.reduceBEq,Nat.reduceAdd,Nat.reduceMul,binInt,binStr,eq_self,reduceCtorEq,unAV,lenAV,convAV,sliceAV,bound,isCon,AS.spent,liveAddr,offAddr,elemsOf,Nat.reduceLeDiff,nilCmp,putAt,Int.reduceEq,Int.reduceLT,Int.reduceLE,Int.reduceBEq,Int.reduceBNe,Int.reduceAdd,Int.reduceNeg,Int.reduceSub,Int.reduceMul,ilt_t,ilt_f,ile_t,ile_f,ieq_t,ieq_f,ine_t,ine_f,storeAV,asNat_of,Int.toNat_natCast,Nat.add_zero,h0,h1,h2,h8,h9,usual_D now H hn,strs_len,strs_take',r_copyO]
     rw[copy_strs (O:=usual now) heap_last (by rw[usual_len];omega) (by rw[List.length_take];omega)]
     obtain⟨O1,hO1⟩:∃ O1:List Str,(usual now).take 0++layout.take (firstN old now)++(usual now).drop (0+(layout.take (firstN old now)).length)=O1:=⟨_,rfl⟩
     rw[hO1]
     have hk0:old.length-lastN old now<layout.length:=by omega
     have e0:=List.getElem?_eq_getElem hk0
     have n0:asNat (.int .i64 ((old.length:Int)-(lastN old now:Nat)))=some (old.length-lastN old now):=by rw[asNat_of (by omega)];congr 1;omega
     have n3:asNat (.int .i64 ((now.length:Int)-(lastN old now:Nat)))=some (now.length-lastN old now):=by rw[asNat_of (by omega)];congr 1;omega
     have n4:asNat (.int .i64 ((now.length:Int)-(lastN old now:Nat)+1))=some (now.length-lastN old now+1):=by rw[asNat_of (by omega)];congr 1;omega
     have n5:asNat (.int .i64 ((old.length:Int)-(lastN old now:Nat)+1))=some (old.length-lastN old now+1):=by rw[asNat_of (by omega)];congr 1;omega
     have d0:=getD_at (d:=([]:Str)) hk0
     have hho:headOk 1 (strs layout)=true:=by cases layout<;>rfl
     cases hy:(layout[old.length-lastN old now]==[]) with
     | true =>
      have hfin:=kept_cells (layout:=layout) (old:=old) (now:=now) (O2:=O1) hlen hO1 (by rw[d0,if_pos (beq_iff_eq.1 hy)])
      by_cases hz:lastN old now=0
      ·have hd:decide (now.length-lastN old now+1<now.length+1)=false:=decide_eq_false (by omega)
       simp (disch:=omega) only[evA,argsV,argsOK,partsV,elemsV,optV,evOper,evOp,evAppend,IArg.eval,AS.putD,↓reduceIte,Nat.reduceEqDiff,Option.isSome,Option.isNone,cond_true,cond_false,Nat.reduceBEq,Nat.reduceAdd,Nat.reduceMul,binInt,binStr,eq_self,reduceCtorEq,unAV,lenAV,convAV,sliceAV,bound,isCon,AS.spent,liveAddr,offAddr,elemsOf,Nat.reduceLeDiff,nilCmp,putAt,Int.reduceEq,Int.reduceLT,Int.reduceLE,Int.reduceBEq,Int.reduceBNe,Int.reduceAdd,Int.reduceNeg,Int.reduceSub,Int.reduceMul,ilt_t,ilt_f,ile_t,ile_f,ieq_t,ieq_f,ine_t,ine_f,storeAV,asNat_of,Int.toNat_natCast,Nat.add_zero,h0,h1,h2,h8,h9,heap_set,blt_self,strs_len,n0,strs_at e0,hy,n4,n5,strs_drop',r_copyO,hho,hd,copy_nil,Nat.mul_one]
       have hK:O1=kept layout old now:=by
        rw[← hfin.2.2,List.take_of_length_le (by rw[hfin.2.1];omega),List.drop_eq_nil_of_le (by omega),List.append_nil]
       exact⟨_,frz_done (t:=6) (L:=O1) (n:=now.length+1) rfl (by decide) (by simp[AFrame.put]) heap_last (Nat.le_refl _) hfin.2.1 rfl,by rw[hK]⟩
      ·have hd:decide (now.length-lastN old now+1<now.length+1)=true:=decide_eq_true (by omega)
       simp (disch:=omega) only[evA,argsV,argsOK,partsV,elemsV,optV,evOper,evOp,evAppend,IArg.eval,AS.putD,↓reduceIte,Nat.reduceEqDiff,Option.isSome,Option.isNone,cond_true,cond_false,Nat.reduceBEq,Nat.reduceAdd,Nat.reduceMul,binInt,binStr,eq_self,reduceCtorEq,unAV,lenAV,convAV,sliceAV,bound,isCon,AS.spent,liveAddr,offAddr,elemsOf,Nat.reduceLeDiff,nilCmp,putAt,Int.reduceEq,Int.reduceLT,Int.reduceLE,Int.reduceBEq,Int.reduceBNe,Int.reduceAdd,Int.reduceNeg,Int.reduceSub,Int.reduceMul,ilt_t,ilt_f,ile_t,ile_f,ieq_t,ieq_f,ine_t,ine_f,storeAV,asNat_of,Int.toNat_natCast,Nat.add_zero,h0,h1,h2,h8,h9,heap_set,blt_self,strs_len,n0,strs_at e0,hy,n4,n5,strs_drop',r_copyO,hho,hd,Nat.mul_one]
       rw[copy_strs (O:=O1) heap_last (by rw[hfin.2.1];omega) (by rw[List.length_drop];omega)]
       simp (disch:=omega) only[evA,argsV,argsOK,partsV,elemsV,optV,evOper,evOp,evAppend,IArg.eval,AS.putD,↓reduceIte,Nat.reduceEqDiff,Option.isSome,Option.isNone,cond_true,cond_false,Nat.reduceBEq,Nat.reduceAdd,Nat.reduceMul,binInt,binStr,eq_self,reduceCtorEq,unAV,lenAV,convAV,sliceAV,bound,isCon,AS.spent,liveAddr,offAddr,elemsOf,Nat.reduceLeDiff,nilCmp,putAt,Int.reduceEq,Int.reduceLT,Int.reduceLE,Int.reduceBEq,Int.reduceBNe,Int.reduceAdd,Int.reduceNeg,Int.reduceSub,Int.reduceMul,ilt_t,ilt_f,ile_t,ile_f,ieq_t,ieq_f,ine_t,ine_f,storeAV,asNat_of,Int.toNat_natCast,Nat.add_zero,h0,h1,h2,h8,h9,heap_set,blt_self]
       have hK:(O1).take (now.length-lastN old now+1)++layout.drop (old.length-lastN old now+1)++(O1).drop (now.length-lastN old now+1+(layout.drop (old.length-lastN old now+1)).length)=kept layout old now:=by
        rw[show (O1).drop (now.length-lastN old now+1+(layout.drop (old.length-lastN old now+1)).length)=[] from List.drop_eq_nil_of_le (by rw[hfin.2.1,List.length_drop];omega),List.append_nil];exact hfin.2.2
       rw[hK]
       exact⟨_,frz_done (t:=6) (L:=kept layout old now) (n:=now.length+1) rfl (by decide) (by simp[AFrame.put]) heap_last (Nat.le_refl _) (kept_len hlen) rfl,rfl⟩
     | false =>
      have hfin:=kept_cells (layout:=layout) (old:=old) (now:=now) (O2:=O1.set (now.length-lastN old now) layout[old.length-lastN old now]) hlen hO1 (by rw[d0,if_neg (beq_eq_false_iff_ne.1 hy)])
      have hput:=put_strs (O:=O1) (i:=now.length-lastN old now) (x:=layout[old.length-lastN old now]) (by rw[hfin.1];omega)
      by_cases hz:lastN old now=0
      ·have hd:decide (now.length-lastN old now+1<now.length+1)=false:=decide_eq_false (by omega)
       simp (disch:=omega) only[evA,argsV,argsOK,partsV,elemsV,optV,evOper,evOp,evAppend,IArg.eval,AS.putD,↓reduceIte,Nat.reduceEqDiff,Option.isSome,Option.isNone,cond_true,cond_false,Nat.reduceBEq,Nat.reduceAdd,Nat.reduceMul,binInt,binStr,eq_self,reduceCtorEq,unAV,lenAV,convAV,sliceAV,bound,isCon,AS.spent,liveAddr,offAddr,elemsOf,Nat.reduceLeDiff,nilCmp,putAt,Int.reduceEq,Int.reduceLT,Int.reduceLE,Int.reduceBEq,Int.reduceBNe,Int.reduceAdd,Int.reduceNeg,Int.reduceSub,Int.reduceMul,ilt_t,ilt_f,ile_t,ile_f,ieq_t,ieq_f,ine_t,ine_f,storeAV,asNat_of,Int.toNat_natCast,Nat.add_zero,h0,h1,h2,h8,h9,heap_set,blt_self,strs_len,n0,n3,strs_at e0,hy,n4,n5,strs_drop',r_copyO,hho,hd,copy_nil,heap_last,List.length_map,hfin.1,Nat.mul_one,hput]
       have hK:O1.set (now.length-lastN old now) layout[old.length-lastN old now]=kept layout old now:=by
        rw[← hfin.2.2,List.take_of_length_le (by rw[hfin.2.1];omega),List.drop_eq_nil_of_le (by omega),List.append_nil]
       exact⟨_,frz_done (t:=6) (L:=O1.set (now.length-lastN old now) layout[old.length-lastN old now]) (n:=now.length+1) rfl (by decide) (by simp[AFrame.put]) heap_last (Nat.le_refl _) hfin.2.1 rfl,by rw[hK]⟩
      ·have hd:decide (now.length-lastN old now+1<now.length+1)=true:=decide_eq_true (by omega)
       simp (disch:=omega) only[evA,argsV,argsOK,partsV,elemsV,optV,evOper,evOp,evAppend,IArg.eval,AS.putD,↓reduceIte,Nat.reduceEqDiff,Option.isSome,Option.isNone,cond_true,cond_false,Nat.reduceBEq,Nat.reduceAdd,Nat.reduceMul,binInt,binStr,eq_self,reduceCtorEq,unAV,lenAV,convAV,sliceAV,bound,isCon,AS.spent,liveAddr,offAddr,elemsOf,Nat.reduceLeDiff,nilCmp,putAt,Int.reduceEq,Int.reduceLT,Int.reduceLE,Int.reduceBEq,Int.reduceBNe,Int.reduceAdd,Int.reduceNeg,Int.reduceSub,Int.reduceMul,ilt_t,ilt_f,ile_t,ile_f,ieq_t,ieq_f,ine_t,ine_f,storeAV,asNat_of,Int.toNat_natCast,Nat.add_zero,h0,h1,h2,h8,h9,heap_set,blt_self,strs_len,n0,n3,strs_at e0,hy,n4,n5,strs_drop',r_copyO,hho,hd,heap_last,List.length_map,hfin.1,Nat.mul_one,hput]
       rw[copy_strs (O:=O1.set (now.length-lastN old now) layout[old.length-lastN old now]) heap_last (by rw[hfin.2.1];omega) (by rw[List.length_drop];omega)]
       simp (disch:=omega) only[evA,argsV,argsOK,partsV,elemsV,optV,evOper,evOp,evAppend,IArg.eval,AS.putD,↓reduceIte,Nat.reduceEqDiff,Option.isSome,Option.isNone,cond_true,cond_false,Nat.reduceBEq,Nat.reduceAdd,Nat.reduceMul,binInt,binStr,eq_self,reduceCtorEq,unAV,lenAV,convAV,sliceAV,bound,isCon,AS.spent,liveAddr,offAddr,elemsOf,Nat.reduceLeDiff,nilCmp,putAt,Int.reduceEq,Int.reduceLT,Int.reduceLE,Int.reduceBEq,Int.reduceBNe,Int.reduceAdd,Int.reduceNeg,Int.reduceSub,Int.reduceMul,ilt_t,ilt_f,ile_t,ile_f,ieq_t,ieq_f,ine_t,ine_f,storeAV,asNat_of,Int.toNat_natCast,Nat.add_zero,h0,h1,h2,h8,h9,heap_set,blt_self]
       have hK:(O1.set (now.length-lastN old now) layout[old.length-lastN old now]).take (now.length-lastN old now+1)++layout.drop (old.length-lastN old now+1)++(O1.set (now.length-lastN old now) layout[old.length-lastN old now]).drop (now.length-lastN old now+1+(layout.drop (old.length-lastN old now+1)).length)=kept layout old now:=by
        rw[show (O1.set (now.length-lastN old now) layout[old.length-lastN old now]).drop (now.length-lastN old now+1+(layout.drop (old.length-lastN old now+1)).length)=[] from List.drop_eq_nil_of_le (by rw[hfin.2.1,List.length_drop];omega),List.append_nil];exact hfin.2.2
       rw[hK]
       exact⟨_,frz_done (t:=6) (L:=kept layout old now) (n:=now.length+1) rfl (by decide) (by simp[AFrame.put]) heap_last (Nat.le_refl _) (kept_len hlen) rfl,rfl⟩
    ·intro s hs;exact hs.elim
    ·simp (disch:=omega) only[evA,argsV,argsOK,partsV,elemsV,optV,evOper,evOp,evAppend,IArg.eval,AS.putD,↓reduceIte,Nat.reduceEqDiff,Option.isSome,Option.isNone,cond_true,cond_false,Nat.reduceBEq,Nat.reduceAdd,Nat.reduceMul,binInt,binStr,eq_self,reduceCtorEq,unAV,lenAV,convAV,sliceAV,bound,isCon,AS.spent,liveAddr,offAddr,elemsOf,Nat.reduceLeDiff,nilCmp,putAt,Int.reduceEq,Int.reduceLT,Int.reduceLE,Int.reduceBEq,Int.reduceBNe,Int.reduceAdd,Int.reduceNeg,Int.reduceSub,Int.reduceMul,ilt_t,ilt_f,ile_t,ile_f,ieq_t,ieq_f,ine_t,ine_f,storeAV,asNat_of,Int.toNat_natCast,Nat.add_zero,h0,h1,h2,h7,h8,Int.natCast_zero]
     exact fun j h=>absurd h (Nat.not_lt_zero j)
   ·intro s hs;exact hs.elim
   ·simp (disch:=omega) only[evA,argsV,argsOK,partsV,elemsV,optV,evOper,evOp,evAppend,IArg.eval,AS.putD,↓reduceIte,Nat.reduceEqDiff,Option.isSome,Option.isNone,cond_true,cond_false,Nat.reduceBEq,Nat.reduceAdd,Nat.reduceMul,binInt,binStr,eq_self,reduceCtorEq,unAV,lenAV,convAV,sliceAV,bound,isCon,AS.spent,liveAddr,offAddr,elemsOf,Nat.reduceLeDiff,nilCmp,putAt,Int.reduceEq,Int.reduceLT,Int.reduceLE,Int.reduceBEq,Int.reduceBNe,Int.reduceAdd,Int.reduceNeg,Int.reduceSub,Int.reduceMul,ilt_t,ilt_f,ile_t,ile_f,ieq_t,ieq_f,ine_t,ine_f,storeAV,asNat_of,Int.toNat_natCast,Nat.add_zero,Int.natCast_zero]
    exact fun j h=>absurd h (Nat.not_lt_zero j)
  obtain⟨r,h,rfl⟩:=key
  exact h
 ·refine⟨true,callD_W (fn:=ir5) rfl rfl rfl ?_⟩
  unfold ir5
  have hne:((layout.length:Int) != (old.length:Int)+1)=true:=by simp;omega
  have hk:kept layout old now=[]:=by simp[kept,hlen]
  simp (disch:=omega) only[evA,argsV,argsOK,partsV,elemsV,optV,evOper,evOp,evAppend,IArg.eval,AS.putD,↓reduceIte,Nat.reduceEqDiff,Option.isSome,Option.isNone,cond_true,cond_false,Nat.reduceBEq,Nat.reduceAdd,Nat.reduceMul,binInt,binStr,eq_self,reduceCtorEq,unAV,lenAV,convAV,sliceAV,bound,isCon,AS.spent,liveAddr,offAddr,elemsOf,Nat.reduceLeDiff,nilCmp,putAt,Int.reduceEq,Int.reduceLT,Int.reduceLE,Int.reduceBEq,Int.reduceBNe,Int.reduceAdd,Int.reduceNeg,Int.reduceSub,Int.reduceMul,ilt_t,ilt_f,ile_t,ile_f,ieq_t,ieq_f,ine_t,ine_f,storeAV,asNat_of,Int.toNat_natCast,Nat.add_zero,strs_len,hne,hk,strs_nil]
end Go.Proofs.YtaedakihpnghjaaGreatDoor
end
