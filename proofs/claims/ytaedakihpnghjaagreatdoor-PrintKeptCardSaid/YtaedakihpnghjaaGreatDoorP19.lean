/-
  A part of the proof of PrintKept: K5.
-/
import Derived.Test.YtaedakihpnghjaaGreatDoorP18
set_option linter.unusedSimpArgs false
set_option linter.unusedVariables false
section
set_option linter.unusedSimpArgs false
set_option linter.unusedVariables false
set_option maxRecDepth 100000
namespace Go.Proofs.YtaedakihpnghjaaGreatDoor
open Go Go.Abs Go.Proofs
theorem lives_B:callD B 8 [] []=some (.bool true,none):=callD_ov rfl rfl rfl
theorem around_range {n k:Int} (hn:I64 n) (hk:0<k):0≤around n k∧around n k<k:=by
 obtain⟨h1,h2⟩:=hn
 unfold around
 split
 ·have h0:0≤-(n+1):=by omega
  rw[Int.tmod_eq_emod_of_nonneg h0]
  exact⟨Int.emod_nonneg _ (by omega),Int.emod_lt_of_pos _ hk⟩
 ·have h0:0≤n:=by omega
  rw[Int.tmod_eq_emod_of_nonneg h0]
  exact⟨Int.emod_nonneg _ (by omega),Int.emod_lt_of_pos _ hk⟩
theorem agree (layout old now:List Str) (hl:layout.length≤1000) (ho:old.length≤1000) (hn:now.length≤1000) :
  ∃ o o',callD B 5 [.slice (strs layout) false,.slice (strs old) false,.slice (strs now) false] []=some (.slice (strs (kept layout old now)) o,none) ∧
   callD B 6 [.slice (strs layout) false,.slice (strs old) false,.slice (strs now) false] []=some (.slice (strs (kept layout old now)) o',none) ∧
   callD B 4 [.slice (strs (kept layout old now)) false,.slice (strs (kept layout old now)) false] []=some (.bool true,none):=by
 obtain⟨o,h1⟩:=kept_D layout old now [] (by omega) (by omega) (by omega)
 obtain⟨o',h2⟩:=keptR_D layout old now [] (by omega) (by omega) (by omega)
 refine⟨o,o',h1,h2,?_⟩
 have hk:(kept layout old now).length≤1001:=by
  unfold kept;split
  ·simp;omega
  ·simp
 rw[same_D _ _ [] false false (by omega)]
 simp
theorem condW_cut {v:AV} {X Y:ICode} {Kont:AS→Prop} {Q:IExit→AS→Prop} {st:AS} (R:AS→Prop)
  (h1:condW v (fun s=>W B X s (andThen R Q)) (fun s=>W B Y s (andThen R Q)) st) (h2:∀ s,R s→Kont s) :
  condW v (fun s=>W B X s (andThen Kont Q)) (fun s=>W B Y s (andThen Kont Q)) st:=by
 obtain⟨b,hv,ht,hf⟩:=h1
 have up:∀ e s,andThen R Q e s→andThen Kont Q e s:=fun e s h=>by
  cases e with
  | normal=>exact h2 s h
  | _=>exact h
 exact⟨b,hv,fun hb=>W_mono (ht hb) up,fun hb=>W_mono (hf hb) up⟩
theorem law_D (layout old now:List Str) (at' : Int) (by' : Str) (hat:I64 at') :
  callD B 3 [.slice (strs layout) false,.slice (strs old) false,.slice (strs now) false,.int .i64 at',.str by'] []=some (.bool true,none):=by
 refine callD_W (fn:=ir3) rfl rfl rfl ?_
 unfold ir3
 simp (disch:=omega) only[evA,argsV,argsOK,partsV,elemsV,optV,evOper,evOp,evAppend,IArg.eval,AS.putD,↓reduceIte,Nat.reduceEqDiff,Option.isSome,Option.isNone,cond_true,cond_false,Nat.reduceBEq,Nat.reduceAdd,Nat.reduceMul,binInt,binStr,eq_self,reduceCtorEq,unAV,lenAV,convAV,sliceAV,bound,isCon,AS.spent,liveAddr,offAddr,elemsOf,Nat.reduceLeDiff,nilCmp,putAt,Int.reduceEq,Int.reduceLT,Int.reduceLE,Int.reduceBEq,Int.reduceBNe,Int.reduceAdd,Int.reduceNeg,Int.reduceSub,Int.reduceMul,ilt_t,ilt_f,ile_t,ile_f,ieq_t,ieq_f,ine_t,ine_f,storeAV,asNat_of,Int.toNat_natCast,Nat.add_zero,strs_len,strs_take']
 have ha0:(layout.take (if (31:Int)<layout.length then (31:Int) else layout.length).toNat).length≤31:=by rw[List.length_take];split<;>omega
 have hb0:(old.take (if (30:Int)<old.length then (30:Int) else old.length).toNat).length≤30:=by rw[List.length_take];split<;>omega
 have hc0:(now.take (if (30:Int)<now.length then (30:Int) else now.length).toNat).length≤30:=by rw[List.length_take];split<;>omega
 generalize layout.take (if (31:Int)<layout.length then (31:Int) else layout.length).toNat=a at *
 generalize old.take (if (30:Int)<old.length then (30:Int) else old.length).toNat=b at *
 generalize now.take (if (30:Int)<now.length then (30:Int) else now.length).toNat=c at *
 obtain⟨o5,o6,k5,k6,k4⟩:=agree a b c (by omega) (by omega) (by omega)
 have hfb:fitsRows 1 16 [] (strs b)=true:=by
  have h1:headOk 1 (strs b)=true:=by cases b<;>rfl
  have e1:Nat.ble (b.length*16) 70368744177664=true:=by rw[Nat.ble_eq];omega
  have e2:Nat.ble b.length 70368744177664=true:=by rw[Nat.ble_eq];omega
  unfold fitsRows
  rw[h1]
  simp only[List.length_nil,Nat.zero_add,strs_len,e1,e2]
  rfl
 simp (disch:=omega) only[evA,argsV,argsOK,partsV,elemsV,optV,evOper,evOp,evAppend,IArg.eval,AS.putD,↓reduceIte,Nat.reduceEqDiff,Option.isSome,Option.isNone,cond_true,cond_false,Nat.reduceBEq,Nat.reduceAdd,Nat.reduceMul,binInt,binStr,eq_self,reduceCtorEq,unAV,lenAV,convAV,sliceAV,bound,isCon,AS.spent,liveAddr,offAddr,elemsOf,Nat.reduceLeDiff,nilCmp,putAt,Int.reduceEq,Int.reduceLT,Int.reduceLE,Int.reduceBEq,Int.reduceBNe,Int.reduceAdd,Int.reduceNeg,Int.reduceSub,Int.reduceMul,ilt_t,ilt_f,ile_t,ile_f,ieq_t,ieq_f,ine_t,ine_f,storeAV,asNat_of,Int.toNat_natCast,Nat.add_zero,k5,k6,k4,hfb,List.isEmpty_nil]
 refine condW_cut (fun s=>∃ d:List Str,d.length=b.length∧HdG (fun T=>T 3=.int .i64 at'∧T 12=.slice (strs b) false∧T 13=.slice (strs c) false∧∃ g,T 14=.lsl g (strs d)) [] 0 s) ?_ ?_
 ·refine condW_dec ?_ ?_<;>intro h
  ·rw[strs_len] at h
   have hb1:0<b.length:=by omega
   obtain⟨r1,r2⟩:=around_range (k:=(b.length:Int)) hat (by omega)
   have hkl:(around at' b.length).toNat<b.length:=by omega
   have ek:=List.getElem?_eq_getElem hkl
   simp (disch:=omega) only[evA,argsV,argsOK,partsV,elemsV,optV,evOper,evOp,evAppend,IArg.eval,AS.putD,↓reduceIte,Nat.reduceEqDiff,Option.isSome,Option.isNone,cond_true,cond_false,Nat.reduceBEq,Nat.reduceAdd,Nat.reduceMul,binInt,binStr,eq_self,reduceCtorEq,unAV,lenAV,convAV,sliceAV,bound,isCon,AS.spent,liveAddr,offAddr,elemsOf,Nat.reduceLeDiff,nilCmp,putAt,Int.reduceEq,Int.reduceLT,Int.reduceLE,Int.reduceBEq,Int.reduceBNe,Int.reduceAdd,Int.reduceNeg,Int.reduceSub,Int.reduceMul,ilt_t,ilt_f,ile_t,ile_f,ieq_t,ieq_f,ine_t,ine_f,storeAV,asNat_of,Int.toNat_natCast,Nat.add_zero,strs_len,around_D at' b.length [] hat (by omega),asNat_of r1,strs_at ek]
   exact⟨b.set (around at' b.length).toNat by',by simp,1,by simp[strs,List.map_set]⟩
  ·simp (disch:=omega) only[evA,argsV,argsOK,partsV,elemsV,optV,evOper,evOp,evAppend,IArg.eval,AS.putD,↓reduceIte,Nat.reduceEqDiff,Option.isSome,Option.isNone,cond_true,cond_false,Nat.reduceBEq,Nat.reduceAdd,Nat.reduceMul,binInt,binStr,eq_self,reduceCtorEq,unAV,lenAV,convAV,sliceAV,bound,isCon,AS.spent,liveAddr,offAddr,elemsOf,Nat.reduceLeDiff,nilCmp,putAt,Int.reduceEq,Int.reduceLT,Int.reduceLE,Int.reduceBEq,Int.reduceBNe,Int.reduceAdd,Int.reduceNeg,Int.reduceSub,Int.reduceMul,ilt_t,ilt_f,ile_t,ile_f,ieq_t,ieq_f,ine_t,ine_f,storeAV,asNat_of,Int.toNat_natCast,Nat.add_zero]
   exact⟨b,rfl,by simp[HdG]⟩
 ·rintro s ⟨d,hd,hs⟩
  obtain⟨T,g,rfl,h3,h12,h13,g1,h14⟩:=hs.out
  simp (disch:=omega) only[evA,argsV,argsOK,partsV,elemsV,optV,evOper,evOp,evAppend,IArg.eval,AS.putD,↓reduceIte,Nat.reduceEqDiff,Option.isSome,Option.isNone,cond_true,cond_false,Nat.reduceBEq,Nat.reduceAdd,Nat.reduceMul,binInt,binStr,eq_self,reduceCtorEq,unAV,lenAV,convAV,sliceAV,bound,isCon,AS.spent,liveAddr,offAddr,elemsOf,Nat.reduceLeDiff,nilCmp,putAt,Int.reduceEq,Int.reduceLT,Int.reduceLE,Int.reduceBEq,Int.reduceBNe,Int.reduceAdd,Int.reduceNeg,Int.reduceSub,Int.reduceMul,ilt_t,ilt_f,ile_t,ile_f,ieq_t,ieq_f,ine_t,ine_f,storeAV,asNat_of,Int.toNat_natCast,Nat.add_zero,h3,h12,h13,h14,strs_len]
  obtain⟨q1,q2⟩:-9000000000000000000≤at'.tdiv 7∧at'.tdiv 7≤9000000000000000000:=by
   obtain⟨u1,u2⟩:=hat
   by_cases hneg:at' < 0
   ·have e:at'.tdiv 7=-((-at') / 7):=by rw[← Int.tdiv_eq_ediv_of_nonneg (show 0≤-at' by omega),Int.neg_tdiv,Int.neg_neg]
    omega
   ·rw[Int.tdiv_eq_ediv_of_nonneg (show 0≤at' by omega)];omega
  refine W_countx (b.length+1) 0 (fun i s=>∃ F:List Str,F.length=i∧HdG (fun T=>T 3=.int .i64 at'∧T 12=.slice (strs b) false∧T 13=.slice (strs c) false∧T 14=.lsl g1 (strs d)∧T 15=.slice (strs F) true∧T 16=.int .i64 i) [] 0 s)
   (fun s=>∃ F:List Str,F.length=b.length+1∧HdG (fun T=>T 12=.slice (strs b) false∧T 13=.slice (strs c) false∧T 14=.lsl g1 (strs d)∧T 15=.slice (strs F) true) [] 0 s) (fun _=>False) ?_ ?_ ?_ 0 _ (by omega) ?_
  ·rintro i s hi ⟨F,hF,hs⟩
   obtain⟨T,g,rfl,h3,h12,h13,h14,h15,h16⟩:=hs.out
   simp (disch:=omega) only[evA,argsV,argsOK,partsV,elemsV,optV,evOper,evOp,evAppend,IArg.eval,AS.putD,↓reduceIte,Nat.reduceEqDiff,Option.isSome,Option.isNone,cond_true,cond_false,Nat.reduceBEq,Nat.reduceAdd,Nat.reduceMul,binInt,binStr,eq_self,reduceCtorEq,unAV,lenAV,convAV,sliceAV,bound,isCon,AS.spent,liveAddr,offAddr,elemsOf,Nat.reduceLeDiff,nilCmp,putAt,Int.reduceEq,Int.reduceLT,Int.reduceLE,Int.reduceBEq,Int.reduceBNe,Int.reduceAdd,Int.reduceNeg,Int.reduceSub,Int.reduceMul,ilt_t,ilt_f,ile_t,ile_f,ieq_t,ieq_f,ine_t,ine_f,storeAV,asNat_of,Int.toNat_natCast,Nat.add_zero,h12,h16,strs_len]
   refine condW_dec ?_ ?_<;>intro h
   ·have hib:i≤30:=by omega
    obtain⟨m,hm⟩:∃ m:Int,(i:Int)*i=m:=⟨_,rfl⟩
    have hm0:0≤m∧m≤900:=by
     have h1:i*i≤30*30:=Nat.mul_le_mul hib hib
     have h2:((i*i:Nat):Int)=m:=by rw[← hm];simp
     omega
    have hi4:I64 (at'.tdiv 7+m):=⟨by omega,by omega⟩
    obtain⟨r1,r2⟩:=around_range (k:=4) hi4 (by omega)
    obtain⟨x,hx⟩:∃ x:Str,(strs [[],[32],[10],[35,32,120,10]])[(around (at'.tdiv 7+m) 4).toNat]?=some [.str x]:=by
     have hlt:(around (at'.tdiv 7+m) 4).toNat<([[],[32],[10],[35,32,120,10]]:List Str).length:=by simp;omega
     exact⟨_,strs_at (List.getElem?_eq_getElem hlt)⟩
    have hsp:sliceParts 1 [[AV.str []],[AV.str []],[AV.str []],[AV.str []]] [(0,AV.str []),(1,AV.str [32]),(2,AV.str [10]),(3,AV.str [35,32,120,10])]=some (strs [[],[32],[10],[35,32,120,10]]):=by rfl
    simp (disch:=omega) only[evA,argsV,argsOK,partsV,elemsV,optV,evOper,evOp,evAppend,IArg.eval,AS.putD,↓reduceIte,Nat.reduceEqDiff,Option.isSome,Option.isNone,cond_true,cond_false,Nat.reduceBEq,Nat.reduceAdd,Nat.reduceMul,binInt,binStr,eq_self,reduceCtorEq,unAV,lenAV,convAV,sliceAV,bound,isCon,AS.spent,liveAddr,offAddr,elemsOf,Nat.reduceLeDiff,nilCmp,putAt,Int.reduceEq,Int.reduceLT,Int.reduceLE,Int.reduceBEq,Int.reduceBNe,Int.reduceAdd,Int.reduceNeg,Int.reduceSub,Int.reduceMul,ilt_t,ilt_f,ile_t,ile_f,ieq_t,ieq_f,ine_t,ine_f,storeAV,asNat_of,Int.toNat_natCast,Nat.add_zero,h3,h12,h13,h14,h15,h16,strs_len,hsp,hm,around_D _ 4 [] hi4 (by omega),asNat_of r1,hx]
    exact⟨by omega,F++[x],by simp[hF],rfl⟩
   ·simp (disch:=omega) only[evA,argsV,argsOK,partsV,elemsV,optV,evOper,evOp,evAppend,IArg.eval,AS.putD,↓reduceIte,Nat.reduceEqDiff,Option.isSome,Option.isNone,cond_true,cond_false,Nat.reduceBEq,Nat.reduceAdd,Nat.reduceMul,binInt,binStr,eq_self,reduceCtorEq,unAV,lenAV,convAV,sliceAV,bound,isCon,AS.spent,liveAddr,offAddr,elemsOf,Nat.reduceLeDiff,nilCmp,putAt,Int.reduceEq,Int.reduceLT,Int.reduceLE,Int.reduceBEq,Int.reduceBNe,Int.reduceAdd,Int.reduceNeg,Int.reduceSub,Int.reduceMul,ilt_t,ilt_f,ile_t,ile_f,ieq_t,ieq_f,ine_t,ine_f,storeAV,asNat_of,Int.toNat_natCast,Nat.add_zero,h12,h13,h14,h15]
    exact⟨F,by omega,rfl⟩
  ·rintro s ⟨F,hF,hs⟩
   obtain⟨T,g,rfl,h12,h13,h14,h15⟩:=hs.out
   have hnb:noByte (strs d)=true:=by simp[noByte,strs]
   have happ:∀ o,appendAV false 1 16 (.slice [] true) (.slice (strs b) o)=some (.slice (strs b) true):=fun o=>app_strs (l:=[]) (by simp;omega)
   obtain⟨R,hR⟩:∃ R:List (List AV),(([b,c,d,[],b++c]:List (List Str)).map fun x=>[AV.slice (strs x) false])=R:=⟨_,rfl⟩
   have hRl:R.length=5:=by rw[← hR];rfl
   have hRa:∀ i,i<5→∃ x:List Str,x.length≤60∧R[i]?=some [AV.slice (strs x) false]:=by
    intro i hi
    have hi' : i<([b,c,d,[],b++c]:List (List Str)).length:=hi
    refine⟨([b,c,d,[],b++c]:List (List Str))[i],?_,by rw[← hR,List.getElem?_map,List.getElem?_eq_getElem hi'];rfl⟩
    match i,hi with
    | 0,_=>show b.length≤60;omega
    | 1,_=>show c.length≤60;omega
    | 2,_=>show d.length≤60;omega
    | 3,_=>exact Nat.zero_le _
    | 4,_=>show (b++c).length≤60;rw[List.length_append];omega
   have hsp:sliceParts 1 [[AV.slice [] false],[AV.slice [] false],[AV.slice [] false],[AV.slice [] false],[AV.slice [] false]] [(0,AV.slice (strs b) false),(1,AV.slice (strs c) false),(2,AV.slice (strs d) false),(3,AV.slice [] false),(4,AV.slice (strs (b++c)) false)]=some R:=by rw[← hR];rfl
   have hro:rowsOK false R=true:=by rw[← hR];rfl
   simp (disch:=omega) only[evA,argsV,argsOK,partsV,elemsV,optV,evOper,evOp,evAppend,IArg.eval,AS.putD,↓reduceIte,Nat.reduceEqDiff,Option.isSome,Option.isNone,cond_true,cond_false,Nat.reduceBEq,Nat.reduceAdd,Nat.reduceMul,binInt,binStr,eq_self,reduceCtorEq,unAV,lenAV,convAV,sliceAV,bound,isCon,AS.spent,liveAddr,offAddr,elemsOf,Nat.reduceLeDiff,nilCmp,putAt,Int.reduceEq,Int.reduceLT,Int.reduceLE,Int.reduceBEq,Int.reduceBNe,Int.reduceAdd,Int.reduceNeg,Int.reduceSub,Int.reduceMul,ilt_t,ilt_f,ile_t,ile_f,ieq_t,ieq_f,ine_t,ine_f,storeAV,asNat_of,Int.toNat_natCast,Nat.add_zero,h12,h13,h14,h15,strs_len,hnb,happ,hsp,hro]
   refine W_countx 5 2 (fun i=>HdG (fun T=>T 12=.slice (strs b) false∧T 15=.slice (strs F) true∧T 17=.slice R true∧T 18=.int .i64 i) [] 0)
    (HdG (fun _=>True) [] 0) (fun _=>False) ?_ ?_ ?_ 0 _ (by omega) ?_
   ·rintro i s hi hs
    obtain⟨T,g,rfl,h12,h15,h17,h18⟩:=hs.out
    simp (disch:=omega) only[evA,argsV,argsOK,partsV,elemsV,optV,evOper,evOp,evAppend,IArg.eval,AS.putD,↓reduceIte,Nat.reduceEqDiff,Option.isSome,Option.isNone,cond_true,cond_false,Nat.reduceBEq,Nat.reduceAdd,Nat.reduceMul,binInt,binStr,eq_self,reduceCtorEq,unAV,lenAV,convAV,sliceAV,bound,isCon,AS.spent,liveAddr,offAddr,elemsOf,Nat.reduceLeDiff,nilCmp,putAt,Int.reduceEq,Int.reduceLT,Int.reduceLE,Int.reduceBEq,Int.reduceBNe,Int.reduceAdd,Int.reduceNeg,Int.reduceSub,Int.reduceMul,ilt_t,ilt_f,ile_t,ile_f,ieq_t,ieq_f,ine_t,ine_f,storeAV,asNat_of,Int.toNat_natCast,Nat.add_zero,h17,h18,hRl]
    refine condW_dec ?_ ?_<;>intro h
    ·obtain⟨x,hxl,hx⟩:=hRa i (by omega)
     obtain⟨p5,p6,k5,k6,k4⟩:=agree F b x (by omega) (by omega) (by omega)
     simp (disch:=omega) only[evA,argsV,argsOK,partsV,elemsV,optV,evOper,evOp,evAppend,IArg.eval,AS.putD,↓reduceIte,Nat.reduceEqDiff,Option.isSome,Option.isNone,cond_true,cond_false,Nat.reduceBEq,Nat.reduceAdd,Nat.reduceMul,binInt,binStr,eq_self,reduceCtorEq,unAV,lenAV,convAV,sliceAV,bound,isCon,AS.spent,liveAddr,offAddr,elemsOf,Nat.reduceLeDiff,nilCmp,putAt,Int.reduceEq,Int.reduceLT,Int.reduceLE,Int.reduceBEq,Int.reduceBNe,Int.reduceAdd,Int.reduceNeg,Int.reduceSub,Int.reduceMul,ilt_t,ilt_f,ile_t,ile_f,ieq_t,ieq_f,ine_t,ine_f,storeAV,asNat_of,Int.toNat_natCast,Nat.add_zero,h12,h15,h17,h18,hx,k5,k6,k4]
     omega
    ·simp (disch:=omega) only[evA,argsV,argsOK,partsV,elemsV,optV,evOper,evOp,evAppend,IArg.eval,AS.putD,↓reduceIte,Nat.reduceEqDiff,Option.isSome,Option.isNone,cond_true,cond_false,Nat.reduceBEq,Nat.reduceAdd,Nat.reduceMul,binInt,binStr,eq_self,reduceCtorEq,unAV,lenAV,convAV,sliceAV,bound,isCon,AS.spent,liveAddr,offAddr,elemsOf,Nat.reduceLeDiff,nilCmp,putAt,Int.reduceEq,Int.reduceLT,Int.reduceLE,Int.reduceBEq,Int.reduceBNe,Int.reduceAdd,Int.reduceNeg,Int.reduceSub,Int.reduceMul,ilt_t,ilt_f,ile_t,ile_f,ieq_t,ieq_f,ine_t,ine_f,storeAV,asNat_of,Int.toNat_natCast,Nat.add_zero]
   ·intro s hs
    obtain⟨T,g,rfl,_⟩:=hs.out
    simp (disch:=omega) only[evA,argsV,argsOK,partsV,elemsV,optV,evOper,evOp,evAppend,IArg.eval,AS.putD,↓reduceIte,Nat.reduceEqDiff,Option.isSome,Option.isNone,cond_true,cond_false,Nat.reduceBEq,Nat.reduceAdd,Nat.reduceMul,binInt,binStr,eq_self,reduceCtorEq,unAV,lenAV,convAV,sliceAV,bound,isCon,AS.spent,liveAddr,offAddr,elemsOf,Nat.reduceLeDiff,nilCmp,putAt,Int.reduceEq,Int.reduceLT,Int.reduceLE,Int.reduceBEq,Int.reduceBNe,Int.reduceAdd,Int.reduceNeg,Int.reduceSub,Int.reduceMul,ilt_t,ilt_f,ile_t,ile_f,ieq_t,ieq_f,ine_t,ine_f,storeAV,asNat_of,Int.toNat_natCast,Nat.add_zero,lives_B]
   ·intro s hs;exact hs.elim
   ·simp (disch:=omega) only[evA,argsV,argsOK,partsV,elemsV,optV,evOper,evOp,evAppend,IArg.eval,AS.putD,↓reduceIte,Nat.reduceEqDiff,Option.isSome,Option.isNone,cond_true,cond_false,Nat.reduceBEq,Nat.reduceAdd,Nat.reduceMul,binInt,binStr,eq_self,reduceCtorEq,unAV,lenAV,convAV,sliceAV,bound,isCon,AS.spent,liveAddr,offAddr,elemsOf,Nat.reduceLeDiff,nilCmp,putAt,Int.reduceEq,Int.reduceLT,Int.reduceLE,Int.reduceBEq,Int.reduceBNe,Int.reduceAdd,Int.reduceNeg,Int.reduceSub,Int.reduceMul,ilt_t,ilt_f,ile_t,ile_f,ieq_t,ieq_f,ine_t,ine_f,storeAV,asNat_of,Int.toNat_natCast,Nat.add_zero]
    exact⟨h12,h15,by rw[← hR];rfl⟩
  ·intro s hs;exact hs.elim
  ·simp (disch:=omega) only[evA,argsV,argsOK,partsV,elemsV,optV,evOper,evOp,evAppend,IArg.eval,AS.putD,↓reduceIte,Nat.reduceEqDiff,Option.isSome,Option.isNone,cond_true,cond_false,Nat.reduceBEq,Nat.reduceAdd,Nat.reduceMul,binInt,binStr,eq_self,reduceCtorEq,unAV,lenAV,convAV,sliceAV,bound,isCon,AS.spent,liveAddr,offAddr,elemsOf,Nat.reduceLeDiff,nilCmp,putAt,Int.reduceEq,Int.reduceLT,Int.reduceLE,Int.reduceBEq,Int.reduceBNe,Int.reduceAdd,Int.reduceNeg,Int.reduceSub,Int.reduceMul,ilt_t,ilt_f,ile_t,ile_f,ieq_t,ieq_f,ine_t,ine_f,storeAV,asNat_of,Int.toNat_natCast,Nat.add_zero]
   exact⟨[],rfl,h3,h12,h13,h14,rfl⟩
end Go.Proofs.YtaedakihpnghjaaGreatDoor
end
