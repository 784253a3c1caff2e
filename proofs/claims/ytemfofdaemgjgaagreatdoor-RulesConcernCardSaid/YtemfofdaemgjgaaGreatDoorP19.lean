/-
  A part of the proof of RulesConcern: C7, D1, D2.
-/
import Derived.Test.YtemfofdaemgjgaaGreatDoorP18
set_option linter.unusedSimpArgs false
set_option linter.unusedVariables false
section
set_option linter.unusedSimpArgs false
set_option linter.unusedVariables false
set_option maxRecDepth 100000
namespace Go.Proofs.YtemfofdaemgjgaaGreatDoor
open Go Go.Abs Go.Proofs
def HdH (P:AFrame→AHeap→Prop) (lo:Nat) (s:AS):Prop:=P s.T s.H∧s.lo=lo
theorem HdH.out {P:AFrame→AHeap→Prop} {lo:Nat} {s:AS} (h:HdH P lo s):∃ T H g,s=⟨T,H,lo,g⟩∧P T H:=by
 obtain⟨T,H,l,g⟩:=s
 obtain⟨h1,h2⟩:=h
 simp only at h1 h2
 subst h2
 exact⟨T,H,g,rfl,h1⟩
theorem x_hdh {P:AFrame→AHeap→Prop} {lo lo' gen:Nat} {T:AFrame} {H:AHeap} : HdH P lo' ⟨T,H,lo,gen⟩=(P T H∧lo=lo'):=rfl
def nrows (ns:List Str):List (List AV):=ns.map fun s=>[.str s,.bool true]
def addN (ns:List Str) (s:Str):List Str:=if ns.contains s then ns else ns++[s]
theorem addN_contains (ns:List Str) (s t:Str):(addN ns s).contains t=(ns.contains t || t==s):=by
 unfold addN
 by_cases h:ns.contains s=true
 ·rw[if_pos h]
  by_cases hts:t=s
  ·subst hts;rw[h];simp
  ·simp[hts]
 ·rw[if_neg h,Bool.eq_iff_iff]
  simp
theorem findN:∀ (ns:List Str) (s:Str),∃ o,findE [.s] [.str s] (nrows ns)=some o∧((o=none∧ns.contains s=false)∨∃ i,o=some i∧ns[i]?=some s∧ns.contains s=true)
 | [],s=>⟨none,rfl,.inl ⟨rfl,rfl⟩⟩
 | a :: ns,s=>by
  have e:nrows (a :: ns)=[.str a,.bool true] :: nrows ns:=rfl
  by_cases h:s=a
  ·subst h
   exact⟨some 0,by rw[e];simp[findE,eqFlat],.inr ⟨0,rfl,rfl,by simp⟩⟩
  ·obtain⟨o,h1,h2⟩:=findN ns s
   have hb:(s==a)=false:=by simpa using h
   refine⟨o.map (· + 1),by rw[e];simp[findE,eqFlat,hb,h1],?_⟩
   rcases h2 with ⟨rfl,h2⟩|⟨i,rfl,h2,h3⟩
   ·exact .inl ⟨rfl,by rw[List.contains_cons,hb,h2];rfl⟩
   ·exact .inr ⟨i+1,rfl,h2,by rw[List.contains_cons,h3,Bool.or_true]⟩
theorem look_names {H:AHeap} {l:Nat} {ns:List Str} {s:Str} (hl:H[l]?=some (.map 1 false false (nrows ns))) :
  lookX H false 1 false false [.s] [.bool false] (.mref l) (.str s)=some (.bool (ns.contains s)):=by
 obtain⟨o,h1,h2⟩:=findN ns s
 have hk:keyV (.str s) 1 false=some [.str s]:=rfl
 simp only[lookX,hk,Option.bind_some,hl,Nat.beq_refl,beq_self_eq_true,Bool.and_true,cond_true,h1,Option.map_some,Option.some.injEq]
 rcases h2 with ⟨rfl,h2⟩|⟨i,rfl,h2,h3⟩
 ·rw[h2];rfl
 ·rw[h3]
  have:(nrows ns)[i]?=some [.str s,.bool true]:=by simp[nrows,h2]
  simp[lookO,lookV,List.getD,this,AV.drop]
theorem mset_names {T:AFrame} {H:AHeap} {lo gen l:Nat} {ns:List Str} {s:Str} (hl:H[l]?=some (.map 1 false false (nrows ns))) :
  evMset ⟨T,H,lo,gen⟩ 1 false false 1 [.s] (.mref l) (.str s) (.bool true)=some ⟨T,H.set l (.map 1 false false (nrows (addN ns s))),cond (Nat.blt l lo) l lo,gen⟩:=by
 obtain⟨o,h1,h2⟩:=findN ns s
 have e:setR (nrows ns) o [.str s,.bool true]=nrows (addN ns s):=by
  rcases h2 with ⟨rfl,h2⟩|⟨i,rfl,h2,h3⟩
  ·rw[addN,h2];simp[setR,nrows]
  ·rw[addN,if_pos h3]
   have hlt:=(List.getElem?_eq_some_iff.1 h2)
   obtain⟨h4,h5⟩:=hlt
   show (nrows ns).set i _=_
   refine List.ext_getElem? fun j=>?_
   rw[List.getElem?_set]
   split
   ·rename_i hij
    subst hij
    rw[if_pos (by simp[nrows,h4])]
    simp[nrows,h2]
   ·rfl
 simp only[evMset,hl,AV.drop,AV.cells,Option.bind_some,List.length_cons,List.length_nil,Nat.reduceAdd,Nat.beq_refl,beq_self_eq_true,Bool.true_and,List.all_cons,List.all_nil,AV.isAgg,h1,Option.map_some]
 show some _=some _
 rw[← e]
 rfl
def hitB (p:Prog) (k:Int) (on to id:Id) (m:Mod):Bool :=
 (modsOf p (xOf k on id)++(if k=6 then [to] else [])).contains m.id || (decide (k=8)&&!isOf p (xOf k on id))
def namesOf (p:Prog) (k:Int) (on to id:Id) (ms:List Mod):List Str:=ms.foldl (fun ns m=>if hitB p k on to id m then addN ns m.name else ns) [[]]
theorem namesOf_snoc (p:Prog) (k:Int) (on to id:Id) {ms:List Mod} {i:Nat} (h:i<ms.length):namesOf p k on to id (ms.take (i+1))=if hitB p k on to id ms[i] then addN (namesOf p k on to id (ms.take i)) ms[i].name else namesOf p k on to id (ms.take i):=by
 unfold namesOf
 rw[take_snoc h,List.foldl_append];rfl
theorem foldN_contains (q:Mod→Bool) (s:Str):∀ (ms:List Mod) (ns:List Str),(ms.foldl (fun ns m=>if q m then addN ns m.name else ns) ns).contains s=(ns.contains s || ms.any fun m=>m.name==s&&q m)
 | [],ns=>by simp
 | m :: ms,ns=>by
  rw[List.foldl_cons,foldN_contains q s ms,List.any_cons]
  cases hq:q m with
  | false=>simp
  | true =>
   rw[if_pos rfl,addN_contains,Bool.and_true,Bool.or_assoc]
   congr 2
   rw[Bool.eq_iff_iff]
   simp only[beq_iff_eq]
   exact eq_comm
theorem isOf_exists (p:Prog) (x:Id):isOf p x=existsB p x:=by
 unfold isOf existsB
 rw[Bool.eq_iff_iff]
 simp only[Bool.or_eq_true,List.any_eq_true,ownedB,Bool.and_eq_true]
 constructor
 ·rintro (h|⟨d,hd,ho⟩)
  ·exact .inl h
  ·exact .inr ⟨d,hd,.inr ⟨d,hd,by simp,ho⟩⟩
 ·rintro (h|⟨d,hd,⟨m,hm,h1,_⟩|⟨d',hd',_,ho⟩⟩)
  ·exact .inl h
  ·exact .inl ⟨m,hm,h1⟩
  ·exact .inr ⟨d',hd',ho⟩
theorem modsOf_mem (p:Prog) (x m:Id):(modsOf p x).contains m=(ownedB p x m || standsB p x m):=by
 rw[Bool.eq_iff_iff]
 simp only[modsOf,List.contains_eq_mem,List.mem_append,List.mem_map,List.mem_filter,decide_eq_true_eq,Bool.or_eq_true,ownedB,standsB,List.any_eq_true,Bool.and_eq_true,beq_iff_eq,inD]
 constructor
 ·rintro (⟨d,⟨h1,h2⟩,rfl⟩|⟨d,⟨h1,h2|⟨h2,h3⟩⟩,rfl⟩)
  ·exact .inl (.inl ⟨d,h1,h2,rfl⟩)
  ·exact .inl (.inr ⟨d,h1,rfl,h2⟩)
  ·exact .inr ⟨d,h1,⟨rfl,h2⟩,h3⟩
 ·rintro ((⟨d,h1,h2,rfl⟩|⟨d,h1,rfl,h2⟩)|⟨d,h1,⟨rfl,h2⟩,h3⟩)
  ·exact .inl ⟨d,⟨h1,h2⟩,rfl⟩
  ·exact .inr ⟨d,⟨h1,.inl h2⟩,rfl⟩
  ·exact .inr ⟨d,⟨h1,.inr ⟨h2,h3⟩⟩,rfl⟩
theorem hit_concerns (p:Prog) (k:Int) (on to id:Id) (m:Mod):hitB p k on to id m=concernsB p k on to id m.id:=by
 unfold hitB concernsB
 rw[isOf_exists]
 congr 1
 by_cases h:k=6
 ·rw[if_pos h,h]
  have e:(modsOf p (xOf 6 on id)++[to]).contains m.id=((modsOf p (xOf 6 on id)).contains m.id || m.id==to):=by rw[Bool.eq_iff_iff];simp
  rw[e,modsOf_mem]
  congr 1
  simp only[decide_true,Bool.true_and]
  rw[Bool.eq_iff_iff]
  simp only[beq_iff_eq]
  exact eq_comm
 ·rw[if_neg h,List.append_nil,modsOf_mem]
  simp[h]
theorem names_fits (p:Prog) (k:Int) (on to id:Id) (r:Rule):(namesOf p k on to id p.mods).contains r.mod=fitsB p k on to id r:=by
 unfold namesOf fitsB
 rw[foldN_contains]
 congr 1
 ·by_cases h:r.mod=[]
  ·rw[h];rfl
  ·have:(r.mod==[])=false:=by simpa using h
   rw[this];simpa using h
 ·refine congrArg (List.any p.mods) (funext fun m=>?_)
  rw[hit_concerns]
theorem flat_length {z:Nat} : ∀ {rows:List (List AV)},(∀ r∈rows,r.length=z)→rows.flatten.length=rows.length*z
 | [],_=>by simp
 | r :: rows,h=>by
  rw[List.flatten_cons,List.length_append,flat_length (fun r hr=>h r (List.mem_cons_of_mem _ hr)),h r (List.mem_cons_self ..),List.length_cons,Nat.add_mul,Nat.one_mul,Nat.add_comm]
theorem flat_row {z:Nat} : ∀ {rows:List (List AV)} {i:Nat} {r:List AV},(∀ r∈rows,r.length=z)→rows[i]?=some r→(rows.flatten.drop (i*z)).take z=r
 | [],i,r,_,hi=>by simp at hi
 | a :: rows,0,r,h,hi=>by
  simp only[List.getElem?_cons_zero,Option.some.injEq] at hi
  subst hi
  have ha:=h a (List.mem_cons_self ..)
  rw[Nat.zero_mul,List.drop_zero,List.flatten_cons,← ha,List.take_left']
  rfl
 | a :: rows,i+1,r,h,hi=>by
  have ha:=h a (List.mem_cons_self ..)
  rw[List.flatten_cons,Nat.add_mul,Nat.one_mul,Nat.add_comm,← ha,← List.drop_drop,List.drop_left' rfl,ha]
  exact flat_row (fun r hr=>h r (List.mem_cons_of_mem _ hr)) (by simpa using hi)
theorem ids_wide {l:List Id} : ∀ r∈encIds l,r.length=3:=fun r hr=>by
 simp only[encIds,List.mem_map] at hr
 obtain⟨i,_,rfl⟩:=hr
 rfl
theorem ids_load {l:List Id} {i:Nat} {d:Id} (h:l[i]?=some d):loadCellsAV false true 3 (i*3) (encIds l).flatten=some (.agg (encId d)):=by
 have hlt:=(List.getElem?_eq_some_iff.1 h).1
 have hl:(encIds l).flatten.length=l.length*3:=by rw[flat_length ids_wide,ids_len]
 simp only[loadCellsAV,cond_true,hl,Nat.ble_eq_true_of_le (show i*3+3≤l.length*3 by omega)]
 rw[flat_row (i:=i) ids_wide (ids_at h)]
 rfl
theorem indexO_D (l:List Id) (w:Id) (H:AHeap) (loc:Nat) (ty:TypeId) (hH:H[loc]?=some (.box ty (encIds l).flatten)) (hl:l.length≤9223372036854775806) :
  callD A 51 [.sref loc 0 l.length 3,.agg (encId w)] H=some (.int .i64 (idxI w l 0),none):=by
 refine callD_W (fn:=ir51) rfl rfl rfl ?_
 unfold ir51;dsimp only[oQ,oP,iR,oM,oT,oL,oG,oH,oI,oF,oX,oA,oN,oS,oB,oR,oK,oC,iT,iC,iZ,iE]
 have hlt:=(List.getElem?_eq_some_iff.1 hH).1
 have g0:(H++[AObj.box 36 (encId w)])[loc]?=some (.box ty (encIds l).flatten):=by rw[List.getElem?_append_left hlt];exact hH
 have g1:(H++[AObj.box 36 (encId w)])[H.length]?=some (.box 36 (encId w)):=by simp
 have gt:(H++[AObj.box 36 (encId w)]).take H.length=H:=by simp
 rw[encId] at *
 simp (disch:=omega) only[evB,↓reduceIte,Nat.reduceEqDiff,Nat.reduceBEq,Nat.reduceAdd,Nat.reduceMul,reduceCtorEq,Nat.reduceLeDiff,Int.reduceEq,Int.reduceLT,Int.reduceLE,Int.reduceBEq,Int.reduceBNe,Int.reduceAdd,Int.reduceNeg,Int.reduceSub,Int.reduceMul]
 generalize H++[AObj.box 36 [AV.int IntKind.i64 w.shop,AV.int IntKind.i64 w.seq,AV.int IntKind.i64 w.index]]=HH at g0 g1 gt ⊢
 refine W_count l.length (fun i=>Hd (fun T=>T 0=.sref loc 0 l.length 3∧T 3=.ref H.length 0∧T 7=.int .i64 l.length∧T 8=.int .i64 i∧idxI w l 0=idxI w (l.drop i) i) HH H.length 0) ?_ 0 _ (Nat.zero_le _) ?_
 ·rintro i s hi hs
  obtain⟨T,rfl,h0,h3,h7,h8,hc⟩:=hs.out
  by_cases h:i<l.length
  ·have hg:=ids_load (List.getElem?_eq_getElem h)
   have hc' : idxI w l 0=if l[i]==w then (i:Int) else idxI w (l.drop (i+1)) (i+1):=by rw[hc,List.drop_eq_getElem_cons h];rfl
   generalize l[i]=e at hg hc'
   rw[encId] at hg
   cases hb:(w==e) with
   | true =>
    have hb' : (e==w)=true:=by rw[beq_iff_eq] at *;exact hb.symm
    rw[hb'] at hc'
    simp (disch:=omega) only[evO,↓reduceIte,Nat.reduceEqDiff,Nat.reduceBEq,Nat.reduceAdd,Nat.reduceMul,reduceCtorEq,Nat.reduceLeDiff,Int.reduceEq,Int.reduceLT,Int.reduceLE,Int.reduceBEq,Int.reduceBNe,Int.reduceAdd,Int.reduceNeg,Int.reduceSub,Int.reduceMul,h0,h3,h7,h8,g0,g1,gt,hg,bin_flat,flat_id,hb,blt_of,Nat.zero_add]
    simp[hc']
   | false =>
    have hb' : (e==w)=false:=by rw[beq_eq_false_iff_ne] at *;exact Ne.symm hb
    rw[hb'] at hc'
    simp (disch:=omega) only[evO,↓reduceIte,Nat.reduceEqDiff,Nat.reduceBEq,Nat.reduceAdd,Nat.reduceMul,reduceCtorEq,Nat.reduceLeDiff,Int.reduceEq,Int.reduceLT,Int.reduceLE,Int.reduceBEq,Int.reduceBNe,Int.reduceAdd,Int.reduceNeg,Int.reduceSub,Int.reduceMul,h0,h3,h7,h8,g0,g1,gt,hg,bin_flat,flat_id,hb,blt_of,Nat.zero_add]
    exact⟨h,by simpa using hc'⟩
  ·have:i=l.length:=by omega
   subst this
   simp (disch:=omega) only[evO,↓reduceIte,Nat.reduceEqDiff,Nat.reduceBEq,Nat.reduceAdd,Nat.reduceMul,reduceCtorEq,Nat.reduceLeDiff,Int.reduceEq,Int.reduceLT,Int.reduceLE,Int.reduceBEq,Int.reduceBNe,Int.reduceAdd,Int.reduceNeg,Int.reduceSub,Int.reduceMul,h0,h3,h7,h8,g0,g1,gt]
   simp[hc,idxI]
 ·simp (disch:=omega) only[evB,↓reduceIte,Nat.reduceEqDiff,Nat.reduceBEq,Nat.reduceAdd,Nat.reduceMul,reduceCtorEq,Nat.reduceLeDiff,Int.reduceEq,Int.reduceLT,Int.reduceLE,Int.reduceBEq,Int.reduceBNe,Int.reduceAdd,Int.reduceNeg,Int.reduceSub,Int.reduceMul,List.drop_zero,Int.natCast_zero]
theorem indexN_D (w:Id) (H:AHeap):callD A 51 [.nilsl,.agg (encId w)] H=some (.int .i64 (-1),none):=by
 refine callD_W (fn:=ir51) rfl rfl rfl ?_
 unfold ir51;dsimp only[oQ,oP,iR,oM,oT,oL,oG,oH,oI,oF,oX,oA,oN,oS,oB,oR,oK,oC,iT,iC,iZ,iE]
 rw[encId]
 simp (disch:=omega) only[evB,↓reduceIte,Nat.reduceEqDiff,Nat.reduceBEq,Nat.reduceAdd,Nat.reduceMul,reduceCtorEq,Nat.reduceLeDiff,Int.reduceEq,Int.reduceLT,Int.reduceLE,Int.reduceBEq,Int.reduceBNe,Int.reduceAdd,Int.reduceNeg,Int.reduceSub,Int.reduceMul]
 refine W_count 0 (fun i=>Hd (fun T=>T 7=.int .i64 0∧T 8=.int .i64 i) (H++[.box 36 (encId w)]) H.length 0) ?_ 0 _ (Nat.zero_le _) ?_
 ·rintro i s hi hs
  obtain⟨T,rfl,h7,h8⟩:=hs.out
  have:i=0:=by omega
  subst this
  simp (disch:=omega) only[evO,↓reduceIte,Nat.reduceEqDiff,Nat.reduceBEq,Nat.reduceAdd,Nat.reduceMul,reduceCtorEq,Nat.reduceLeDiff,Int.reduceEq,Int.reduceLT,Int.reduceLE,Int.reduceBEq,Int.reduceBNe,Int.reduceAdd,Int.reduceNeg,Int.reduceSub,Int.reduceMul,h7,h8]
 ·simp (disch:=omega) only[evB,↓reduceIte,Nat.reduceEqDiff,Nat.reduceBEq,Nat.reduceAdd,Nat.reduceMul,reduceCtorEq,Nat.reduceLeDiff,Int.reduceEq,Int.reduceLT,Int.reduceLE,Int.reduceBEq,Int.reduceBNe,Int.reduceAdd,Int.reduceNeg,Int.reduceSub,Int.reduceMul,Int.natCast_zero]
  first|rfl|exact⟨rfl,rfl⟩
def Holds (H:AHeap) (X:AV) (l:List Id):Prop:=(X=.nilsl∧l=[])∨∃ loc ty,X=.sref loc 0 l.length 3∧H[loc]?=some (.box ty (encIds l).flatten)
theorem Holds.app {H K:AHeap} {X:AV} {l:List Id} (h:Holds H X l):Holds (H++K) X l:=by
 rcases h with h|⟨loc,ty,h1,h2⟩
 ·exact .inl h
 ·exact .inr ⟨loc,ty,h1,by rw[List.getElem?_append_left (List.getElem?_eq_some_iff.1 h2).1];exact h2⟩
theorem containsX_D {H:AHeap} {X:AV} {l:List Id} (h:Holds H X l) (w:Id) (hl:l.length≤9223372036854775806):callD A 26 [X,.agg (encId w)] H=some (.bool (l.contains w),none):=by
 refine callD_W (fn:=ir26) rfl rfl rfl ?_
 unfold ir26;dsimp only[oQ,oP,iR,oM,oT,oL,oG,oH,oI,oF,oX,oA,oN,oS,oB,oR,oK,oC,iT,iC,iZ,iE]
 rcases h.app (K:=[.box 36 (encId w)]) with ⟨rfl,rfl⟩|⟨loc,ty,rfl,h2⟩
 ·have hx:=indexN_D w (H++[.box 36 (encId w)])
  rw[encId] at *
  simp (disch:=omega) only[evB,↓reduceIte,Nat.reduceEqDiff,Nat.reduceBEq,Nat.reduceAdd,Nat.reduceMul,reduceCtorEq,Nat.reduceLeDiff,Int.reduceEq,Int.reduceLT,Int.reduceLE,Int.reduceBEq,Int.reduceBNe,Int.reduceAdd,Int.reduceNeg,Int.reduceSub,Int.reduceMul,hx,ge_iff_le]
  first|rfl|simp
 ·have hx:=indexO_D l w (H++[.box 36 (encId w)]) loc ty h2 hl
  rw[encId] at *
  simp (disch:=omega) only[evB,↓reduceIte,Nat.reduceEqDiff,Nat.reduceBEq,Nat.reduceAdd,Nat.reduceMul,reduceCtorEq,Nat.reduceLeDiff,Int.reduceEq,Int.reduceLT,Int.reduceLE,Int.reduceBEq,Int.reduceBNe,Int.reduceAdd,Int.reduceNeg,Int.reduceSub,Int.reduceMul,hx,ge_iff_le,idxI_contains]
theorem intsOf_ints:∀ l:List Int,intsOf (ints l)=some l
 | []=>rfl
 | x :: l=>by
  have:ints (x :: l)=[.int .i64 x] :: ints l:=rfl
  rw[this]
  unfold intsOf
  rw[intsOf_ints l]
  rfl
theorem clone_D (w:List Int) (h:w.length≤1000000000000) (H:AHeap):callD A 27 [.slice (ints w) false] H=some (.slice (ints w) false,none):=by
 refine callD_ov (g:=ovClone) rfl ?_
 simp only[ovClone,intsOf_ints,Option.bind_some,Nat.ble_eq_true_of_le h,cond_true]
def MidP (l:List Rule) (p:Prog) (k:Int) (on to id:Id) (n:Int) (H:AHeap) (T:AFrame) (K:AHeap):Prop :=
 T 0=.slice (encRules l) false∧T 5=.ref H.length 0∧T 6=.ref (H.length+1) 0∧T 9=.str (whatOf k)∧whatOf k≠[]∧T 11=.bool (isOf p (xOf k on id))∧K[H.length]?=some (.box 26 (encProg p))∧K[H.length+1]?=some (.box 44 (encOp k on to n))∧K.take H.length=H∧H.length≤K.length ∧
  Holds K (T 10) (modsOf p (xOf k on id)++(if k=6 then [to] else []))
theorem ofP_D (l:List Rule) (hl:l.length≤1000000) (hw:∀ r∈l,r.who.length≤1000000) (p:Prog) (hp:ProgB p) (k:Int) (on to id:Id) (n:Int) (H:AHeap) :
  ∃ o,callD A 13 [.slice (encRules l) false,.agg (encProg p),.agg (encOp k on to n),.agg (encId id)] H=some (.slice (encRules (ofB l p k on to id)) o,none):=by
 have key:∃ r,callD A 13 [.slice (encRules l) false,.agg (encProg p),.agg (encOp k on to n),.agg (encId id)] H=some r∧∃ o,r=(.slice (encRules (ofB l p k on to id)) o,none):=by
  refine callD_WP (fn:=ir13) rfl rfl rfl ?_
  unfold ir13;dsimp only[oQ,oP,iR,oM,oT,oL,oG,oH,oI,oF,oX,oA,oN,oS,oB,oR,oK,oC,iT,iC,iZ,iE]
  refine W_cutN 5 (HdH (MidP l p k on to id n H) H.length) ?_ ?_
  ·simp only[ICode.pre]
   obtain⟨HH,hHH⟩:∃ HH,HH=H++[AObj.box 26 (encProg p),AObj.box 44 (encOp k on to n),AObj.box 36 (encId id)]:=⟨_,rfl⟩
   have gwh:=what_D k on to n HH
   have g0:HH[H.length]?=some (.box 26 (encProg p)):=by rw[hHH];simp
   have g1:HH[H.length+1]?=some (.box 44 (encOp k on to n)):=by rw[hHH];simp
   have g2:HH[H.length+2]?=some (.box 36 (encId id)):=by rw[hHH];simp
   have gt:HH.take H.length=H:=by rw[hHH];simp
   have gl:HH.length=H.length+3:=by rw[hHH];simp
   obtain⟨H2,hH2,q0,q1,q2,qt,ql⟩:∃ H2,H2=HH.set (H.length+2) (.box 36 (encId (xOf k on id)))∧H2[H.length]?=some (.box 26 (encProg p))∧H2[H.length+1]?=some (.box 44 (encOp k on to n))∧H2[H.length+2]?=some (.box 36 (encId (xOf k on id)))∧H2.take H.length=H∧H2.length=H.length+3 :=
    ⟨_,rfl,by rw[List.getElem?_set_ne (by omega)];exact g0,by rw[List.getElem?_set_ne (by omega)];exact g1,by rw[List.getElem?_set_self (by omega)],by rw[List.take_set_of_le (by omega)];exact gt,by rw[List.length_set];exact gl⟩
   have hsame:xOf k on id=id→H2=HH:=by
    intro e;rw[hH2,e]
    refine List.ext_getElem? fun j=>?_
    rw[List.getElem?_set]
    split
    ·rename_i hj;subst hj;rw[if_pos (by omega),g2]
    ·rfl
   refine W_cutN 3 (HdH (fun T K=>T 0=.slice (encRules l) false∧T 5=.ref H.length 0∧T 6=.ref (H.length+1) 0∧T 7=.ref (H.length+2) 0∧T 9=.str (whatOf k)∧whatOf k≠[]∧K=H2) H.length) ?_ ?_
   ·simp only[ICode.pre]
    rw[encProg,encOp,encId] at *
    by_cases hk:whatOf k=[]
    ·rw[hk] at gwh
     simp (disch:=omega) only[evO,↓reduceIte,Nat.reduceEqDiff,Nat.reduceBEq,Nat.reduceAdd,Nat.reduceMul,reduceCtorEq,Nat.reduceLeDiff,Int.reduceEq,Int.reduceLT,Int.reduceLE,Int.reduceBEq,Int.reduceBNe,Int.reduceAdd,Int.reduceNeg,Int.reduceSub,Int.reduceMul,x_hdh,← hHH,gwh,g1]
     exact⟨true,by rw[ofB,if_pos hk];exact⟨rfl,rfl⟩⟩
    ·have hkb:(whatOf k==[])=false:=by simpa using hk
     by_cases h0:k=0
     ·have e:=hsame (by unfold xOf;rw[if_pos (.inl h0)])
      simp (disch:=omega) only[evO,↓reduceIte,Nat.reduceEqDiff,Nat.reduceBEq,Nat.reduceAdd,Nat.reduceMul,reduceCtorEq,Nat.reduceLeDiff,Int.reduceEq,Int.reduceLT,Int.reduceLE,Int.reduceBEq,Int.reduceBNe,Int.reduceAdd,Int.reduceNeg,Int.reduceSub,Int.reduceMul,x_hdh,← hHH,gwh,g1,hkb]
      exact⟨hk,e.symm⟩
     by_cases h2:k=2
     ·have e:=hsame (by unfold xOf;rw[if_pos (.inr (.inl h2))])
      simp (disch:=omega) only[evO,↓reduceIte,Nat.reduceEqDiff,Nat.reduceBEq,Nat.reduceAdd,Nat.reduceMul,reduceCtorEq,Nat.reduceLeDiff,Int.reduceEq,Int.reduceLT,Int.reduceLE,Int.reduceBEq,Int.reduceBNe,Int.reduceAdd,Int.reduceNeg,Int.reduceSub,Int.reduceMul,x_hdh,← hHH,gwh,g1,hkb]
      exact⟨hk,e.symm⟩
     by_cases h3:k=3
     ·have e:=hsame (by unfold xOf;rw[if_pos (.inr (.inr (.inl h3)))])
      simp (disch:=omega) only[evO,↓reduceIte,Nat.reduceEqDiff,Nat.reduceBEq,Nat.reduceAdd,Nat.reduceMul,reduceCtorEq,Nat.reduceLeDiff,Int.reduceEq,Int.reduceLT,Int.reduceLE,Int.reduceBEq,Int.reduceBNe,Int.reduceAdd,Int.reduceNeg,Int.reduceSub,Int.reduceMul,x_hdh,← hHH,gwh,g1,hkb]
      exact⟨hk,e.symm⟩
     by_cases h4:k=4
     ·have e:=hsame (by unfold xOf;rw[if_pos (.inr (.inr (.inr h4)))])
      simp (disch:=omega) only[evO,↓reduceIte,Nat.reduceEqDiff,Nat.reduceBEq,Nat.reduceAdd,Nat.reduceMul,reduceCtorEq,Nat.reduceLeDiff,Int.reduceEq,Int.reduceLT,Int.reduceLE,Int.reduceBEq,Int.reduceBNe,Int.reduceAdd,Int.reduceNeg,Int.reduceSub,Int.reduceMul,x_hdh,← hHH,gwh,g1,hkb]
      exact⟨hk,e.symm⟩
     ·have e:xOf k on id=on:=by unfold xOf;rw[if_neg (by rintro (h|h|h|h)<;>contradiction)]
      rw[e] at hH2
      simp (disch:=omega) only[evO,↓reduceIte,Nat.reduceEqDiff,Nat.reduceBEq,Nat.reduceAdd,Nat.reduceMul,reduceCtorEq,Nat.reduceLeDiff,Int.reduceEq,Int.reduceLT,Int.reduceLE,Int.reduceBEq,Int.reduceBNe,Int.reduceAdd,Int.reduceNeg,Int.reduceSub,Int.reduceMul,x_hdh,← hHH,gwh,g1,g2,hkb,storeAV]
      exact⟨hk,hH2.symm⟩
   ·rintro s hs
    obtain⟨T,K,g,rfl,h0,h5,h6,h7,h9,hkne,rfl⟩:=hs.out
    simp only[ICode.post,ICode.pre]
    obtain⟨⟨rv,rc⟩,hr,X,hX,hnd⟩:=modules_D p hp (xOf k on id) K
    simp only at hX hnd
    subst hX
    rw[encProg,encOp,encId] at *
    have p0:plainRows [[AV.int .i64 to.shop,.int .i64 to.seq,.int .i64 to.index]]=true:=rfl
    rcases hnd with ⟨m1,rfl,rfl⟩|⟨m1,rfl,rfl⟩
    ·by_cases hk6:k=6
     ·simp (disch:=omega) only[evO,↓reduceIte,Nat.reduceEqDiff,Nat.reduceBEq,Nat.reduceAdd,Nat.reduceMul,reduceCtorEq,Nat.reduceLeDiff,Int.reduceEq,Int.reduceLT,Int.reduceLE,Int.reduceBEq,Int.reduceBNe,Int.reduceAdd,Int.reduceNeg,Int.reduceSub,Int.reduceMul,x_hdh,h0,h5,h6,h7,h9,q0,q1,q2,hr,ao_nil fits0 p0,MidP,encProg,encOp]
      have lo1:(bif decide (K.length<H.length) then K.length else H.length)=H.length:=by rw[show decide (K.length<H.length)=false by simp;omega];rfl
      refine⟨⟨hkne,(hp_old (by omega)).trans q0,(hp_old (by omega)).trans q1,by rw[List.take_append_of_le_length (by omega)];exact qt,by omega,.inr ⟨K.length,freeTy,by rw[m1,if_pos hk6];rfl,?_⟩⟩,lo1⟩
      rw[m1,if_pos hk6,List.getElem?_append_right (Nat.le_refl _)]
      simp[encIds,encId]
     ·simp (disch:=omega) only[evO,↓reduceIte,Nat.reduceEqDiff,Nat.reduceBEq,Nat.reduceAdd,Nat.reduceMul,reduceCtorEq,Nat.reduceLeDiff,Int.reduceEq,Int.reduceLT,Int.reduceLE,Int.reduceBEq,Int.reduceBNe,Int.reduceAdd,Int.reduceNeg,Int.reduceSub,Int.reduceMul,x_hdh,h0,h5,h6,h7,h9,q0,q1,q2,hr,MidP,encProg,encOp]
      exact⟨hkne,qt,by omega,.inl ⟨rfl,by rw[m1,if_neg hk6];rfl⟩⟩
    ·have e0:(K++[AObj.box freeTy (encIds (modsOf p (xOf k on id))).flatten])[H.length]?=K[H.length]?:=hp_old (by omega)
     have e1:(K++[AObj.box freeTy (encIds (modsOf p (xOf k on id))).flatten])[H.length+1]?=K[H.length+1]?:=hp_old (by omega)
     have e2:(K++[AObj.box freeTy (encIds (modsOf p (xOf k on id))).flatten])[K.length]?=some (.box freeTy (encIds (modsOf p (xOf k on id))).flatten):=by simp
     generalize hKK:K++[AObj.box freeTy (encIds (modsOf p (xOf k on id))).flatten]=KK at e0 e1 e2 hr
     have kkl:KK.length=K.length+1:=by rw[← hKK];simp
     have kkt:KK.take H.length=H:=by rw[← hKK,List.take_append_of_le_length (by omega)];exact qt
     by_cases hk6:k=6
     ·have hlen:(modsOf p (xOf k on id)).length≤2000000:=by
       obtain⟨hm,hd,_,_⟩:=hp
       unfold modsOf
       rw[List.length_append,List.length_map,List.length_map]
       have a1:=List.length_filter_le (fun m:Mod=>m.id==xOf k on id) p.mods
       have a2:=List.length_filter_le (inD (xOf k on id)) p.defs
       omega
      have hao:=fun (A0:AP) (os:List IOper) (T0:AFrame) (lo gen:Nat) (Q:AS→Prop)=>ao_more (A:=A0) (T:=T0) (lo:=lo) (gen:=gen) (K:=Q) (os:=os) (t:=44) (sz:=3) (bytes:=24) (n:=(modsOf p (xOf k on id)).length) (f:=[[AV.int .i64 to.shop,.int .i64 to.seq,.int .i64 to.index]]) (own:=true) e2 (by rw[flat_length ids_wide,ids_len]) (by simp;omega) (by simp;omega) rfl rfl
      simp (disch:=omega) only[evO,↓reduceIte,Nat.reduceEqDiff,Nat.reduceBEq,Nat.reduceAdd,Nat.reduceMul,reduceCtorEq,Nat.reduceLeDiff,Int.reduceEq,Int.reduceLT,Int.reduceLE,Int.reduceBEq,Int.reduceBNe,Int.reduceAdd,Int.reduceNeg,Int.reduceSub,Int.reduceMul,x_hdh,h0,h5,h6,h7,h9,e0,e1,q0,q1,q2,hr,hao,MidP,encProg,encOp]
      have lo1:(bif decide (K.length<H.length) then K.length else H.length)=H.length:=by rw[show decide (K.length<H.length)=false by simp;omega];rfl
      refine⟨⟨hkne,(hp_old (by rw[List.length_set];omega)).trans (by rw[List.getElem?_set_ne (by omega),e0];exact q0),(hp_old (by rw[List.length_set];omega)).trans (by rw[List.getElem?_set_ne (by omega),e1];exact q1),by rw[List.take_append_of_le_length (by rw[List.length_set];omega),List.take_set_of_le (by omega)];exact kkt,by rw[List.length_set];omega,.inr ⟨KK.length,freeTy,by rw[if_pos hk6,List.length_append];rfl,?_⟩⟩,?_⟩
      ·rw[if_pos hk6,List.getElem?_append_right (by rw[List.length_set];omega),List.length_set,Nat.sub_self]
       simp[encIds,encId]
      ·simp only[lo1]
     ·simp (disch:=omega) only[evO,↓reduceIte,Nat.reduceEqDiff,Nat.reduceBEq,Nat.reduceAdd,Nat.reduceMul,reduceCtorEq,Nat.reduceLeDiff,Int.reduceEq,Int.reduceLT,Int.reduceLE,Int.reduceBEq,Int.reduceBNe,Int.reduceAdd,Int.reduceNeg,Int.reduceSub,Int.reduceMul,x_hdh,h0,h5,h6,h7,h9,e0,e1,q0,q1,q2,hr,MidP,encProg,encOp]
      have lo1:(bif decide (K.length<H.length) then K.length else H.length)=H.length:=by rw[show decide (K.length<H.length)=false by simp;omega];rfl
      exact⟨⟨hkne,kkt,by omega,.inr ⟨K.length,freeTy,by rw[if_neg hk6,List.append_nil],by rw[if_neg hk6,List.append_nil];exact e2⟩⟩,lo1⟩
  ·rintro s hs
   obtain⟨T,K,g,rfl,h0,h5,h6,h9,hkne,h11,k0,k1,kt,kl,hX⟩:=hs.out
   simp only[ICode.post]
   obtain⟨hm,hd,_,_⟩:=hp
   have lo1:decide (K.length<H.length)=false:=by simp;omega
   have k1':=k1
   have k0':=k0
   rw[encProg] at k0'
   rw[encOp] at k1'
   have kN:∀ (ns:List Str),(K++[AObj.map 1 false false (nrows ns)])[K.length]?=some (.map 1 false false (nrows ns)):=fun ns=>by simp
   have kO:∀ (o:AObj) (q:Nat),q<K.length→(K++[o])[q]?=K[q]?:=fun o q hq=>List.getElem?_append_left hq
   have kB:∀ (o:AObj),(K++[o])[H.length]?=some (.box 26 [.slice (encMods p.mods) false,.slice (encDefs p.defs) false]):=fun o=>by rw[kO o _ (List.getElem?_eq_some_iff.1 k0).1];exact k0'
   have kC:∀ (o:AObj),(K++[o])[H.length+1]?=K[H.length+1]?:=fun o=>kO o _ (List.getElem?_eq_some_iff.1 k1).1
   have kT:∀ (o:AObj),(K++[o]).take H.length=H:=fun o=>by rw[List.take_append_of_le_length kl];exact kt
   have kS:∀ (o o' : AObj),(K++[o]).set K.length o'=K++[o']:=fun o o'=>by simp
   have hm0:∀ (T:AFrame) (lo gen:Nat),evMset ⟨T,K++[AObj.map 1 false false []],lo,gen⟩ 1 false false 1 [.s] (.mref K.length) (.str []) (.bool true)=some ⟨T,K++[AObj.map 1 false false (nrows [[]])],cond (Nat.blt K.length lo) K.length lo,gen⟩:=fun T lo gen=>by
    have:=mset_names (T:=T) (H:=K++[AObj.map 1 false false (nrows [])]) (lo:=lo) (gen:=gen) (s:=[]) (kN [])
    rw[kS] at this
    exact this
   have hmN:∀ (T:AFrame) (lo gen:Nat) (ns:List Str) (s:Str),evMset ⟨T,K++[AObj.map 1 false false (nrows ns)],lo,gen⟩ 1 false false 1 [.s] (.mref K.length) (.str s) (.bool true)=some ⟨T,K++[AObj.map 1 false false (nrows (addN ns s))],cond (Nat.blt K.length lo) K.length lo,gen⟩:=fun T lo gen ns s=>by
    have:=mset_names (T:=T) (lo:=lo) (gen:=gen) (s:=s) (kN ns)
    rw[kS] at this
    exact this
   have hlk:∀ (ns:List Str) (s:Str),lookX (K++[AObj.map 1 false false (nrows ns)]) false 1 false false [.s] [.bool false] (.mref K.length) (.str s)=some (.bool (ns.contains s)):=fun ns s=>look_names (kN ns)
   obtain⟨X,hXX⟩:∃ X,X=T 10:=⟨_,rfl⟩
   rw[← hXX] at hX
   have h10:=hXX.symm
   have hLl:(modsOf p (xOf k on id)++(if k=6 then [to] else [])).length≤3000000:=by
    unfold modsOf
    rw[List.length_append,List.length_append,List.length_map,List.length_map]
    have a1:=List.length_filter_le (fun m:Mod=>m.id==xOf k on id) p.mods
    have a2:=List.length_filter_le (inD (xOf k on id)) p.defs
    split<;>simp<;>omega
   have x1:∀ q,addrV q X=X:=fun q=>by rcases hX with ⟨rfl,_⟩|⟨_,_,rfl,_⟩<;>rfl
   have x2:frameCell X=true:=by rcases hX with ⟨rfl,_⟩|⟨_,_,rfl,_⟩<;>rfl
   have x3:X.dropAll=X:=by rcases hX with ⟨rfl,_⟩|⟨_,_,rfl,_⟩<;>rfl
   have x4:∀ (t:Nat) (os:List IOper) (T:AFrame) (H:AHeap) (lo gen:Nat) (Q:AS→Prop),movK A false false false 10 X t os T H lo gen Q=WO A false os ⟨T.put t X,H,lo,gen⟩ Q:=fun t os T H lo gen Q=>by
    rcases hX with ⟨rfl,_⟩|⟨_,_,rfl,_⟩
    ·exact mk_nilsl
    ·exact mk_sref
   simp (disch:=omega) only[evO,↓reduceIte,Nat.reduceEqDiff,Nat.reduceBEq,Nat.reduceAdd,Nat.reduceMul,reduceCtorEq,Nat.reduceLeDiff,Int.reduceEq,Int.reduceLT,Int.reduceLE,Int.reduceBEq,Int.reduceBNe,Int.reduceAdd,Int.reduceNeg,Int.reduceSub,Int.reduceMul,x_hdh,h0,h5,h6,h9,h10,h11,k0',k1',hm0,lo1,kB,AS.spent,mods_len]
   refine W_countx p.mods.length 1 (fun j=>HdH (fun T J=>T 0=.slice (encRules l) false∧T 6=.ref (H.length+1) 0∧T 9=.str (whatOf k)∧T 10=X∧T 11=.bool (isOf p (xOf k on id))∧T 12=.mref K.length∧T 48=.slice (encMods p.mods) false∧T 49=.int .i64 p.mods.length∧T 50=.int .i64 j ∧
     J=K++[AObj.map 1 false false (nrows (namesOf p k on to id (p.mods.take j)))]) H.length)
    (HdH (fun T J=>T 0=.slice (encRules l) false∧T 9=.str (whatOf k)∧T 12=.mref K.length∧J=K++[AObj.map 1 false false (nrows (namesOf p k on to id p.mods))]) H.length) (fun _=>False) ?_ ?_ (fun _ h=>h.elim) 0 _ (by omega) ?_
   ·rintro j st hj hst
    obtain⟨T,J,g,rfl,h0,h6,h9,h10,h11,h12,h48,h49,h50,rfl⟩:=hst.out
    by_cases hj' : j<p.mods.length
    ·have hgm:=mods_at (List.getElem?_eq_getElem hj')
     have e1:=namesOf_snoc p k on to id hj'
     have hc:=containsX_D (hX.app (K:=[AObj.map 1 false false (nrows (namesOf p k on to id (p.mods.take j)))])) p.mods[j].id (by omega)
     have e2:hitB p k on to id p.mods[j]=((modsOf p (xOf k on id)++(if k=6 then [to] else [])).contains p.mods[j].id || (decide (k=8)&&!isOf p (xOf k on id))):=rfl
     generalize p.mods[j]=m at hgm e1 hc e2
     generalize (modsOf p (xOf k on id)++(if k=6 then [to] else [])).contains m.id=B at hc e2
     rw[encMod] at hgm
     rw[encId] at hc
     generalize namesOf p k on to id (p.mods.take (j+1))=N1 at e1
     generalize namesOf p k on to id (p.mods.take j)=N0 at e1 hc
     cases B with
     | true =>
      rw[e2,Bool.true_or,if_pos rfl] at e1
      subst e1
      simp (disch:=omega) only[evO,↓reduceIte,Nat.reduceEqDiff,Nat.reduceBEq,Nat.reduceAdd,Nat.reduceMul,reduceCtorEq,Nat.reduceLeDiff,Int.reduceEq,Int.reduceLT,Int.reduceLE,Int.reduceBEq,Int.reduceBNe,Int.reduceAdd,Int.reduceNeg,Int.reduceSub,Int.reduceMul,x_hdh,h0,h6,h9,h10,h11,h12,h48,h49,h50,mods_len,hgm,storeAV,x1,x2,x3,x4,hc,hmN,lo1,AS.spent]
      exact hj'
     | false =>
      rw[Bool.false_or] at e2
      by_cases k8:k=8
      ·rw[decide_eq_true k8,Bool.true_and] at e2
       generalize isOf p (xOf k on id)=I8 at h11 e2
       cases I8 with
       | true =>
        rw[e2,Bool.not_true,if_neg (by simp)] at e1
        subst e1
        simp (disch:=omega) only[evO,↓reduceIte,Nat.reduceEqDiff,Nat.reduceBEq,Nat.reduceAdd,Nat.reduceMul,reduceCtorEq,Nat.reduceLeDiff,Int.reduceEq,Int.reduceLT,Int.reduceLE,Int.reduceBEq,Int.reduceBNe,Int.reduceAdd,Int.reduceNeg,Int.reduceSub,Int.reduceMul,x_hdh,h0,h6,h9,h10,h11,h12,h48,h49,h50,mods_len,hgm,storeAV,x1,x2,x3,x4,hc,hmN,lo1,AS.spent,kC,k1']
        exact hj'
       | false =>
        rw[e2,Bool.not_false,if_pos rfl] at e1
        subst e1
        simp (disch:=omega) only[evO,↓reduceIte,Nat.reduceEqDiff,Nat.reduceBEq,Nat.reduceAdd,Nat.reduceMul,reduceCtorEq,Nat.reduceLeDiff,Int.reduceEq,Int.reduceLT,Int.reduceLE,Int.reduceBEq,Int.reduceBNe,Int.reduceAdd,Int.reduceNeg,Int.reduceSub,Int.reduceMul,x_hdh,h0,h6,h9,h10,h11,h12,h48,h49,h50,mods_len,hgm,storeAV,x1,x2,x3,x4,hc,hmN,lo1,AS.spent,kC,k1']
        exact hj'
      ·rw[decide_eq_false k8,Bool.false_and] at e2
       rw[e2,if_neg (by simp)] at e1
       subst e1
       simp (disch:=omega) only[evO,↓reduceIte,Nat.reduceEqDiff,Nat.reduceBEq,Nat.reduceAdd,Nat.reduceMul,reduceCtorEq,Nat.reduceLeDiff,Int.reduceEq,Int.reduceLT,Int.reduceLE,Int.reduceBEq,Int.reduceBNe,Int.reduceAdd,Int.reduceNeg,Int.reduceSub,Int.reduceMul,x_hdh,h0,h6,h9,h10,h11,h12,h48,h49,h50,mods_len,hgm,storeAV,x1,x2,x3,x4,hc,hmN,lo1,AS.spent,kC,k1']
       exact hj'
    ·have:j=p.mods.length:=by omega
     subst this
     rw[List.take_length]
     simp (disch:=omega) only[evO,↓reduceIte,Nat.reduceEqDiff,Nat.reduceBEq,Nat.reduceAdd,Nat.reduceMul,reduceCtorEq,Nat.reduceLeDiff,Int.reduceEq,Int.reduceLT,Int.reduceLE,Int.reduceBEq,Int.reduceBNe,Int.reduceAdd,Int.reduceNeg,Int.reduceSub,Int.reduceMul,x_hdh,h0,h9,h12,h49,h50]
   ·intro st hst
    obtain⟨T,J,g,rfl,h0,h9,h12,rfl⟩:=hst.out
    have hnf:=names_fits p k on to id
    generalize namesOf p k on to id p.mods=N at hnf
    have hkb:(whatOf k==[])=(whatOf k==[]):=rfl
    simp (disch:=omega) only[evO,↓reduceIte,Nat.reduceEqDiff,Nat.reduceBEq,Nat.reduceAdd,Nat.reduceMul,reduceCtorEq,Nat.reduceLeDiff,Int.reduceEq,Int.reduceLT,Int.reduceLE,Int.reduceBEq,Int.reduceBNe,Int.reduceAdd,Int.reduceNeg,Int.reduceSub,Int.reduceMul,x_hdh,h0,h9,h12,rules_len]
    have hlen:∀ i,((l.take i).filter (okR p k on to id)).length≤1000000:=fun i=>Nat.le_trans (List.length_filter_le _ _) (by rw[List.length_take];omega)
    refine W_countx l.length 3 (fun i=>HdH (fun T J=>T 9=.str (whatOf k)∧T 12=.mref K.length∧T 15=.slice (encRules ((l.take i).filter (okR p k on to id))) true∧T 71=.slice (encRules l) false∧T 72=.int .i64 l.length∧T 73=.int .i64 i∧J=K++[AObj.map 1 false false (nrows N)]) H.length)
     (HdH (fun T J=>T 15=.slice (encRules (l.filter (okR p k on to id))) true∧J=K++[AObj.map 1 false false (nrows N)]) H.length) (fun _=>False) ?_ ?_ (fun _ h=>h.elim) 0 _ (by omega) ?_
    ·rintro i st hi hst
     obtain⟨T,J,g,rfl,h9,h12,h15,h71,h72,h73,rfl⟩:=hst.out
     by_cases h:i<l.length
     ·have hg:=rules_at (List.getElem?_eq_getElem h)
      have e1:=filter_snoc (okR p k on to id) h
      have hln:=hlen i
      have hwr:=hw _ (List.getElem_mem h)
      generalize (l.take (i+1)).filter (okR p k on to id)=acc1 at e1
      generalize (l.take i).filter (okR p k on to id)=acc at h15 e1 hln
      generalize l[i]=r at hg e1 hwr
      have hcl:=fun H=>clone_D r.who (by omega) H
      have e2:okR p k on to id r=(N.contains r.mod&&(r.what==whatOf k || r.what==anyS)):=by rw[hnf];rfl
      have hlr:=hlk N r.mod
      generalize N.contains r.mod=F at e2 hlr
      rw[encRule] at hg
      cases b1:(r.what==whatOf k) with
      | true =>
       rw[b1,Bool.true_or,Bool.and_true] at e2
       rw[e2] at e1
       cases F with
       | true =>
        rw[if_pos rfl] at e1
        subst e1
        simp (disch:=omega) only[evO,↓reduceIte,Nat.reduceEqDiff,Nat.reduceBEq,Nat.reduceAdd,Nat.reduceMul,reduceCtorEq,Nat.reduceLeDiff,Int.reduceEq,Int.reduceLT,Int.reduceLE,Int.reduceBEq,Int.reduceBNe,Int.reduceAdd,Int.reduceNeg,Int.reduceSub,Int.reduceMul,x_hdh,h9,h12,h15,h71,h72,h73,rules_len,hg,storeAV,b1,hlr,hcl,app_rule,AS.spent]
        exact h
       | false =>
        rw[if_neg (by simp),List.append_nil] at e1
        subst e1
        simp (disch:=omega) only[evO,↓reduceIte,Nat.reduceEqDiff,Nat.reduceBEq,Nat.reduceAdd,Nat.reduceMul,reduceCtorEq,Nat.reduceLeDiff,Int.reduceEq,Int.reduceLT,Int.reduceLE,Int.reduceBEq,Int.reduceBNe,Int.reduceAdd,Int.reduceNeg,Int.reduceSub,Int.reduceMul,x_hdh,h9,h12,h15,h71,h72,h73,rules_len,hg,storeAV,b1,hlr]
        exact h
      | false =>
       rw[b1,Bool.false_or] at e2
       cases b2:(r.what==anyS) with
       | true =>
        rw[b2,Bool.and_true] at e2
        rw[anyS] at b2
        rw[e2] at e1
        cases F with
        | true =>
         rw[if_pos rfl] at e1
         subst e1
         simp (disch:=omega) only[evO,↓reduceIte,Nat.reduceEqDiff,Nat.reduceBEq,Nat.reduceAdd,Nat.reduceMul,reduceCtorEq,Nat.reduceLeDiff,Int.reduceEq,Int.reduceLT,Int.reduceLE,Int.reduceBEq,Int.reduceBNe,Int.reduceAdd,Int.reduceNeg,Int.reduceSub,Int.reduceMul,x_hdh,h9,h12,h15,h71,h72,h73,rules_len,hg,storeAV,b1,b2,hlr,hcl,app_rule,AS.spent]
         exact h
        | false =>
         rw[if_neg (by simp),List.append_nil] at e1
         subst e1
         simp (disch:=omega) only[evO,↓reduceIte,Nat.reduceEqDiff,Nat.reduceBEq,Nat.reduceAdd,Nat.reduceMul,reduceCtorEq,Nat.reduceLeDiff,Int.reduceEq,Int.reduceLT,Int.reduceLE,Int.reduceBEq,Int.reduceBNe,Int.reduceAdd,Int.reduceNeg,Int.reduceSub,Int.reduceMul,x_hdh,h9,h12,h15,h71,h72,h73,rules_len,hg,storeAV,b1,b2,hlr]
         exact h
       | false =>
        rw[b2,Bool.and_false] at e2
        rw[anyS] at b2
        rw[e2,if_neg (by simp),List.append_nil] at e1
        subst e1
        simp (disch:=omega) only[evO,↓reduceIte,Nat.reduceEqDiff,Nat.reduceBEq,Nat.reduceAdd,Nat.reduceMul,reduceCtorEq,Nat.reduceLeDiff,Int.reduceEq,Int.reduceLT,Int.reduceLE,Int.reduceBEq,Int.reduceBNe,Int.reduceAdd,Int.reduceNeg,Int.reduceSub,Int.reduceMul,x_hdh,h9,h12,h15,h71,h72,h73,rules_len,hg,storeAV,b1,b2,hlr]
        exact h
     ·have:i=l.length:=by omega
      subst this
      rw[List.take_length] at h15
      simp (disch:=omega) only[evO,↓reduceIte,Nat.reduceEqDiff,Nat.reduceBEq,Nat.reduceAdd,Nat.reduceMul,reduceCtorEq,Nat.reduceLeDiff,Int.reduceEq,Int.reduceLT,Int.reduceLE,Int.reduceBEq,Int.reduceBNe,Int.reduceAdd,Int.reduceNeg,Int.reduceSub,Int.reduceMul,x_hdh,h15,h71,h72,h73]
    ·intro st hst
     obtain⟨T,J,g,rfl,h15,rfl⟩:=hst.out
     simp (disch:=omega) only[evO,↓reduceIte,Nat.reduceEqDiff,Nat.reduceBEq,Nat.reduceAdd,Nat.reduceMul,reduceCtorEq,Nat.reduceLeDiff,Int.reduceEq,Int.reduceLT,Int.reduceLE,Int.reduceBEq,Int.reduceBNe,Int.reduceAdd,Int.reduceNeg,Int.reduceSub,Int.reduceMul,h15,kT]
     exact⟨false,by rw[ofB,if_neg hkne];exact⟨rfl,rfl⟩⟩
    ·simp (disch:=omega) only[evO,↓reduceIte,Nat.reduceEqDiff,Nat.reduceBEq,Nat.reduceAdd,Nat.reduceMul,reduceCtorEq,Nat.reduceLeDiff,Int.reduceEq,Int.reduceLT,Int.reduceLE,Int.reduceBEq,Int.reduceBNe,Int.reduceAdd,Int.reduceNeg,Int.reduceSub,Int.reduceMul,x_hdh,Int.natCast_zero,List.take_zero,List.filter_nil,h0,h9,h12]
     rfl
   ·simp (disch:=omega) only[evO,↓reduceIte,Nat.reduceEqDiff,Nat.reduceBEq,Nat.reduceAdd,Nat.reduceMul,reduceCtorEq,Nat.reduceLeDiff,Int.reduceEq,Int.reduceLT,Int.reduceLE,Int.reduceBEq,Int.reduceBNe,Int.reduceAdd,Int.reduceNeg,Int.reduceSub,Int.reduceMul,x_hdh,Int.natCast_zero,h0,h6,h9,h10,h11,List.take_zero,namesOf,List.foldl_nil]
 obtain⟨r,h1,o,rfl⟩:=key
 exact⟨o,h1⟩
end Go.Proofs.YtemfofdaemgjgaaGreatDoor
end
section
set_option linter.unusedSimpArgs false
set_option linter.unusedVariables false
set_option maxRecDepth 100000
namespace Go.Proofs.YtemfofdaemgjgaaGreatDoor
open Go Go.Abs Go.Proofs
theorem tdiv_nn {a b:Int} (h:0≤a):a.tdiv b=a / b:=Int.tdiv_eq_ediv_of_nonneg h
theorem tmod_nn {a b:Int} (h:0≤a):a.tmod b=a % b:=Int.tmod_eq_emod_of_nonneg h
def idN (n:Int):Id:=⟨0,1+n / 32,n % 32⟩
def tOf (i:Id):Ty:=.mk 3 i []
def tList (t:Ty):Ty:=.mk 2 ⟨0,0,0⟩ [t]
def tInt:Ty:=.mk 0 ⟨0,0,0⟩ []
def tBool:Ty:=.mk 1 ⟨0,0,0⟩ []
theorem id_D (n:Int) (H:AHeap) (h:0≤n∧n≤1000000000000000):callD A 17 [.int .i64 n] H=some (.agg (encId (idN n)),none):=by
 refine callD_W (fn:=ir17) rfl rfl rfl ?_
 unfold ir17;dsimp only[oQ,oP,iR,oM,oT,oL,oG,oH,oI,oF,oX,oA,oN,oS,oB,oR,oK,oC,iT,iC,iZ,iE]
 simp (disch:=omega) only[evO,↓reduceIte,Nat.reduceEqDiff,Nat.reduceBEq,Nat.reduceAdd,Nat.reduceMul,reduceCtorEq,Nat.reduceLeDiff,Int.reduceEq,Int.reduceLT,Int.reduceLE,Int.reduceBEq,Int.reduceBNe,Int.reduceAdd,Int.reduceNeg,Int.reduceSub,Int.reduceMul,storeAV,tdiv_nn,tmod_nn,encId,idN]
theorem of_D (i:Id) (H:AHeap):callD A 32 [.agg (encId i)] H=some (.agg (encTy (tOf i)),none):=by
 refine callD_W (fn:=ir32) rfl rfl rfl ?_
 unfold ir32;dsimp only[oQ,oP,iR,oM,oT,oL,oG,oH,oI,oF,oX,oA,oN,oS,oB,oR,oK,oC,iT,iC,iZ,iE]
 rw[encId]
 simp (disch:=omega) only[evO,↓reduceIte,Nat.reduceEqDiff,Nat.reduceBEq,Nat.reduceAdd,Nat.reduceMul,reduceCtorEq,Nat.reduceLeDiff,Int.reduceEq,Int.reduceLT,Int.reduceLE,Int.reduceBEq,Int.reduceBNe,Int.reduceAdd,Int.reduceNeg,Int.reduceSub,Int.reduceMul,storeAV,encTy,tOf,encTys]
theorem list_D (t:Ty) (H:AHeap):callD A 34 [.agg (encTy t)] H=some (.agg (encTy (tList t)),none):=by
 refine callD_W (fn:=ir34) rfl rfl rfl ?_
 unfold ir34;dsimp only[oQ,oP,iR,oM,oT,oL,oG,oH,oI,oF,oX,oA,oN,oS,oB,oR,oK,oC,iT,iC,iZ,iE]
 rw[encTy_eq]
 simp (disch:=omega) only[evO,↓reduceIte,Nat.reduceEqDiff,Nat.reduceBEq,Nat.reduceAdd,Nat.reduceMul,reduceCtorEq,Nat.reduceLeDiff,Int.reduceEq,Int.reduceLT,Int.reduceLE,Int.reduceBEq,Int.reduceBNe,Int.reduceAdd,Int.reduceNeg,Int.reduceSub,Int.reduceMul,storeAV,encTy,tList,encTys]
 rw[encTy_eq]
structure Mk where
 pos:Int
 temp:Int
 left:Int
 own:Int
 home:Id
 name:Int
structure Cx where
 mm:Nat
 lm:Nat
 ld:Nat
 ty:TypeId
 tm:TypeId
 td:TypeId
 l:List Int
 ms:List (List AV)
 ds:List Def
def encMk (c:Cx) (m:Mk):List AV:=[.sref c.lm 0 c.ms.length 6,.sref c.ld 0 c.ds.length 31,.slice (ints c.l) false,.int .i64 m.pos,.int .i64 m.temp,.int .i64 m.left,.int .i64 m.own,.int .i64 m.home.shop,.int .i64 m.home.seq,.int .i64 m.home.index,.int .i64 m.name]
def setM (c:Cx) (m:Mk) (H:AHeap):AHeap:=H.set c.mm (.box c.ty (encMk c m))
structure MH (c:Cx) (m:Mk) (H:AHeap):Prop where
 h0:H[c.mm]?=some (.box c.ty (encMk c m))
 h1:H[c.lm]?=some (.box c.tm c.ms.flatten)
 h2:H[c.ld]?=some (.box c.td (encDefs c.ds).flatten)
 n1:c.mm≠c.lm
 n2:c.mm≠c.ld
 hl:∀ n∈c.l,I64 n
theorem MH.lt {c:Cx} {m:Mk} {H:AHeap} (h:MH c m H):c.mm<H.length:=(List.getElem?_eq_some_iff.1 h.h0).1
theorem MH.set {c:Cx} {m m' : Mk} {H:AHeap} (h:MH c m H):MH c m' (setM c m' H):=by
 refine⟨?_,?_,?_,h.n1,h.n2,h.hl⟩
 ·unfold setM;rw[List.getElem?_set_self h.lt]
 ·unfold setM;rw[List.getElem?_set_ne h.n1];exact h.h1
 ·unfold setM;rw[List.getElem?_set_ne h.n2];exact h.h2
theorem setM_setM {c:Cx} {m m' : Mk} {H:AHeap} : setM c m (setM c m' H)=setM c m H:=by
 unfold setM;rw[List.set_set]
theorem setM_same {c:Cx} {m:Mk} {H:AHeap} (h:MH c m H):setM c m H=H:=by
 unfold setM
 refine List.ext_getElem? fun j=>?_
 rw[List.getElem?_set]
 split
 ·rename_i hj;subst hj;rw[if_pos h.lt,h.h0]
 ·rfl
theorem setM_len {c:Cx} {m:Mk} {H:AHeap} : (setM c m H).length=H.length:=by unfold setM;simp
theorem setM_take {c:Cx} {m:Mk} {H:AHeap} : (setM c m H).take H.length=setM c m H:=List.take_of_length_le (Nat.le_of_eq setM_len)
set_option linter.defProp false in
def evS:=And.intro evO (And.intro (And.intro (@storeAV.eq_1)
 (And.intro (@tdiv_nn)
 (@tmod_nn)))
 (And.intro (@asNat_of)
 (And.intro (@Int.toNat_natCast)
 (@Nat.add_zero))))
theorem MH.st {c:Cx} {m:Mk} {H:AHeap} (h:MH c m H) (cs:List AV):(H.set c.mm (.box c.ty cs))[c.mm]?=some (.box c.ty cs):=List.getElem?_set_self h.lt
theorem set_take' {H:AHeap} {i:Nat} {o:AObj} : (H.set i o).take H.length=H.set i o:=List.take_of_length_le (Nat.le_of_eq List.length_set)
theorem set_len' {H:AHeap} {i:Nat} {o:AObj} : (H.set i o).length=H.length:=List.length_set
theorem num_D {c:Cx} {m:Mk} {H:AHeap} (h:MH c m H) (n:Int) (hn:0<n):∃ x p,0≤x∧x<n∧callD A 36 [.ref c.mm 0,.int .i64 n] H=some (.int .i64 x,some ⟨setM c { m with pos:=p } H,c.mm⟩):=by
 refine⟨atZ c.l (IntKind.i64.wrap (IntKind.i64.wrap (m.pos+1)-1)) n,IntKind.i64.wrap (m.pos+1),(atZ_range hn).1,(atZ_range hn).2,?_⟩
 refine callD_W (fn:=ir36) rfl rfl rfl ?_
 unfold ir36;dsimp only[oQ,oP,iR,oM,oT,oL,oG,oH,oI,oF,oX,oA,oN,oS,oB,oR,oK,oC,iT,iC,iZ,iE]
 have h0:=h.h0
 have hlt:=h.lt
 have hat:=fun i H=>at_D c.l i n H h.hl hn
 have hst:=h.st
 rw[encMk] at h0
 simp (disch:=omega) only[evO,↓reduceIte,Nat.reduceEqDiff,Nat.reduceBEq,Nat.reduceAdd,Nat.reduceMul,reduceCtorEq,Nat.reduceLeDiff,Int.reduceEq,Int.reduceLT,Int.reduceLE,Int.reduceBEq,Int.reduceBNe,Int.reduceAdd,Int.reduceNeg,Int.reduceSub,Int.reduceMul,h0,hst,storeAV,List.set_set,set_len',set_take',hat,setM,encMk]
theorem node_D {c:Cx} {m:Mk} {H:AHeap} (h:MH c m H) (k n:Int) (ks:List Ex) (ht:0≤m.temp∧m.temp≤1000000000000000) :
  callD A 40 [.ref c.mm 0,.int .i64 k,.int .i64 n,.slice (encExs ks) false] H=some (.agg (encEx (.mk ⟨0,0,m.temp⟩ k n ⟨0,0,0⟩ 0 ⟨0,0,0⟩ none ks none)),some ⟨setM c { m with temp:=m.temp+1,left:=IntKind.i64.wrap (m.left-1) } H,c.mm⟩):=by
 refine callD_W (fn:=ir40) rfl rfl rfl ?_
 unfold ir40;dsimp only[oQ,oP,iR,oM,oT,oL,oG,oH,oI,oF,oX,oA,oN,oS,oB,oR,oK,oC,iT,iC,iZ,iE]
 have h0:=h.h0
 have hlt:=h.lt
 have hst:=h.st
 rw[encMk] at h0
 simp (disch:=omega) only[evO,↓reduceIte,Nat.reduceEqDiff,Nat.reduceBEq,Nat.reduceAdd,Nat.reduceMul,reduceCtorEq,Nat.reduceLeDiff,Int.reduceEq,Int.reduceLT,Int.reduceLE,Int.reduceBEq,Int.reduceBNe,Int.reduceAdd,Int.reduceNeg,Int.reduceSub,Int.reduceMul,h0,hst,storeAV,List.set_set,set_len',set_take',setM,encMk,encEx,encNil,Option.map_none,show m.temp+1-1=m.temp by omega]
theorem name_D {c:Cx} {m:Mk} {H:AHeap} (h:MH c m H) (ht:0≤m.name∧m.name≤1000000000000000) :
  ∃ s:Str,callD A 41 [.ref c.mm 0] H=some (.str s,some ⟨setM c { m with name:=m.name+1 } H,c.mm⟩):=by
 have h0:=h.h0
 have hlt:=h.lt
 have hst:=h.st
 rw[encMk] at h0
 obtain⟨s1,l1,e1⟩:∃ s:Str,s.length≤100∧([[AV.str [117]],[AV.str [118]],[AV.str [119]]]:List (List AV))[((m.name+1) % 3).toNat]?=some [.str s]:=by
  have hj:((m.name+1) % 3).toNat<3:=by omega
  generalize ((m.name+1) % 3).toNat=j at hj
  rcases j with _|_|_|j
  ·exact⟨_,by decide,rfl⟩
  ·exact⟨_,by decide,rfl⟩
  ·exact⟨_,by decide,rfl⟩
  ·omega
 obtain⟨s2,l2,e2⟩:∃ s:Str,s.length≤100∧([[AV.str []],[AV.str [49]],[AV.str [50]],[AV.str [51]],[AV.str [52]],[AV.str [53]],[AV.str [54]],[AV.str [55]]]:List (List AV))[((m.name+1) / 3 % 8).toNat]?=some [.str s]:=by
  have hj:((m.name+1) / 3 % 8).toNat<8:=by omega
  generalize ((m.name+1) / 3 % 8).toNat=j at hj
  rcases j with _|_|_|_|_|_|_|_|j
  iterate 8 exact⟨_,by decide,rfl⟩
  omega
 refine⟨s1++s2,?_⟩
 refine callD_W (fn:=ir41) rfl rfl rfl ?_
 unfold ir41;dsimp only[oQ,oP,iR,oM,oT,oL,oG,oH,oI,oF,oX,oA,oN,oS,oB,oR,oK,oC,iT,iC,iZ,iE]
 simp (disch:=omega) only[evO,↓reduceIte,Nat.reduceEqDiff,Nat.reduceBEq,Nat.reduceAdd,Nat.reduceMul,reduceCtorEq,Nat.reduceLeDiff,Int.reduceEq,Int.reduceLT,Int.reduceLE,Int.reduceBEq,Int.reduceBNe,Int.reduceAdd,Int.reduceNeg,Int.reduceSub,Int.reduceMul,h0,hst,storeAV,List.set_set,set_len',set_take',setM,encMk,tdiv_nn,tmod_nn,asNat_of,e1,e2]
structure Bd where
 id:Id
 n:Int
 ty:Ty
def encBd (b:Bd):List AV:=[.int .i64 b.id.shop,.int .i64 b.id.seq,.int .i64 b.id.index,.int .i64 b.n,.int .i64 b.ty.kind,.int .i64 b.ty.d.shop,.int .i64 b.ty.d.seq,.int .i64 b.ty.d.index,.slice (encTys b.ty.kids) false]
def encBds (l:List Bd):List (List AV):=l.map encBd
theorem bds_len {l:List Bd} : (encBds l).length=l.length:=by simp[encBds]
theorem bds_at {l:List Bd} {i:Nat} {e:Bd} (h:l[i]?=some e):(encBds l)[i]?=some (encBd e):=by simp[encBds,h]
theorem bds_rows {l:List Bd} : RowsB 9 (encBds l) :=
 ⟨fun r hr=>by simp only[encBds,List.mem_map] at hr;obtain⟨n,_,rfl⟩:=hr;rfl,nb_all fun r hr=>by simp only[encBds,List.mem_map] at hr;obtain⟨n,_,rfl⟩:=hr;rfl⟩
theorem app_bds {l m:List Bd} {o:Bool} (h:l.length+m.length≤100000000):appendAV false 9 88 (.slice (encBds l) true) (.slice (encBds m) o)=some (.slice (encBds (l++m)) true):=by
 rw[app_ok bds_rows bds_rows (by rw[bds_len,bds_len];omega) (by rw[bds_len,bds_len];omega)];simp[encBds]
theorem app_bds0 {m:List Bd} {o:Bool} (h:m.length≤100000000):appendAV false 9 88 (.slice [] true) (.slice (encBds m) o)=some (.slice (encBds m) true):=app_bds (l:=[]) (by simpa using h)
theorem app_bd {l:List Bd} {b:Bd} {o:Bool} (h:l.length≤10000000):appendAV false 9 88 (.slice (encBds l) true) (.slice [[.int .i64 b.id.shop,.int .i64 b.id.seq,.int .i64 b.id.index,.int .i64 b.n,.int .i64 b.ty.kind,.int .i64 b.ty.d.shop,.int .i64 b.ty.d.seq,.int .i64 b.ty.d.index,.slice (encTys b.ty.kids) false]] o)=some (.slice (encBds (l++[b])) true):=app_bds (m:=[b]) (by simp;omega)
theorem variable_D {c:Cx} {m:Mk} {H:AHeap} (h:MH c m H) (b:Bd) (ht:0≤m.temp∧m.temp≤1000000000000000) :
  callD A 38 [.ref c.mm 0,.agg (encBd b)] H=some (.agg (encEx (.mk ⟨0,0,m.temp⟩ 2 b.n b.id 0 ⟨0,0,0⟩ none [] none)),some ⟨setM c { m with temp:=m.temp+1,left:=IntKind.i64.wrap (m.left-1) } H,c.mm⟩):=by
 refine callD_W (fn:=ir38) rfl rfl rfl ?_
 unfold ir38;dsimp only[oQ,oP,iR,oM,oT,oL,oG,oH,oI,oF,oX,oA,oN,oS,oB,oR,oK,oC,iT,iC,iZ,iE]
 have hn:=node_D h 2 b.n [] ht
 have hlt:=h.lt
 rw[encExs,encEx] at hn
 rw[encBd]
 simp (disch:=omega) only[evO,↓reduceIte,Nat.reduceEqDiff,Nat.reduceBEq,Nat.reduceAdd,Nat.reduceMul,reduceCtorEq,Nat.reduceLeDiff,Int.reduceEq,Int.reduceLT,Int.reduceLE,Int.reduceBEq,Int.reduceBNe,Int.reduceAdd,Int.reduceNeg,Int.reduceSub,Int.reduceMul,storeAV,hn,setM_len,setM_take,encEx,encExs,encNil,Option.map_none]
theorem with_D (l:List Bd) (b:Bd) (H:AHeap) (hl:l.length≤100000):callD A 42 [.slice (encBds l) false,.agg (encBd b)] H=some (.slice (encBds (l++[b])) true,none):=by
 refine callD_W (fn:=ir42) rfl rfl rfl ?_
 unfold ir42;dsimp only[oQ,oP,iR,oM,oT,oL,oG,oH,oI,oF,oX,oA,oN,oS,oB,oR,oK,oC,iT,iC,iZ,iE]
 rw[encBd]
 simp (disch:=omega) only[evO,↓reduceIte,Nat.reduceEqDiff,Nat.reduceBEq,Nat.reduceAdd,Nat.reduceMul,reduceCtorEq,Nat.reduceLeDiff,Int.reduceEq,Int.reduceLT,Int.reduceLE,Int.reduceBEq,Int.reduceBNe,Int.reduceAdd,Int.reduceNeg,Int.reduceSub,Int.reduceMul,app_bds0,app_bd]
mutual
def sizeT:Ty→Nat
 | .mk _ _ ks=>1+sizeTs ks
def sizeTs:List Ty→Nat
 | []=>0
 | e :: r=>sizeT e+sizeTs r
end
theorem sizeTs_mem:∀ {l:List Ty} {e:Ty},e∈l→sizeT e≤sizeTs l
 | [],e,h=>by cases h
 | a :: r,e,h=>by
  simp only[sizeTs]
  rcases List.mem_cons.1 h with rfl|h
  ·omega
  ·have:=sizeTs_mem h;omega
theorem sizeT_kid {e k:Ty} (h:k∈e.kids):sizeT k<sizeT e:=by
 cases e with
 | mk kd d ks =>
  simp only[Ty.kids] at h
  have:=sizeTs_mem h
  simp only[sizeT];omega
inductive TyLen:Ty→Prop where
 | mk (k:Int) (d:Id) (ks:List Ty) (h1:ks.length≤1000000000) (h:∀ e∈ks,TyLen e):TyLen (.mk k d ks)
theorem TyLen.len {e:Ty} (h:TyLen e):e.kids.length≤1000000000:=by cases h;assumption
theorem TyLen.kid {e k:Ty} (h:TyLen e) (hk:k∈e.kids):TyLen k:=by cases h;rename_i h;exact h k hk
theorem sameType_D:∀ (n:Nat) (a b:Ty) (H:AHeap),sizeT a<n→TyLen a→∃ r:Bool,callD A 62 [.agg (encTy a),.agg (encTy b)] H=some (.bool r,none)
 | 0,_,_,_,h,_=>by omega
 | n+1,a,b,H,h,hl=>by
  have key:∃ r,callD A 62 [.agg (encTy a),.agg (encTy b)] H=some r∧∃ q:Bool,r=(.bool q,none):=by
   refine callD_WP (fn:=ir62) rfl rfl rfl ?_
   unfold ir62;dsimp only[oQ,oP,iR,oM,oT,oL,oG,oH,oI,oF,oX,oA,oN,oS,oB,oR,oK,oC,iT,iC,iZ,iE]
   have hL:=hl.len
   have ih:=fun k (hk:k∈a.kids) (k' : Ty) (H:AHeap)=>sameType_D n k k' H (by have:=sizeT_kid hk;omega) (hl.kid hk)
   rw[encTy_eq,encTy_eq]
   by_cases h1:a.kind=b.kind
   ·cases h2:(a.d==b.d) with
    | false=>simp (disch:=omega) only[evO,↓reduceIte,Nat.reduceEqDiff,Nat.reduceBEq,Nat.reduceAdd,Nat.reduceMul,reduceCtorEq,Nat.reduceLeDiff,Int.reduceEq,Int.reduceLT,Int.reduceLE,Int.reduceBEq,Int.reduceBNe,Int.reduceAdd,Int.reduceNeg,Int.reduceSub,Int.reduceMul,h1,bin_flat,flat_id,h2,ine_t,ine_f];first|exact⟨_,rfl⟩|exact⟨_,rfl,rfl⟩|simp
    | true =>
     by_cases h3:(a.kids.length:Int)=b.kids.length
     ·simp (disch:=omega) only[evO,↓reduceIte,Nat.reduceEqDiff,Nat.reduceBEq,Nat.reduceAdd,Nat.reduceMul,reduceCtorEq,Nat.reduceLeDiff,Int.reduceEq,Int.reduceLT,Int.reduceLE,Int.reduceBEq,Int.reduceBNe,Int.reduceAdd,Int.reduceNeg,Int.reduceSub,Int.reduceMul,h1,bin_flat,flat_id,h2,tys_len,h3]
      generalize hHH:H++[AObj.box 40 [AV.int IntKind.i64 b.kind,AV.int IntKind.i64 a.d.shop,AV.int IntKind.i64 a.d.seq,AV.int IntKind.i64 a.d.index,AV.slice (encTys a.kids) false],AObj.box 40 [AV.int IntKind.i64 b.kind,AV.int IntKind.i64 b.d.shop,AV.int IntKind.i64 b.d.seq,AV.int IntKind.i64 b.d.index,AV.slice (encTys b.kids) false]]=HH
      have g0:HH[H.length]?=some (.box 40 [AV.int IntKind.i64 b.kind,AV.int IntKind.i64 a.d.shop,AV.int IntKind.i64 a.d.seq,AV.int IntKind.i64 a.d.index,AV.slice (encTys a.kids) false]):=by rw[← hHH];simp
      have g1:HH[H.length+1]?=some (.box 40 [AV.int IntKind.i64 b.kind,AV.int IntKind.i64 b.d.shop,AV.int IntKind.i64 b.d.seq,AV.int IntKind.i64 b.d.index,AV.slice (encTys b.kids) false]):=by rw[← hHH];simp
      have gt:HH.take H.length=H:=by rw[← hHH];simp
      refine W_countx a.kids.length 0 (fun i=>Hd (fun T=>T 2=.ref H.length 0∧T 3=.ref (H.length+1) 0∧T 5=.int .i64 i) HH H.length 0)
       (Hd (fun T=>True) HH H.length 0) (Hd (fun T=>T 4=.bool false) HH H.length 0) ?_ ?_ ?_ 0 _ (by omega) ?_
      ·rintro i s hi hs
       obtain⟨T,rfl,e2,e3,e5⟩:=hs.out
       by_cases hi' : i<a.kids.length
       ·have hb:i<b.kids.length:=by omega
        have ha:=tys_at (List.getElem?_eq_getElem hi')
        have hb':=tys_at (List.getElem?_eq_getElem hb)
        obtain⟨q,hq⟩:=ih _ (List.getElem_mem hi') b.kids[i] HH
        rw[encTy_eq,encTy_eq] at hq
        rw[encTy_eq] at ha hb'
        cases q with
        | true=>simp (disch:=omega) only[evO,↓reduceIte,Nat.reduceEqDiff,Nat.reduceBEq,Nat.reduceAdd,Nat.reduceMul,reduceCtorEq,Nat.reduceLeDiff,Int.reduceEq,Int.reduceLT,Int.reduceLE,Int.reduceBEq,Int.reduceBNe,Int.reduceAdd,Int.reduceNeg,Int.reduceSub,Int.reduceMul,e2,e3,e5,g0,g1,tys_len,ha,hb',hq];first|exact hi'|exact⟨hi',rfl⟩|simp[hi']
        | false=>simp (disch:=omega) only[evO,↓reduceIte,Nat.reduceEqDiff,Nat.reduceBEq,Nat.reduceAdd,Nat.reduceMul,reduceCtorEq,Nat.reduceLeDiff,Int.reduceEq,Int.reduceLT,Int.reduceLE,Int.reduceBEq,Int.reduceBNe,Int.reduceAdd,Int.reduceNeg,Int.reduceSub,Int.reduceMul,e2,e3,e5,g0,g1,tys_len,ha,hb',hq]
       ·have:i=a.kids.length:=by omega
        subst this
        simp (disch:=omega) only[evO,↓reduceIte,Nat.reduceEqDiff,Nat.reduceBEq,Nat.reduceAdd,Nat.reduceMul,reduceCtorEq,Nat.reduceLeDiff,Int.reduceEq,Int.reduceLT,Int.reduceLE,Int.reduceBEq,Int.reduceBNe,Int.reduceAdd,Int.reduceNeg,Int.reduceSub,Int.reduceMul,e2,e3,e5,g0,g1,tys_len]
      ·rintro s hs
       obtain⟨T,rfl,_⟩:=hs.out
       simp (disch:=omega) only[evO,↓reduceIte,Nat.reduceEqDiff,Nat.reduceBEq,Nat.reduceAdd,Nat.reduceMul,reduceCtorEq,Nat.reduceLeDiff,Int.reduceEq,Int.reduceLT,Int.reduceLE,Int.reduceBEq,Int.reduceBNe,Int.reduceAdd,Int.reduceNeg,Int.reduceSub,Int.reduceMul]
       exact⟨_,rfl⟩
      ·rintro s hs
       obtain⟨T,rfl,e4⟩:=hs.out
       simp (disch:=omega) only[evO,↓reduceIte,Nat.reduceEqDiff,Nat.reduceBEq,Nat.reduceAdd,Nat.reduceMul,reduceCtorEq,Nat.reduceLeDiff,Int.reduceEq,Int.reduceLT,Int.reduceLE,Int.reduceBEq,Int.reduceBNe,Int.reduceAdd,Int.reduceNeg,Int.reduceSub,Int.reduceMul,e4]
       exact⟨_,rfl⟩
      ·simp (disch:=omega) only[evO,↓reduceIte,Nat.reduceEqDiff,Nat.reduceBEq,Nat.reduceAdd,Nat.reduceMul,reduceCtorEq,Nat.reduceLeDiff,Int.reduceEq,Int.reduceLT,Int.reduceLE,Int.reduceBEq,Int.reduceBNe,Int.reduceAdd,Int.reduceNeg,Int.reduceSub,Int.reduceMul,Int.natCast_zero]
     ·simp (disch:=omega) only[evO,↓reduceIte,Nat.reduceEqDiff,Nat.reduceBEq,Nat.reduceAdd,Nat.reduceMul,reduceCtorEq,Nat.reduceLeDiff,Int.reduceEq,Int.reduceLT,Int.reduceLE,Int.reduceBEq,Int.reduceBNe,Int.reduceAdd,Int.reduceNeg,Int.reduceSub,Int.reduceMul,h1,bin_flat,flat_id,h2,tys_len];first|exact⟨_,rfl⟩|exact⟨_,rfl,rfl⟩|simp
   ·simp (disch:=omega) only[evO,↓reduceIte,Nat.reduceEqDiff,Nat.reduceBEq,Nat.reduceAdd,Nat.reduceMul,reduceCtorEq,Nat.reduceLeDiff,Int.reduceEq,Int.reduceLT,Int.reduceLE,Int.reduceBEq,Int.reduceBNe,Int.reduceAdd,Int.reduceNeg,Int.reduceSub,Int.reduceMul,bin_flat,flat_id];first|exact⟨_,rfl⟩|exact⟨_,rfl,rfl⟩|simp
  obtain⟨r,h1,q,rfl⟩:=key
  exact⟨q,h1⟩
end Go.Proofs.YtemfofdaemgjgaaGreatDoor
end
section
set_option linter.unusedSimpArgs false
set_option linter.unusedVariables false
set_option maxRecDepth 100000
namespace Go.Proofs.YtemfofdaemgjgaaGreatDoor
open Go Go.Abs Go.Proofs
theorem flat_drop {z:Nat} : ∀ {rows:List (List AV)} {i:Nat} {r:List AV} (j:Nat),(∀ r∈rows,r.length=z)→rows[i]?=some r→j≤z→rows.flatten.drop (i*z+j)=r.drop j++(rows.drop (i+1)).flatten
 | [],i,r,j,_,hi,_=>by simp at hi
 | a :: rows,0,r,j,h,hi,hj=>by
  simp only[List.getElem?_cons_zero,Option.some.injEq] at hi
  subst hi
  have ha:=h a (List.mem_cons_self ..)
  rw[Nat.zero_mul,Nat.zero_add,List.flatten_cons,List.drop_append_of_le_length (by omega)]
  rfl
 | a :: rows,i+1,r,j,h,hi,hj=>by
  have ha:=h a (List.mem_cons_self ..)
  have e:(i+1)*z+j=a.length+(i*z+j):=by rw[Nat.add_mul,Nat.one_mul,ha];omega
  rw[e,List.flatten_cons,← List.drop_drop,List.drop_left' rfl,flat_drop j (fun r hr=>h r (List.mem_cons_of_mem _ hr)) (by simpa using hi) hj]
  rfl
theorem flat_cell {z:Nat} {rows:List (List AV)} {i j:Nat} {r:List AV} (h:∀ r∈rows,r.length=z) (hi:rows[i]?=some r) (hj:j<z):rows.flatten[i*z+j]?=r[j]?:=by
 have hr:=h r (List.mem_of_getElem? hi)
 have:=flat_drop j h hi (Nat.le_of_lt hj)
 have e:rows.flatten[i*z+j]?=(rows.flatten.drop (i*z+j))[0]?:=by rw[List.getElem?_drop];rfl
 rw[e,this,List.getElem?_append_left (by rw[List.length_drop];omega),List.getElem?_drop]
 rfl
theorem flat_load {z:Nat} {rows:List (List AV)} {i j sz:Nat} {r:List AV} {agg:Bool} (h:∀ r∈rows,r.length=z) (hi:rows[i]?=some r) (hz:0<z) (hj:j+sz≤z) (hjz:j<z) :
  loadCellsAV false agg sz (i*z+j) rows.flatten=loadCellsAV false agg sz j r:=by
 have hr:=h r (List.mem_of_getElem? hi)
 have hlt:=(List.getElem?_eq_some_iff.1 hi).1
 have hl:rows.flatten.length=rows.length*z:=flat_length h
 have hb:i*z+z≤rows.length*z:=by rw[← Nat.succ_mul];exact Nat.mul_le_mul_right _ hlt
 cases agg with
 | true =>
  simp only[loadCellsAV,cond_true,hl,hr,Nat.ble_eq_true_of_le (show i*z+j+sz≤rows.length*z by omega),Nat.ble_eq_true_of_le hj]
  rw[flat_drop j h hi (by omega),List.take_append_of_le_length (by rw[List.length_drop];omega)]
 | false =>
  simp only[loadCellsAV,cond_false]
  rw[flat_cell h hi hjz]
theorem defs_wide {l:List Def} : ∀ r∈encDefs l,r.length=31:=fun r hr=>by
 simp only[encDefs,List.mem_map] at hr
 obtain⟨i,_,rfl⟩:=hr
 rfl
theorem def_cells {d:Def} : (encDef d).map AV.drop=encDef d:=by simp only[encDef,List.map_cons,List.map_nil,drop_int,drop_str,drop_slice,drop_encNil]
theorem def_load {l:List Def} {i:Nat} {d:Def} (h:l[i]?=some d):loadCellsAV false true 31 (i*31) (encDefs l).flatten=some (.agg (encDef d)):=by
 have:=flat_load (agg:=true) (i:=i) (j:=0) (sz:=31) defs_wide (defs_at h) (by omega) (by omega) (by omega)
 rw[Nat.add_zero] at this
 rw[this]
 have e:((encDef d).drop 0).take 31=encDef d:=rfl
 simp only[loadCellsAV,cond_true,e,def_cells]
 rfl
theorem def_kind {l:List Def} {i:Nat} {d:Def} (h:l[i]?=some d):loadCellsAV false false 1 (i*31+3) (encDefs l).flatten=some (.int .i64 d.kind):=by
 rw[flat_load (i:=i) (j:=3) (sz:=1) defs_wide (defs_at h) (by omega) (by omega) (by omega)];rfl
theorem def_id {l:List Def} {i:Nat} {d:Def} (h:l[i]?=some d):loadCellsAV false true 3 (i*31) (encDefs l).flatten=some (.agg (encId d.id)):=by
 have:=flat_load (agg:=true) (i:=i) (j:=0) (sz:=3) defs_wide (defs_at h) (by omega) (by omega) (by omega)
 rw[Nat.add_zero] at this
 rw[this];rfl
structure MsOK (ms:List (List AV)):Prop where
 wide:∀ r∈ms,r.length=6
 first:∃ (i:Id) (r:List AV),ms[0]?=some (.int .i64 i.shop :: .int .i64 i.seq :: .int .i64 i.index :: r)
theorem mod_id {l:List (List AV)} (h:MsOK l):∃ i:Id,0<l.length∧loadCellsAV false true 3 0 l.flatten=some (.agg (encId i)):=by
 obtain⟨i,r,h0⟩:=h.first
 refine⟨i,(List.getElem?_eq_some_iff.1 h0).1,?_⟩
 have:=flat_load (agg:=true) (i:=0) (j:=0) (sz:=3) h.wide h0 (by omega) (by omega) (by omega)
 rw[Nat.zero_mul,Nat.zero_add] at this
 rw[this]
 have hl:=h.wide _ (List.mem_of_getElem? h0)
 simp only[loadCellsAV,cond_true,hl]
 rfl
def exZero:Ex:=.mk ⟨0,0,0⟩ 0 0 ⟨0,0,0⟩ 0 ⟨0,0,0⟩ (some []) [] (some [])
def defZero:Def:=⟨⟨0,0,0⟩,0,⟨0,0,0⟩,[],[],tInt,exZero,0,[]⟩
def defZ:List AV:=[.int .i64 0,.int .i64 0,.int .i64 0,.int .i64 0,.int .i64 0,.int .i64 0,.int .i64 0,.str [],.slice [] true,.int .i64 0,.int .i64 0,.int .i64 0,.int .i64 0,.slice [] true,.int .i64 0,.int .i64 0,.int .i64 0,.int .i64 0,.int .i64 0,.int .i64 0,.int .i64 0,.int .i64 0,.int .i64 0,.int .i64 0,.int .i64 0,.int .i64 0,.slice [] true,.slice [] true,.slice [] true,.int .i64 0,.slice [] true]
def findD (ds:List Def) (i:Id):Option Def:=ds.find? fun d=>d.id==i
theorem defF_D {c:Cx} {m:Mk} {H:AHeap} (h:MH c m H) (i:Id) (hd:c.ds.length≤1000) :
  callD A 63 [.agg [.sref c.lm 0 c.ms.length 6,.sref c.ld 0 c.ds.length 31],.agg (encId i)] H=some (.tuple [.agg (encDef ((findD c.ds i).getD defZero)),.bool (findD c.ds i).isSome],none):=by
 refine callD_W (fn:=ir63) rfl rfl rfl ?_
 unfold ir63;dsimp only[oQ,oP,iR,oM,oT,oL,oG,oH,oI,oF,oX,oA,oN,oS,oB,oR,oK,oC,iT,iC,iZ,iE]
 have hlm:=(List.getElem?_eq_some_iff.1 h.h1).1
 have hld:=(List.getElem?_eq_some_iff.1 h.h2).1
 rw[encId]
 obtain⟨HH,hHH⟩:∃ HH,HH=H++[AObj.box 26 [.sref c.lm 0 c.ms.length 6,.sref c.ld 0 c.ds.length 31],AObj.box 36 [.int .i64 i.shop,.int .i64 i.seq,.int .i64 i.index]]:=⟨_,rfl⟩
 have g0:HH[H.length]?=some (AObj.box 26 [.sref c.lm 0 c.ms.length 6,.sref c.ld 0 c.ds.length 31]):=by rw[hHH];simp
 have g1:HH[H.length+1]?=some (AObj.box 36 [.int .i64 i.shop,.int .i64 i.seq,.int .i64 i.index]):=by rw[hHH];simp
 have g2:HH[c.ld]?=some (.box c.td (encDefs c.ds).flatten):=by rw[hHH,List.getElem?_append_left hld];exact h.h2
 have gt:HH.take H.length=H:=by rw[hHH];simp
 simp (disch:=omega) only[evS,↓reduceIte,Nat.reduceEqDiff,Nat.reduceBEq,Nat.reduceAdd,Nat.reduceMul,reduceCtorEq,Nat.reduceLeDiff,Int.reduceEq,Int.reduceLT,Int.reduceLE,Int.reduceBEq,Int.reduceBNe,Int.reduceAdd,Int.reduceNeg,Int.reduceSub,Int.reduceMul,← hHH]
 have hdrop:∀ k,k<c.ds.length→∀ d,c.ds[k]?=some d→(c.ds.drop k).find? (fun d=>d.id==i)=if d.id==i then some d else (c.ds.drop (k+1)).find? (fun d=>d.id==i):=by
  intro k hk d e
  have e' : c.ds[k]=d:=Option.some.inj ((List.getElem?_eq_getElem hk).symm.trans e)
  rw[List.drop_eq_getElem_cons hk,List.find?_cons,e']
  cases (d.id==i)<;>rfl
 refine W_countx c.ds.length 0 (fun k=>Hd (fun T=>T 2=.ref H.length 0∧T 3=.ref (H.length+1) 0∧T 4=.lbox 0 defZ∧T 6=.int .i64 k∧findD c.ds i=(c.ds.drop k).find? (fun d=>d.id==i)) HH H.length 1)
  (Hd (fun T=>T 4=.lbox 0 defZ∧findD c.ds i=none) HH H.length 1) (Hd (fun T=>T 4=.lbox 0 (encDef ((findD c.ds i).getD defZero))∧T 5=.bool (findD c.ds i).isSome) HH H.length 1) ?_ ?_ ?_ 0 _ (by omega) ?_
 ·rintro k s hk hs
  obtain⟨T,rfl,e2,e3,e4,e6,hf⟩:=hs.out
  by_cases hk' : k<c.ds.length
  ·obtain⟨d,hd'⟩:∃ d,c.ds[k]?=some d:=⟨_,List.getElem?_eq_getElem hk'⟩
   rw[hdrop k hk' d hd'] at hf
   have q1:=def_id hd'
   have q2:=def_load hd'
   rw[encId] at q1
   rw[encDef] at q2
   rw[defZ] at *
   cases hb:(d.id==i) with
   | true =>
    rw[hb,if_pos rfl] at hf
    simp (disch:=omega) only[evS,↓reduceIte,Nat.reduceEqDiff,Nat.reduceBEq,Nat.reduceAdd,Nat.reduceMul,reduceCtorEq,Nat.reduceLeDiff,Int.reduceEq,Int.reduceLT,Int.reduceLE,Int.reduceBEq,Int.reduceBNe,Int.reduceAdd,Int.reduceNeg,Int.reduceSub,Int.reduceMul,e2,e3,e4,e6,g0,g1,g2,q1,q2,bin_flat,flat_id,hb,hf,Option.getD_some,Option.isSome_some,encDef]
   | false =>
    rw[hb] at hf
    simp (disch:=omega) only[evS,↓reduceIte,Nat.reduceEqDiff,Nat.reduceBEq,Nat.reduceAdd,Nat.reduceMul,reduceCtorEq,Nat.reduceLeDiff,Int.reduceEq,Int.reduceLT,Int.reduceLE,Int.reduceBEq,Int.reduceBNe,Int.reduceAdd,Int.reduceNeg,Int.reduceSub,Int.reduceMul,e2,e3,e4,e6,g0,g1,g2,q1,q2,bin_flat,flat_id,hb]
    exact⟨hk',by simpa using hf⟩
  ·have:k=c.ds.length:=by omega
   subst this
   rw[defZ] at *
   simp (disch:=omega) only[evS,↓reduceIte,Nat.reduceEqDiff,Nat.reduceBEq,Nat.reduceAdd,Nat.reduceMul,reduceCtorEq,Nat.reduceLeDiff,Int.reduceEq,Int.reduceLT,Int.reduceLE,Int.reduceBEq,Int.reduceBNe,Int.reduceAdd,Int.reduceNeg,Int.reduceSub,Int.reduceMul,e2,e3,e4,e6,g0,g1,g2]
   simpa using hf
 ·rintro s hs
  obtain⟨T,rfl,e4,hf⟩:=hs.out
  rw[defZ] at e4
  simp (disch:=omega) only[evS,↓reduceIte,Nat.reduceEqDiff,Nat.reduceBEq,Nat.reduceAdd,Nat.reduceMul,reduceCtorEq,Nat.reduceLeDiff,Int.reduceEq,Int.reduceLT,Int.reduceLE,Int.reduceBEq,Int.reduceBNe,Int.reduceAdd,Int.reduceNeg,Int.reduceSub,Int.reduceMul,e4,hf,gt,Option.getD_none,Option.isSome_none,defZero,encDef,exZero,tInt,encTys,encExs,encSlots,encNil,Option.map_some,strs]
  try rfl
 ·rintro s hs
  obtain⟨T,rfl,e4,e5⟩:=hs.out
  rw[encDef] at *
  simp (disch:=omega) only[evS,↓reduceIte,Nat.reduceEqDiff,Nat.reduceBEq,Nat.reduceAdd,Nat.reduceMul,reduceCtorEq,Nat.reduceLeDiff,Int.reduceEq,Int.reduceLT,Int.reduceLE,Int.reduceBEq,Int.reduceBNe,Int.reduceAdd,Int.reduceNeg,Int.reduceSub,Int.reduceMul,e4,e5,gt]
 ·simp (disch:=omega) only[evS,↓reduceIte,Nat.reduceEqDiff,Nat.reduceBEq,Nat.reduceAdd,Nat.reduceMul,reduceCtorEq,Nat.reduceLeDiff,Int.reduceEq,Int.reduceLT,Int.reduceLE,Int.reduceBEq,Int.reduceBNe,Int.reduceAdd,Int.reduceNeg,Int.reduceSub,Int.reduceMul,Int.natCast_zero,defZ]
  rfl
theorem visible_D {c:Cx} {m:Mk} {H:AHeap} (h:MH c m H) (i:Nat) (hi:i<c.ds.length) (h0:MsOK c.ms):∃ b:Bool,callD A 65 [.ref c.mm 0,.int .i64 i] H=some (.bool b,none):=by
 obtain⟨d,hd⟩:∃ d,c.ds[i]?=some d:=⟨_,List.getElem?_eq_getElem hi⟩
 obtain⟨md,hmn,hm⟩:=mod_id h0
 have key:∃ r,callD A 65 [.ref c.mm 0,.int .i64 i] H=some r∧∃ b:Bool,r=(.bool b,none):=by
  refine callD_WP (fn:=ir65) rfl rfl rfl ?_
  unfold ir65;dsimp only[oQ,oP,iR,oM,oT,oL,oG,oH,oI,oF,oX,oA,oN,oS,oB,oR,oK,oC,iT,iC,iZ,iE]
  have k0:=h.h0
  have k1:=h.h1
  have k2:=h.h2
  have hlt:=h.lt
  have e1:=def_load hd
  have e2:=hm
  rw[encMk] at k0
  rw[encDef] at e1
  rw[encId] at e2
  by_cases h1:(i:Int)<m.own
  ·cases hb:(d.mod==m.home) with
   | true=>simp (disch:=omega) only[evS,↓reduceIte,Nat.reduceEqDiff,Nat.reduceBEq,Nat.reduceAdd,Nat.reduceMul,reduceCtorEq,Nat.reduceLeDiff,Int.reduceEq,Int.reduceLT,Int.reduceLE,Int.reduceBEq,Int.reduceBNe,Int.reduceAdd,Int.reduceNeg,Int.reduceSub,Int.reduceMul,k0,k1,k2,e1,e2,bin_flat,flat_id,hb];simp
   | false=>simp (disch:=omega) only[evS,↓reduceIte,Nat.reduceEqDiff,Nat.reduceBEq,Nat.reduceAdd,Nat.reduceMul,reduceCtorEq,Nat.reduceLeDiff,Int.reduceEq,Int.reduceLT,Int.reduceLE,Int.reduceBEq,Int.reduceBNe,Int.reduceAdd,Int.reduceNeg,Int.reduceSub,Int.reduceMul,k0,k1,k2,e1,e2,bin_flat,flat_id,hb];simp
  ·simp (disch:=omega) only[evS,↓reduceIte,Nat.reduceEqDiff,Nat.reduceBEq,Nat.reduceAdd,Nat.reduceMul,reduceCtorEq,Nat.reduceLeDiff,Int.reduceEq,Int.reduceLT,Int.reduceLE,Int.reduceBEq,Int.reduceBNe,Int.reduceAdd,Int.reduceNeg,Int.reduceSub,Int.reduceMul,k0,k1,k2,e1,e2,bin_flat,flat_id];simp
 obtain⟨r,h1,q,rfl⟩:=key
 exact⟨q,h1⟩
theorem ofK_D {c:Cx} {m:Mk} {H:AHeap} (h:MH c m H) (kind fr:Int) (hf:0≤fr∧fr≤1000000) (h0:MsOK c.ms) (hl:c.ds.length≤1000) :
  ∃ z:Int,callD A 64 [.ref c.mm 0,.int .i64 kind,.int .i64 fr] H=some (.int .i64 z,none)∧(z=-1∨∃ (j:Nat) (d:Def),z=j∧c.ds[j]?=some d∧d.kind=kind):=by
 have key:∃ r,callD A 64 [.ref c.mm 0,.int .i64 kind,.int .i64 fr] H=some r∧∃ z:Int,r=(.int .i64 z,none)∧(z=-1∨∃ (j:Nat) (d:Def),z=j∧c.ds[j]?=some d∧d.kind=kind):=by
  refine callD_WP (fn:=ir64) rfl rfl rfl ?_
  unfold ir64;dsimp only[oQ,oP,iR,oM,oT,oL,oG,oH,oI,oF,oX,oA,oN,oS,oB,oR,oK,oC,iT,iC,iZ,iE]
  have k0:=h.h0
  have k2:=h.h2
  have hlt:=h.lt
  rw[encMk] at k0
  simp (disch:=omega) only[evS,↓reduceIte,Nat.reduceEqDiff,Nat.reduceBEq,Nat.reduceAdd,Nat.reduceMul,reduceCtorEq,Nat.reduceLeDiff,Int.reduceEq,Int.reduceLT,Int.reduceLE,Int.reduceBEq,Int.reduceBNe,Int.reduceAdd,Int.reduceNeg,Int.reduceSub,Int.reduceMul,k0,k2]
  refine W_countx c.ds.length 0 (fun i=>Hd (fun T=>T 0=.ref c.mm 0∧T 1=.int .i64 kind∧T 2=.int .i64 fr∧T 7=.int .i64 c.ds.length∧T 8=.int .i64 i) H H.length 0)
   (Hd (fun T=>True) H H.length 0) (Hd (fun T=>∃ z:Int,T 6=.int .i64 z∧(z=-1∨∃ (j:Nat) (d:Def),z=j∧c.ds[j]?=some d∧d.kind=kind)) H H.length 0) ?_ ?_ ?_ 0 _ (by omega) ?_
  ·rintro i s hi hs
   obtain⟨T,rfl,e0,e1,e2,e7,e8⟩:=hs.out
   by_cases hi' : i<c.ds.length
   ·have hn:(c.ds.length:Int)≠0:=by omega
    have hn2:decide ((c.ds.length:Int)=0)=false:=by simpa using fun e=>by rw[e] at hi';simp at hi'
    obtain⟨j,hj⟩:∃ j:Nat,(fr+i) % (c.ds.length:Int)=j:=⟨((fr+i) % (c.ds.length:Int)).toNat,by rw[Int.toNat_of_nonneg (Int.emod_nonneg _ hn)]⟩
    have hjl:j<c.ds.length:=by have:=Int.emod_lt_of_pos (fr+i) (show (0:Int)<c.ds.length by omega);omega
    obtain⟨d,hd⟩:∃ d,c.ds[j]?=some d:=⟨_,List.getElem?_eq_getElem hjl⟩
    have q1:=def_kind hd
    obtain⟨b,hb⟩:=visible_D h j hjl h0
    by_cases hk:d.kind=kind
    ·cases b with
     | true =>
      simp (disch:=omega) only[evS,↓reduceIte,Nat.reduceEqDiff,Nat.reduceBEq,Nat.reduceAdd,Nat.reduceMul,reduceCtorEq,Nat.reduceLeDiff,Int.reduceEq,Int.reduceLT,Int.reduceLE,Int.reduceBEq,Int.reduceBNe,Int.reduceAdd,Int.reduceNeg,Int.reduceSub,Int.reduceMul,e0,e1,e2,e7,e8,k0,k2,hn2,hj,q1,hk,hb]
      exact⟨_,rfl,.inr ⟨j,d,rfl,hd,hk⟩⟩
     | false =>
      simp (disch:=omega) only[evS,↓reduceIte,Nat.reduceEqDiff,Nat.reduceBEq,Nat.reduceAdd,Nat.reduceMul,reduceCtorEq,Nat.reduceLeDiff,Int.reduceEq,Int.reduceLT,Int.reduceLE,Int.reduceBEq,Int.reduceBNe,Int.reduceAdd,Int.reduceNeg,Int.reduceSub,Int.reduceMul,e0,e1,e2,e7,e8,k0,k2,hn2,hj,q1,hk,hb]
      exact hi'
    ·simp (disch:=omega) only[evS,↓reduceIte,Nat.reduceEqDiff,Nat.reduceBEq,Nat.reduceAdd,Nat.reduceMul,reduceCtorEq,Nat.reduceLeDiff,Int.reduceEq,Int.reduceLT,Int.reduceLE,Int.reduceBEq,Int.reduceBNe,Int.reduceAdd,Int.reduceNeg,Int.reduceSub,Int.reduceMul,e0,e1,e2,e7,e8,k0,k2,hn2,hj,q1]
     exact hi'
   ·have:i=c.ds.length:=by omega
    subst this
    simp (disch:=omega) only[evS,↓reduceIte,Nat.reduceEqDiff,Nat.reduceBEq,Nat.reduceAdd,Nat.reduceMul,reduceCtorEq,Nat.reduceLeDiff,Int.reduceEq,Int.reduceLT,Int.reduceLE,Int.reduceBEq,Int.reduceBNe,Int.reduceAdd,Int.reduceNeg,Int.reduceSub,Int.reduceMul,e0,e1,e2,e7,e8]
  ·rintro s hs
   obtain⟨T,rfl,_⟩:=hs.out
   simp (disch:=omega) only[evS,↓reduceIte,Nat.reduceEqDiff,Nat.reduceBEq,Nat.reduceAdd,Nat.reduceMul,reduceCtorEq,Nat.reduceLeDiff,Int.reduceEq,Int.reduceLT,Int.reduceLE,Int.reduceBEq,Int.reduceBNe,Int.reduceAdd,Int.reduceNeg,Int.reduceSub,Int.reduceMul]
   exact⟨_,rfl,.inl rfl⟩
  ·rintro s hs
   obtain⟨T,rfl,z,e6,hz⟩:=hs.out
   simp (disch:=omega) only[evS,↓reduceIte,Nat.reduceEqDiff,Nat.reduceBEq,Nat.reduceAdd,Nat.reduceMul,reduceCtorEq,Nat.reduceLeDiff,Int.reduceEq,Int.reduceLT,Int.reduceLE,Int.reduceBEq,Int.reduceBNe,Int.reduceAdd,Int.reduceNeg,Int.reduceSub,Int.reduceMul,e6]
   exact⟨_,rfl,hz⟩
  ·simp (disch:=omega) only[evS,↓reduceIte,Nat.reduceEqDiff,Nat.reduceBEq,Nat.reduceAdd,Nat.reduceMul,reduceCtorEq,Nat.reduceLeDiff,Int.reduceEq,Int.reduceLT,Int.reduceLE,Int.reduceBEq,Int.reduceBNe,Int.reduceAdd,Int.reduceNeg,Int.reduceSub,Int.reduceMul,Int.natCast_zero]
 obtain⟨r,h1,q,rfl,h2⟩:=key
 exact⟨q,h1,h2⟩
theorem fitting_D (l:List Bd) (t:Ty) (H:AHeap) (hl:l.length≤100000) (hb:∀ b∈l,TyLen b.ty) :
  ∃ f:List Bd,callD A 37 [.slice (encBds l) false,.agg (encTy t)] H=some (.slice (encBds f) false,none)∧f.length≤l.length∧∀ b∈f,b∈l:=by
 have key:∃ r,callD A 37 [.slice (encBds l) false,.agg (encTy t)] H=some r∧∃ f:List Bd,r=(.slice (encBds f) false,none)∧f.length≤l.length∧∀ b∈f,b∈l:=by
  refine callD_WP (fn:=ir37) rfl rfl rfl ?_
  unfold ir37;dsimp only[oQ,oP,iR,oM,oT,oL,oG,oH,oI,oF,oX,oA,oN,oS,oB,oR,oK,oC,iT,iC,iZ,iE]
  rw[encTy_eq]
  simp (disch:=omega) only[evS,↓reduceIte,Nat.reduceEqDiff,Nat.reduceBEq,Nat.reduceAdd,Nat.reduceMul,reduceCtorEq,Nat.reduceLeDiff,Int.reduceEq,Int.reduceLT,Int.reduceLE,Int.reduceBEq,Int.reduceBNe,Int.reduceAdd,Int.reduceNeg,Int.reduceSub,Int.reduceMul]
  refine W_countx l.length 0 (fun i=>Hd (fun T=>T 0=.slice (encBds l) false∧T 3=.lbox 0 [.int .i64 t.kind,.int .i64 t.d.shop,.int .i64 t.d.seq,.int .i64 t.d.index,.slice (encTys t.kids) false]∧(∃ f,T 5=.slice (encBds f) true∧f.length≤i∧∀ b∈f,b∈l)∧T 6=.int .i64 i) H H.length 1)
   (Hd (fun T=>∃ f,T 5=.slice (encBds f) true∧f.length≤l.length∧∀ b∈f,b∈l) H H.length 1) (fun _=>False) ?_ ?_ (fun _ h=>h.elim) 0 _ (by omega) ?_
  ·rintro i s hi hs
   obtain⟨T,rfl,e0,e3,⟨f,e5,hf1,hf2⟩,e6⟩:=hs.out
   by_cases hi' : i<l.length
   ·obtain⟨d,hd⟩:∃ d,l[i]?=some d:=⟨_,List.getElem?_eq_getElem hi'⟩
    have hm:=List.mem_of_getElem? hd
    have q1:=bds_at hd
    obtain⟨b,hb⟩:=sameType_D _ d.ty t H (Nat.lt_succ_self _) (hb d hm)
    rw[encBd] at q1
    rw[encTy_eq,encTy_eq] at hb
    cases b with
    | true =>
     simp (disch:=omega) only[evS,↓reduceIte,Nat.reduceEqDiff,Nat.reduceBEq,Nat.reduceAdd,Nat.reduceMul,reduceCtorEq,Nat.reduceLeDiff,Int.reduceEq,Int.reduceLT,Int.reduceLE,Int.reduceBEq,Int.reduceBNe,Int.reduceAdd,Int.reduceNeg,Int.reduceSub,Int.reduceMul,e0,e3,e5,e6,q1,hb,bds_len,app_bd]
     exact⟨hi',⟨f++[d],rfl,by simp;omega,fun b hb=>by rcases List.mem_append.1 hb with h|h;exact hf2 b h;rw[List.mem_singleton.1 h];exact hm⟩⟩
    | false =>
     simp (disch:=omega) only[evS,↓reduceIte,Nat.reduceEqDiff,Nat.reduceBEq,Nat.reduceAdd,Nat.reduceMul,reduceCtorEq,Nat.reduceLeDiff,Int.reduceEq,Int.reduceLT,Int.reduceLE,Int.reduceBEq,Int.reduceBNe,Int.reduceAdd,Int.reduceNeg,Int.reduceSub,Int.reduceMul,e0,e3,e5,e6,q1,hb,bds_len]
     exact⟨hi',⟨f,rfl,by omega,hf2⟩⟩
   ·have:i=l.length:=by omega
    subst this
    simp (disch:=omega) only[evS,↓reduceIte,Nat.reduceEqDiff,Nat.reduceBEq,Nat.reduceAdd,Nat.reduceMul,reduceCtorEq,Nat.reduceLeDiff,Int.reduceEq,Int.reduceLT,Int.reduceLE,Int.reduceBEq,Int.reduceBNe,Int.reduceAdd,Int.reduceNeg,Int.reduceSub,Int.reduceMul,e0,e3,e5,e6,bds_len]
    exact⟨f,rfl,hf1,hf2⟩
  ·rintro s hs
   obtain⟨T,rfl,f,e5,hf⟩:=hs.out
   simp (disch:=omega) only[evS,↓reduceIte,Nat.reduceEqDiff,Nat.reduceBEq,Nat.reduceAdd,Nat.reduceMul,reduceCtorEq,Nat.reduceLeDiff,Int.reduceEq,Int.reduceLT,Int.reduceLE,Int.reduceBEq,Int.reduceBNe,Int.reduceAdd,Int.reduceNeg,Int.reduceSub,Int.reduceMul,e5]
   first|exact⟨f,rfl,hf⟩|exact⟨_,rfl,hf⟩
  ·simp (disch:=omega) only[evS,↓reduceIte,Nat.reduceEqDiff,Nat.reduceBEq,Nat.reduceAdd,Nat.reduceMul,reduceCtorEq,Nat.reduceLeDiff,Int.reduceEq,Int.reduceLT,Int.reduceLE,Int.reduceBEq,Int.reduceBNe,Int.reduceAdd,Int.reduceNeg,Int.reduceSub,Int.reduceMul,Int.natCast_zero]
   exact⟨[],rfl,by simp,by simp⟩
 obtain⟨r,h1,f,rfl,h2⟩:=key
 exact⟨f,h1,h2⟩
end Go.Proofs.YtemfofdaemgjgaaGreatDoor
end
